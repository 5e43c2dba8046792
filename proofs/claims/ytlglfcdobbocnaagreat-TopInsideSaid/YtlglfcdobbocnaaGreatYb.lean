/- faces.assembled. -/
import Derived.Test.YtlglfcdobbocnaaGreatYa
set_option maxRecDepth 100000
namespace Go.Proofs.YtlglfcdobbocnaaGreat
open Go Go.Proofs Go.RowKit
attribute [local go_sem] Oper.semAt_some
set_option maxHeartbeats 4000000 in
theorem assembled_any (L : List Prt) (ao : Option Addr) (c : Nat) (w : World) (hL : Prts w ao L) (hao : ∀ x, ao = some x → x.block < w.heap.size) (hn : L.length < 2000) (hnd : (segsL L).Nodup) (hlaid : Laid (ptsF (segsL L)) (edgesF (segsL L))) (hok : ∀ x ∈ ptsF (segsL L), okB x = true) :
    Calls Tryz.prog 20 #[.slice ao L.length c] w (AsmOut L w) := by
  have HL := Lib.hid hL
  have HAO := Lib.hid hao
  have HND := Lib.hid hnd
  have HLD := Lib.hid hlaid
  have HOK := Lib.hid hok
  clear hL hao hnd hlaid hok
  obtain ⟨w0, hw0⟩ : ∃ w0, w.alloc (.cells #[.slice ao L.length c] 48) = w0 := ⟨_, rfl⟩
  obtain ⟨lb, hlb⟩ : ∃ lb, w.heap.size = lb := ⟨_, rfl⟩
  have hz0 : w0.heap.size = lb + 1 := by rw [← hw0, ← hlb]; simp
  obtain ⟨w1, hw1⟩ : ∃ w1, w0.alloc (.cells #[.slice none 0 0, .slice none 0 0, .int .i64 0] 29) = w1 := ⟨_, rfl⟩
  have hz1 : w1.heap.size = lb + 2 := by rw [← hw1]; simp [hz0]
  obtain ⟨w2, hw2⟩ : ∃ w2, w1.alloc (.cells #[.slice none 0 0, .slice none 0 0, .int .i64 0] 29) = w2 := ⟨_, rfl⟩
  have hz2 : w2.heap.size = lb + 3 := by rw [← hw2]; simp [hz1]
  have hk0 : Kept w w0 := by rw [← hw0]; exact (Kept.refl w).alloc _
  have hk1 : Kept w0 w1 := by rw [← hw1]; exact (Kept.refl w0).alloc _
  have hk2 : Kept w1 w2 := by rw [← hw2]; exact (Kept.refl w1).alloc _
  have hl0 : w2.cell? ⟨lb, 0, none⟩ = some (.slice ao L.length c) := hk2.cell (hk1.cell (by rw [← hw0, ← hlb]; simp [go_sem]))
  have hrb1 : MBox w1 (lb + 1) (.slice none 0 0) (.slice none 0 0) 0 := by
    rw [← hw1, ← hz0]
    exact ⟨by simp [go_sem], by simp [go_sem], by simp [go_sem], fun o => frozen_alloc _ _ _ o⟩
  have hrb := hrb1.kept hk2
  have HR1 := Lib.hid hrb1
  clear hrb1
  have hmb : MBox w2 (lb + 2) (.slice none 0 0) (.slice none 0 0) 0 := by
    rw [← hw2, ← hz1]
    exact ⟨by simp [go_sem], by simp [go_sem], by simp [go_sem], fun o => frozen_alloc _ _ _ o⟩
  have HK0 := Lib.hid (hk0.trans hk1)
  have HL0 := Lib.hid hl0
  have HRB := Lib.hid hrb
  have HMB := Lib.hid hmb
  have HK2 := Lib.hid hk2
  have HZ := Lib.hid (And.intro hz1 hlb)
  clear hk0 hk1 hk2
  obtain ⟨n, hnn⟩ : ∃ n, L.length = n := ⟨_, rfl⟩
  have HN := Lib.hid hnn
  rw [hnn] at hn hl0 hw0 ⊢
  clear hnn
  obtain ⟨r0, r1, r2, r3⟩ := hrb
  obtain ⟨m0, m1, m2, m3⟩ := hmb
  have rf0 := r3 0
  have rf1 := r3 1
  have rf2 := r3 2
  have hbl := lt_of_cell hl0
  have hbr := lt_of_cell r0
  have hbm := lt_of_cell m0
  clear r3 m3
  by_cases hbig : 400 < n
  · go_enter Tryz.func20, Tryz.ntmps20
    go_wp2
    refine bodyPost_ret (results_cell_tmp2 rfl _ _ ⟨lb + 1, 0, none⟩ rfl _ (load29 (((HRB.out.put0 _).put1 _).put2 _))) rfl ?_
    have hz := HZ.out.2
    exact asm_fail 2 rfl ((((HK0.out.trans HK2.out).setCell (p := ⟨lb + 1, 0, none⟩) (by show w.heap.size ≤ lb + 1; omega) _).setCell (p := ⟨lb + 1, 1, none⟩) (by show w.heap.size ≤ lb + 1; omega) _).setCell (p := ⟨lb + 1, 2, none⟩) (by show w.heap.size ≤ lb + 1; omega) _) (by decide) (fun h => by have := h.few; rw [segsL_len, HN.out] at this; omega)
  · go_enter Tryz.func20, Tryz.ntmps20
    go_wp2
    clear hw0 hw1 hw2
    go_loopw [25] (fun iv wr => ∃ k : Nat, k ≤ n ∧ iv = .int .i64 k ∧ ∃ v, MBox wr (lb + 2) v (.slice none 0 0) 0 ∧ OwnP wr (lb + 3) v (endsS (segsL (L.take k))) ∧ Kept w1 wr) (fun iv _ => n - (intOf iv).toNat)
    case atStart => exact ⟨0, Nat.zero_le _, rfl, _, HMB.out, OwnG.nil _ _ _ _ _, HK2.out⟩
    case round =>
      obtain ⟨k, hk, rfl, v, hbx, hov, hkw⟩ := hrel
      have HBX := Lib.hid hbx
      have HOV := Lib.hid hov
      have HKW := Lib.hid hkw
      clear hbx hov hkw
      by_cases hlt : k < n
      · have hkl : k < L.length := by rw [HN.out]; exact hlt
        obtain ⟨B, off, rfl, c0, c1, c2, c3, c4, c5⟩ := (HL.out.kept (HK0.out.trans HKW.out)) k hkl
        have HET := Lib.hid (ends_take hkl)
        have HEL := Lib.hid (ends_len L k)
        generalize endsS (segsL (L.take k)) = T at HOV HET HEL
        generalize L[k] = x at c0 c1 c2 c3 c4 c5 HET
        obtain ⟨y2, z2, k2, e3, e4, hg2, hb3, hf3, hk3, hb4, hz3⟩ := new_prt wr x
        have HKR := Lib.hid hk3
        have HOZ := Lib.hid (OwnG.kept HOV.out hk3)
        have HBZ := Lib.hid (HBX.out.kept hk3)
        have hfx := HBZ.out.warm 0
        have m0 := HBZ.out.c0
        have HSM : Hid (lb + 3 ≤ z2.heap.size) := Lib.hid (by have := HKW.out.size; have := lt_of_cell HBX.out.c0; omega)
        obtain ⟨r0, r1, r2, r3, r4, r5⟩ := hb3
        obtain ⟨s0, s1, s2, s3, -, -⟩ := hb4
        simp only [] at r0 r1 r2 r3 r4 r5
        go_upto_region 7 with fail
        clear e3 e4 c0 c1 c2 c3 c4 c5 r0 r1 r2 r3 r4 r5 hf3 hk3
        have hbm := lt_of_cell m0
        have hbs := lt_of_cell s0
        go_wp2_with (first | (at_builtin; refine append_many Tryz.underlying22 info25 rfl (by omega) (by omega) pairC_len pairC_one _ rfl _ _ rfl (lb + 3) v T rfl (OwnG.kept HOZ.out ((Kept.refl _).alloc _)) _ 0 2 2 [x.s.1, x.s.2] rfl rfl (by rw [← hz3]; exact two_cells _ _ _) (by have := HEL.out; omega) (by have := HSM.out; simp; omega) ?_; intro ra rc w6 hown6 hg6 hlies6; have HO6 := Lib.hid hown6; have HG6 := Lib.hid hg6; have HB6 := Lib.hid ((HBZ.out.kept ((Kept.refl _).alloc _)).grown hg6 (fun e => by have := (HOV.out.lt _ e.symm).1; omega)); have m0 := HB6.out.c0; have hfx := HB6.out.warm 0; have hbm := lt_of_cell m0; clear hown6 hg6 hlies6) | fail)
        go_roundw
        case rel =>
          have hn6 : (Value.slice ra (T.length + 2) rc).ownBlock ≠ some (lb + 2) := fun e => by have := (HO6.out.lt _ e).1; omega
          refine ⟨k + 1, by omega, by go_num, _, HB6.out.put0 _, ?_, ?_⟩
          · rw [HET.out]
            exact OwnG.setNe (a := ⟨lb + 2, 0, none⟩) HO6.out hn6 _
          · have := HZ.out.1
            exact (Kept.grown ((HKW.out.trans HKR.out).alloc _) HG6.out (fun r e => by have := (HOV.out.lt r e).1; omega)).setCell (p := ⟨lb + 2, 0, none⟩) (by show w1.heap.size ≤ lb + 2; omega) _
        case measure => simp [intOf]; omega
      · obtain rfl : k = n := by omega
        have htk : L.take k = L := by rw [← HN.out]; exact List.take_length
        rw [htk] at HOV
        have HEN : Hid ((endsS (segsL L)).length < 4000) := Lib.hid (by rw [endsS_len, segsL_len, HN.out]; omega)
        clear htk
        have m0 := HBX.out.c0
        have hbm := lt_of_cell m0
        go_wp2_with fail
        refine (sortedP_any v (endsS (segsL L)) (lb + 3) 39 #[] (fun _ => True) cmpP wr HOV.out (fun g _ => ⟨fun x y W _ _ _ => comparePoints_any x y W, fun args W => rfl⟩) linC (fun _ _ => trivial) (by have := HEN.out; omega)).mono ?_
        rintro e w5 ⟨m, rfl, hpm, hsm, hom, hgm⟩
        have HPM := Lib.hid hpm
        have HSM := Lib.hid hsm
        have HOM := Lib.hid hom
        have HB5 := Lib.hid (HBX.out.grown hgm (fun e => by have := (HOV.out.lt _ e.symm).1; omega))
        have HK5 : Hid (Kept w1 w5) := Lib.hid (Kept.grown HKW.out hgm (fun r e => by have := (HOV.out.lt r e).1; have := HZ.out.1; omega))
        clear hpm hsm hom hgm m0
        have m0 := HB5.out.c0
        have hbm := lt_of_cell m0
        go_wp2_with fail
        refine (Compact_srt v (endsS (segsL L)) m (lb + 3) w5 HOM.out HPM.out HSM.out (by have := HPM.out.length_eq; have := HEN.out; omega)).mono ?_
        rintro e w6 ⟨v6, rfl, ho6, hg6⟩
        have HO6 : Hid (OwnP w6 (lb + 3) v6 (ptsF (segsL L))) := Lib.hid ho6
        have HB6 := Lib.hid (HB5.out.grown hg6 (fun e => by have := (HOM.out.lt _ e.symm).1; omega))
        have HK6 : Hid (Kept w1 w6) := Lib.hid (Kept.grown HK5.out hg6 (fun r e => by have := (HOM.out.lt r e).1; have := HZ.out.1; omega))
        clear ho6 hg6 m0 HSM HPM HB5 HOM HBX HOV
        go_wp2_with fail
        refine (Clip_own v6 (ptsF (segsL L)) (lb + 3) w6 HO6.out).mono ?_
        rintro e w7 ⟨v7, rfl, ⟨ap, cp, rfl, hpp, hbp⟩, rfl⟩
        have HBT : Hid (Between (ptsF (segsL L)) L) := Lib.hid (between_of L (by have h1 := uniP_len (endsS (segsL L)); have := HEN.out; unfold ptsF; omega))
        have HNPT : Hid ((ptsF (segsL L)).length < 4000) := Lib.hid (by have h1 := uniP_len (endsS (segsL L)); have := HEN.out; unfold ptsF; omega)
        have HNP2 : Hid ((ptsF (segsL L)).length ≤ 2 * k) := Lib.hid (by have h1 := uniP_len (endsS (segsL L)); rw [endsS_len, segsL_len, HN.out] at h1; exact h1)
        obtain ⟨P, hP⟩ : ∃ P, ptsF (segsL L) = P := ⟨_, rfl⟩
        have HPE := Lib.hid hP
        rw [hP] at hpp HBT HNPT HNP2 ⊢
        obtain ⟨np, hnp⟩ : ∃ np, P.length = np := ⟨_, rfl⟩
        have HNP := Lib.hid hnp
        rw [hnp] at HNPT HNP2 ⊢
        have HPP := Lib.hid hpp
        have HBP := Lib.hid hbp
        clear hP hnp hpp hbp HO6
        have hsf := fun (a : Addr) (f : FuncId) (c : Array Value) (w : World) => run_store Tryz.prog w a (.func (.func f) #[] c) .plain rfl
        have fz0 := HB6.out.warm 0
        have m0 := HB6.out.c0
        have hbm := lt_of_cell m0
        obtain ⟨w8, hw8⟩ : ∃ w8, w7.setCell ⟨lb + 2, 0, none⟩ (.slice ap np cp) = w8 := ⟨_, rfl⟩
        have HZ8 : Hid (w8.heap.size = w7.heap.size) := Lib.hid (by rw [← hw8]; simp)
        have hb8 : MBox w8 (lb + 2) (.slice ap np cp) (.slice none 0 0) 0 := by rw [← hw8]; exact HB6.out.put0 _
        have hk8 : Kept w1 w8 := by rw [← hw8]; exact HK6.out.setCell (p := ⟨lb + 2, 0, none⟩) (by show w1.heap.size ≤ lb + 2; omega) _
        have hp8 : Pairs w8 ap P := by
          have hs : Sty (lb + 2) w7 w8 := by rw [← hw8]; exact (Sty.refl _ _).set (.inr rfl) _ _
          exact hs.pairs HPP.out (fun x hx => by have := (HBP.out x hx).1; omega)
        obtain ⟨w9, w10, ti, e9, e10, hti, g0, gf, hk10, hg10, hz10⟩ := new_fn 61 w8 (.func (.func 51) #[] #[.pointer (some ⟨lb + 2, 0, none⟩)])
        have hbt := lt_of_cell g0
        go_upto_region 12 with fail
        clear hsf e9 g0 gf hbt fz0 m0 hw8
        have HK10 := Lib.hid (hk8.trans hk10)
        have HB10 := Lib.hid (hb8.kept hk10)
        have HP10 := Lib.hid (hp8.kept hk10)
        have HTI := Lib.hid hg10
        have HTZ : Hid (lb + 2 < ti ∧ w10.heap.size = ti + 1 ∧ ∀ x, ap = some x → lb + 3 ≤ x.block ∧ x.block < ti) := Lib.hid ⟨by have := lt_of_cell HB6.out.c0; have := HZ8.out; omega, hz10, fun x hx => by have := HBP.out x hx; have := HZ8.out; omega⟩
        have HLC := Lib.hid ((hk8.trans hk10).cell (show w1.cell? ⟨lb, 0, none⟩ = some (.slice ao k c) from by have := HK2.out.cells.1 lb 0 (by omega); rw [← this]; exact hl0))
        clear hk8 hb8 hp8 hk10 hg10 e10 HB6 HK6 HPP HBP
        have l0 := HLC.out
        have hll := lt_of_cell l0
        obtain ⟨og, hog⟩ : ∃ og, w10.heap.size = og := ⟨_, rfl⟩
        go_wp2_with (first | (at_make; refine make_val w10 rfl _ _ 36 3 _ 8 rfl Tryz.underlying36 info3 rfl (by decide) k rfl rfl (by omega) ?_; intro w11 ho1 hk1 hs1; rw [hog] at ho1 hs1 ⊢; have HO1 := Lib.hid ho1; have HK11 := Lib.hid hk1; have HS11 := Lib.hid hs1; clear ho1 hk1 hs1) | fail)
        have HO11 : Hid (OwnN w11 og (.slice (some ⟨og, 0, none⟩) k k) (ordL k 0)) := Lib.hid (by
          rw [ordL_zero]
          refine OwnV.ints ?_
          rw [List.map_replicate]
          exact HO1.out)
        clear HO1
        go_loopw [53] (fun iv wo => ∃ j : Nat, j ≤ k ∧ iv = .int .i64 j ∧ OwnN wo og (.slice (some ⟨og, 0, none⟩) k k) (ordL k j) ∧ Kept w10 wo) (fun iv _ => k - (intOf iv).toNat)
        case atStart => exact ⟨0, Nat.zero_le _, rfl, HO11.out, HK11.out⟩
        case round =>
          obtain ⟨j, hj, rfl, hoo, hko⟩ := hrel
          have HOO := Lib.hid hoo
          have HKO := Lib.hid hko
          clear hoo hko
          by_cases hjt : j < k
          · have o0 := atN HOO.out (k := j) (by rw [ordL_len]; exact hjt)
            have of := HOO.out.warm j
            have hol := lt_of_cell o0
            go_wp2
            go_roundw
            case rel =>
              refine ⟨j + 1, by omega, by go_num, ?_, HKO.out.setCell (p := ⟨og, j, none⟩) (Nat.le_of_eq hog) _⟩
              rw [← ordL_set]
              exact OwnG.setN HOO.out (by rw [ordL_len]; exact hjt) _
            case measure => simp [intOf]; omega
          · obtain rfl : k = j := by omega
            rw [ordL_all] at HOO
            have hsf := fun (a : Addr) (f : FuncId) (c d : Array Value) (w : World) => run_store Tryz.prog w a (.func (.func f) c d) .plain rfl
            obtain ⟨w12, w13, te, e12, e13, hte, g0, gf, hk13, hg13, hz13⟩ := new_fn 82 wr (.func (.func 53) #[] #[.pointer (some ⟨ti, 0, none⟩), .pointer (some ⟨lb, 0, none⟩)])
            have hbt := lt_of_cell g0
            go_upto_region 19 with fail
            clear hsf e12 e13 g0 gf hbt
            have HK13 := Lib.hid (HKO.out.trans hk13)
            have hk1d := HK10.out.trans HK13.out
            have HOZ := Lib.hid (And.intro hog hte)
            have HZ13 := Lib.hid hz13
            have hkw := HKO.out.size
            have HNE : Hid (ti < og ∧ og < te ∧ lb + 2 < ti) := Lib.hid (by
              obtain ⟨cur, -, -, hh, -⟩ := HOO.out.parts
              have := (Array.getElem?_eq_some_iff.1 hh).1
              have := HTZ.out
              omega)
            have HAX : Hid (AsmX w13 (lb + 2) ti te lb ap cp ao c P L) := Lib.hid ⟨by rw [HNP.out]; exact HK13.out.cell HB10.out.c0, HP10.out.kept HK13.out, HK13.out.cell HTI.out, hg13, by rw [HN.out]; exact HK13.out.cell HLC.out, HL.out.kept (HK0.out.trans hk1d)⟩
            have HO13 := Lib.hid (OwnG.kept HOO.out hk13)
            have HAPB : Hid ((∀ x, ap = some x → x.block ≠ og ∧ x.block ≠ lb + 2) ∧ ∀ x, ao = some x → x.block ≠ og ∧ x.block ≠ lb + 2) := Lib.hid ⟨fun x hx => by have := HTZ.out.2.2 x hx; have := HNE.out; omega, fun x hx => by have := HAO.out x hx; have := HZ.out.2; have := HNE.out; omega⟩
            clear hk13 hg13 hz13 hkw hk1d hte HOO HKO HO11 HK11 HS11
            go_wp2_with fail
            have hcm := order_ok (g := og) (L := L) (by rw [HPE.out]; exact HAX.out) (by rw [HPE.out]; exact HBT.out) (by have := HNE.out; omega) (by have := HNE.out; omega) (by have := HNE.out; omega) (by have := HNE.out; omega) (fun x hx => (HAPB.out.1 x hx).1) (fun x hx => (HAPB.out.2 x hx).1)
            have hSL : (segsL L).length = k := by rw [segsL_len, HN.out]
            have hLn : L.length = k := HN.out
            refine (sortedN_any (.slice (some ⟨og, 0, none⟩) k k) (natL (List.range k)) og 55 #[.pointer (some ⟨te, 0, none⟩)] (PrtAt L.length) (cmE (segsL L)) w13 HO13.out (fun g hg => by cases hg; exact hcm) (by rw [hLn, ← hSL]; exact cmE_lin HND.out) (fun q hq => by
              rw [gt_eq hq]
              have hq2 : q < k := by rw [natL_len, List.length_range] at hq; exact hq
              refine ⟨q, ?_, by rw [hLn]; exact hq2⟩
              simp only [natL, List.getElem_map, List.getElem_range]) (by rw [natL_len, List.length_range]; omega)).mono ?_
            rintro e w14 ⟨lo, rfl, hplo, hslo, holo, hglo⟩
            have hlo : lo = natL (orderF (segsL L)) := by
              unfold orderF
              rw [hSL]
              exact sorted_nat (D := fun x => x < (segsL L).length) (ltE_lin HND.out) (fun a b => cmE_lt _ a b) (fun x hx => by rw [hSL]; exact List.mem_range.1 hx) hplo hslo
            subst hlo
            have HAX14 : Hid (AsmX w14 (lb + 2) ti te lb ap cp ao c P L) := Lib.hid (by
              have hs : Sty og w13 w14 := (Sty.refl og w13).grown hglo fun r e => .inr (by cases e; rfl)
              have hn := HNE.out
              exact HAX.out.sty hs (hs.cell _ _ _ (by omega) HAX.out.m) (by omega) (by omega) (by omega) (fun x hx => (HAPB.out.1 x hx).1) (fun x hx => (HAPB.out.2 x hx).1))
            have HO14 := Lib.hid holo
            have HB14 := Lib.hid ((HB10.out.kept HK13.out).grown hglo (fun e => by have h1 := HNE.out; have e2 : lb + 2 = og := (by simpa [Value.ownBlock] using e); omega))
            have HK14 : Hid (Kept w1 w14) := Lib.hid ((HK10.out.trans HK13.out).grown hglo (fun r e => by have h1 := HNE.out; have h2 := HZ.out.1; have e2 : og = r := (by simpa [Value.ownBlock] using e); omega))
            have HZ14 : Hid (te < w14.heap.size) := Lib.hid (by have := hglo.size; have := HZ13.out; omega)
            clear hcm hplo hslo holo hglo HAX HO13 HK13 HB10 HK10 HP10 HZ13
            clear hSL hLn r0 r1 r2 m0 m1 m2 rf0 rf1 rf2 hbl hbr hl0 l0 hll
            have HSL : Hid ((segsL L).length = k) := Lib.hid (by rw [segsL_len, HN.out])
            go_wp2
            go_loopw [67] (fun iv wq => ∃ q : Nat, q ≤ k ∧ iv = .int .i64 q ∧ ∃ v, MBox wq (lb + 2) (.slice ap np cp) v 0 ∧ OwnE wq w14.heap.size v ((asmEds L fun _ => (0, 0)).take q) ∧ Sty (lb + 2) w14 wq ∧ Kept w1 wq) (fun iv _ => k - (intOf iv).toNat)
            case atStart => exact ⟨0, Nat.zero_le _, rfl, _, HB14.out, OwnG.nil _ _ _ _ _, Sty.refl _ _, HK14.out⟩
            case round =>
              obtain ⟨q, hq, rfl, v, hbx, hov, hst, hkw⟩ := hrel
              have HBX := Lib.hid hbx
              have HOV := Lib.hid hov
              have HST := Lib.hid hst
              have HKW := Lib.hid hkw
              clear hbx hov hst hkw
              by_cases hqt : q < k
              · have hqo : q < (natL (orderF (segsL L))).length := by rw [ord_len, HSL.out]; exact hqt
                have HAXQ : Hid (AsmX wr (lb + 2) ti te lb ap cp ao c P L) := Lib.hid (HAX14.out.sty HST.out (by rw [HNP.out]; exact HBX.out.c0) (by have := HNE.out; omega) (by have := HNE.out; omega) (by omega) (fun x hx => (HAPB.out.1 x hx).2) (fun x hx => (HAPB.out.2 x hx).2))
                have o0 := HST.out.cell og q _ (by have := HNE.out; omega) (atN HO14.out hqo)
                rw [gt_eq hqo, ord_get hqo] at o0
                have hjk : ordAt (segsL L) q < k := by have := ordAt_lt (S := segsL L) (k := q) (by rw [HSL.out]; exact hqt); rw [HSL.out] at this; exact this
                have HET : Hid ((asmEds L fun _ => (0, 0)).take (q + 1) = (asmEds L fun _ => (0, 0)).take q ++ [asmEd L (fun _ => (0, 0)) q]) := Lib.hid (asmEds_take (by rw [HN.out]; exact hqt))
                have HEL : Hid (((asmEds L fun _ => (0, 0)).take q).length ≤ q) := Lib.hid (by rw [List.length_take]; omega)
                have HED : Hid (asmEd L (fun _ => (0, 0)) q = (((P.idxOf (L[ordAt (segsL L) q]'(by rw [HN.out]; exact hjk)).s.1 : Nat) : Int), ((P.idxOf (L[ordAt (segsL L) q]'(by rw [HN.out]; exact hjk)).s.2 : Nat) : Int), 0, 0, (L[ordAt (segsL L) q]'(by rw [HN.out]; exact hjk)).line)) := Lib.hid (by
                  unfold asmEd ixF
                  rw [segsL_at (by rw [HN.out]; exact hjk), HPE.out, List.getD_eq_getElem?_getD, List.getElem?_map, List.getElem?_eq_getElem (by rw [HN.out]; exact hjk)]
                  rfl)
                have hcall := ends2_any (lb + 2) ti te lb P L (ordAt (segsL L) q) wr HAXQ.out.asm HBT.out (by rw [HN.out]; exact hjk)
                obtain ⟨B, off, rfl, c0, c1, c2, c3, c4, c5⟩ := HAXQ.out.prts (ordAt (segsL L) q) (by rw [HN.out]; exact hjk)
                generalize (asmEds L fun _ => (0, 0)).take q = T at HOV HET HEL
                generalize L[ordAt (segsL L) q]'(by rw [HN.out]; exact hjk) = x at c0 c1 c2 c3 c4 c5 HED hcall
                generalize ordAt (segsL L) q = j at o0 hjk c0 c1 c2 c3 c4 c5 hcall
                generalize P.idxOf x.s.1 = ia at HED hcall
                generalize P.idxOf x.s.2 = ib at HED hcall
                have HC4 := Lib.hid c4
                have t0 := HAXQ.out.e
                have l0 := HAXQ.out.l
                have htt := lt_of_cell t0
                have hol := lt_of_cell o0
                have HCALL := Lib.hid hcall
                clear c0 c1 c2 c3 c4 c5 hcall
                go_wp2_with fail
                refine HCALL.out.mono ?_
                rintro e w15 ⟨rfl, hk15⟩
                obtain ⟨y1, z1, k2, e3, e4, hg2, hb3, hf3, hk3, hb4, hz3⟩ := new_pr 81 w15 ((ia : Int), (ib : Int))
                have HK3 := Lib.hid (hk15.trans hk3)
                have HWK : Hid (wr.heap.size ≤ k2) := Lib.hid (by have := hk15.size; omega)
                obtain ⟨r0, r1⟩ := hb3
                simp only [] at e4 r0 r1
                go_upto_region 24 with fail
                clear e3 e4 r0 r1 hf3 hk3 hk15 t0 l0 htt hol
                have s0 := HK3.out.cell HBX.out.c1
                obtain ⟨s1, s2⟩ := hb4
                simp only [] at s1 s2
                have s3 := HK3.out.cell HAXQ.out.l
                have s4 := HK3.out.cell HC4.out
                rw [HN.out] at s3
                have HBLK : Hid (∀ r, v.ownBlock = some r → w14.heap.size ≤ r ∧ r < k2 ∧ r ≠ lb ∧ r ≠ lb + 2 ∧ r ≠ B) := Lib.hid (fun r e => by
                  have h1 := HOV.out.lt r e
                  have h2 := HWK.out
                  have h3 := HZ14.out
                  have h4 := HNE.out
                  have h5 := HAO.out _ rfl
                  have h6 := HZ.out.2
                  simp only [] at h5
                  omega)
                refine region_late (fun X => X.cell? ⟨lb + 2, 1, none⟩ = some v ∧ X.cell? ⟨k2, 0, none⟩ = some (.int .i64 ia) ∧ X.cell? ⟨k2, 1, none⟩ = some (.int .i64 ib) ∧ X.cell? ⟨lb, 0, none⟩ = some (.slice (some ⟨B, off, none⟩) k c) ∧ X.cell? ⟨B, off + j * 6 + 4, none⟩ = some (.int .i64 x.line)) 12 14 (by kernel_rfl) (by kernel_rfl) (by decide) (by kernel_rfl) (by kernel_rfl) ⟨s0, s1, s2, s3, s4⟩ ?_
                simp only [List.take_succ_cons, List.take_zero, List.drop_succ_cons, List.drop_zero]
                iterate 12 refine wpHeld_step _ (by rfl) (fun X hX => by (obtain ⟨h0, h1, h2, h3, h4⟩ := hX; go_simp; rfl)) ?_
                refine wpHeld_nil ?_
                have hk7 : Kept z1.drew (z1.drew.alloc (.cells #[.int .i64 ia, .int .i64 ib, .int .i64 0, .int .i64 0, .int .i64 x.line] 87)) := (Kept.refl _).alloc _
                have hk8 := (Kept.refl z1).drew.trans hk7
                have HK8 := Lib.hid hk8
                refine wpLate_step fun K' hK => ?_
                go_simp
                refine hK _ _ (fun _ => ⟨hk8.cell s0, hk8.cell s1, hk8.cell s2, hk8.cell s3, hk8.cell s4⟩) ?_
                clear hK K'
                refine wpLate_step fun K' hK => ?_
                refine step_many Tryz.underlying27 info87 rfl (by decide) (by decide) fiveC_len fiveC_one rfl (.tmp 75) (.tmp 86) rfl w14.heap.size v T (OwnG.kept (OwnG.kept HOV.out HK3.out) hk8) (by simp [Act.eval]) z1.heap.size 0 1 1 [((ia : Int), (ib : Int), 0, 0, x.line)] rfl (by simp [Act.eval]) (fun j u hu => by rw [Nat.zero_add]; exact (cell_new_at z1.drew _ 87 j).trans (by simpa [fiveC] using hu)) (by have := HEL.out; omega) (by have := HST.out.size; have := HWK.out; simp; omega) ?_
                intro ra rc w17 ho17 hg17 hl17
                have HO17 := Lib.hid ho17
                have HB17 := Lib.hid (((HBX.out.kept HK3.out).kept hk8).grown hg17 (fun e => (HBLK.out _ e.symm).2.2.2.1 rfl))
                have HST17 : Hid (Sty (lb + 2) w14 w17) := Lib.hid (((HST.out.kept HK3.out).kept hk8).grown hg17 (fun r e => .inl (HBLK.out r e).1))
                have HK17 : Hid (Kept w1 w17) := Lib.hid (((HKW.out.trans HK3.out).trans hk8).grown hg17 (fun r e => by have := (HBLK.out r e).1; have := HK14.out.size; omega))
                have u0 := HB17.out.c1
                have u1 := HB17.out.warm 1
                have hul := lt_of_cell u0
                refine hK _ _ (fun _ => ⟨u0, grown_cell hg17 (hk8.cell s1) (fun e => by have := (HBLK.out _ e.symm).2.1; omega), grown_cell hg17 (hk8.cell s2) (fun e => by have := (HBLK.out _ e.symm).2.1; omega), grown_cell hg17 (hk8.cell s3) (fun e => (HBLK.out _ e.symm).2.2.1 rfl), grown_cell hg17 (hk8.cell s4) (fun e => (HBLK.out _ e.symm).2.2.2.2 rfl)⟩) ?_
                clear hK K' ho17 hg17 hl17 hk8 hk7 s0 s1 s2 s3 s4
                refine wpLate_step fun K' hK => ?_
                go_simp
                refine hK _ _ (fun h => absurd h (by decide)) ?_
                clear hK K'
                refine wpLate_step fun K' hK => ?_
                go_simp
                refine hK _ _ (fun h => absurd h (by decide)) ?_
                clear hK K'
                refine wpLate_nil ?_
                show Exit.inBlock 5 _ .normal _ _
                have HN17 : Hid ((Value.slice ra (T.length + 1) rc).ownBlock ≠ some (lb + 2)) := Lib.hid (fun e => by have := (HO17.out.lt _ e).1; have := HZ14.out; have := HNE.out; omega)
                clear u0 u1 hul
                go_wp2
                go_roundw
                case rel =>
                  refine ⟨q + 1, by omega, by go_num, _, HB17.out.put1 _, ?_, HST17.out.set (.inr rfl) _ _, HK17.out.setCell (p := ⟨lb + 2, 1, none⟩) (by have := HZ.out.1; show w1.heap.size ≤ lb + 2; omega) _⟩
                  rw [HET.out, HED.out]
                  exact OwnG.setNe (a := ⟨lb + 2, 1, none⟩) HO17.out HN17.out _
                case measure => simp [intOf]; omega
              · obtain rfl : k = q := by omega
                have htk : (asmEds L fun _ => (0, 0)).take k = asmEds L fun _ => (0, 0) := List.take_of_length_le (by rw [asmEds_len, HN.out]; exact Nat.le_refl _)
                rw [htk] at HOV
                clear htk
                obtain ⟨ae, ce, rfl, hfv, hbe⟩ := OwnG.fives HOV.out
                rw [asmEds_len, HN.out] at HOV HBX
                obtain ⟨E, hE⟩ : ∃ E, edgesF (segsL L) = E := ⟨_, rfl⟩
                have HEE := Lib.hid hE
                have HEN2 : Hid (E.length = k) := Lib.hid (by rw [← hE, edgesF_len, HSL.out])
                have HLDE : Hid (Laid P E) := Lib.hid (by rw [← hE, ← HPE.out]; exact HLD.out)
                have HOKP : Hid (∀ x ∈ P, okB x = true) := Lib.hid (by rw [← HPE.out]; exact HOK.out)
                have HENDS : Hid (Ends P E) := Lib.hid ⟨by rw [HEN2.out]; omega, fun d hd => HLDE.out.tail hd⟩
                have HARE : Hid (EdgesAre (asmEds L fun _ => (0, 0)) E) := Lib.hid (by rw [← hE]; exact asmEds_are L _)
                have HFV := Lib.hid hfv
                have HBE := Lib.hid hbe
                clear hE hfv hbe
                have HPQ : Hid (Pairs wr ap P) := Lib.hid (HST.out.pairs HAX14.out.pts (fun x hx => (HAPB.out.1 x hx).2))
                have HAPL : Hid (∀ x, ap = some x → x.block < wr.heap.size) := Lib.hid (fun x hx => by have := (HTZ.out.2.2 x hx).2; have := HNE.out; have := HST.out.size; have := HZ14.out; omega)
                have s0 := HBX.out.c0
                have s1 := HBX.out.c1
                have s2 := HBX.out.c2
                have sl := lt_of_cell s0
                go_wp2_with fail
                clear s0 s1 s2 sl
                refine (spread_any P E (asmEds L fun _ => (0, 0)) ap np cp ae k ce 0 wr (by have := HNPT.out; omega) HNP.out (by rw [asmEds_len, HN.out]) HPQ.out HFV.out HARE.out HENDS.out HOKP.out HLDE.out HAPL.out).mono ?_
                rintro e w20 ⟨g, rfl, hgl, hweb, g0, g1, g2, g5, gf, hk20⟩
                have HGL := Lib.hid hgl
                have HWEB := Lib.hid hweb
                have HG5 := Lib.hid (And.intro g5 (gf 5))
                have HK20 := Lib.hid hk20
                have l0 := hk20.cell (HST.out.cell lb 0 _ (by omega) HAX14.out.l)
                rw [HN.out] at l0
                have lll := lt_of_cell l0
                clear hgl hweb g0 g1 g2 g5 gf hk20
                have HKQ : Hid (Kept w1 w20) := Lib.hid (HKW.out.trans HK20.out)
                have HJN : Hid ((segsL L).length = k) := HSL
                have hrb := HR1.out.kept HKQ.out
                have r0 := hrb.c0
                have r1 := hrb.c1
                have r2 := hrb.c2
                have rf0 := hrb.warm 0
                have rf1 := hrb.warm 1
                have rf2 := hrb.warm 2
                have rl := lt_of_cell r0
                clear hrb
                by_cases hk0 : k = 0
                · have t1 : ((k : Int) == 0) = true := by simp [hk0]
                  go_wp2
                  refine bodyPost_ret (results_cell_tmp2 rfl _ _ ⟨lb + 1, 0, none⟩ rfl _ (load29 ((((HR1.out.kept HKQ.out).put0 _).put1 _).put2 _))) rfl ?_
                  exact asm_fail 20 rfl (kept3 (HK0.out.trans HKQ.out) (by have := HZ.out.2; omega) _ _ _) (by decide) (fun h => by have := h.three; rw [HSL.out] at this; omega)
                · have t1 : ((k : Int) == 0) = false := by simp [hk0]
                  go_wp2_with fail
                  refine (connected_any g P E w20 HWEB.out HENDS.out (by rw [HNP.out]; have := HNP2.out; omega)).mono ?_
                  rintro e w21 ⟨bc, rfl, hbc, hk21⟩
                  have HBC := Lib.hid hbc
                  have HKR := Lib.hid (HKQ.out.trans hk21)
                  have HWEB1 := Lib.hid (HWEB.out.kept hk21)
                  have g5 := hk21.cell HG5.out.1
                  have gf := (hk21.cells.2 g 5 (lt_of_cell HG5.out.1)).trans HG5.out.2
                  have l0 := hk21.cell l0
                  have HGG := Lib.hid (lt_of_cell g5)
                  have HK21 := Lib.hid (HK20.out.trans hk21)
                  clear hbc hk21 r0 r1 r2 rf0 rf1 rf2 rl lll
                  have lll := lt_of_cell l0
                  have hrb := HR1.out.kept HKR.out
                  have r0 := hrb.c0
                  have r1 := hrb.c1
                  have r2 := hrb.c2
                  have rf0 := hrb.warm 0
                  have rf1 := hrb.warm 1
                  have rf2 := hrb.warm 2
                  have rl := lt_of_cell r0
                  clear hrb
                  cases bc
                  · go_wp2
                    refine bodyPost_ret (results_cell_tmp2 rfl _ _ ⟨lb + 1, 0, none⟩ rfl _ (load29 ((((HR1.out.kept HKR.out).put0 _).put1 _).put2 _))) rfl ?_
                    exact asm_fail 20 rfl (kept3 (HK0.out.trans HKR.out) (by have := HZ.out.2; omega) _ _ _) (by decide) (fun h => absurd (HBC.out.2 (fun p hp => by have := h.reach p (by rw [HPE.out]; exact hp); rw [HEE.out] at this; exact this)) (by decide))
                  · have hreach := HBC.out.1 rfl
                    have HRE := Lib.hid hreach
                    clear hreach r0 r1 r2 rf0 rf1 rf2 rl
                    have G5 := Lib.hid (And.intro g5 gf)
                    clear g5 gf
                    go_wp2_with fail
                    refine (number_any g P E w21 HWEB1.out HENDS.out HOKP.out ⟨_, G5.out.1⟩ G5.out.2).mono ?_
                    rintro e w22 ⟨f, sb, rfl, hna⟩
                    have HNA := Lib.hid hna
                    have HNUM : Hid (numE (ptsF (segsL L)) (edgesF (segsL L)) (2 * (segsL L).length) = numE P E (2 * E.length)) := Lib.hid (by rw [HPE.out, HEE.out, HSL.out, HEN2.out])
                    have hgb : lb + 2 < g := by have := HGL.out; have := HST.out.size; have := HZ14.out; have := HNE.out; omega
                    have HKS : Hid (Kept w1 w22) := Lib.hid (Kept.grown HKR.out hna.grown (fun r e => by cases e; have := HZ.out.1; omega))
                    have HB22 := Lib.hid ((HBX.out.kept HK21.out).grown hna.grown (fun e => by cases e; omega))
                    have l0 := grown_cell hna.grown l0 (fun e => by cases e; omega)
                    obtain ⟨mn, hmn⟩ : ∃ mn, (numE P E (2 * E.length)).many = mn := ⟨_, rfl⟩
                    obtain ⟨bo, hbo⟩ : ∃ bo, (decide ((numE P E (2 * E.length)).outside = 1) && !(numE P E (2 * E.length)).flat) = bo := ⟨_, rfl⟩
                    have HMN := Lib.hid hmn
                    have HBO := Lib.hid hbo
                    have hmle : mn ≤ 800 := by have h1 := (numG_le (2 * E.length) (nxtF P E) (fun d => areaW P E (orbE P E d)) (2 * E.length)).1; have h2 := HEN2.out; have h3 : (numE P E (2 * E.length)).many ≤ 2 * E.length := h1; omega
                    rw [hmn, hbo]
                    clear hna hmn hbo lll
                    have lll := lt_of_cell l0
                    have hrb := HR1.out.kept HKS.out
                    have r0 := hrb.c0
                    have r1 := hrb.c1
                    have r2 := hrb.c2
                    have rf0 := hrb.warm 0
                    have rf1 := hrb.warm 1
                    have rf2 := hrb.warm 2
                    have rl := lt_of_cell r0
                    have m0 := HB22.out.c0
                    have m1 := HB22.out.c1
                    have ml := lt_of_cell m0
                    clear hrb
                    by_cases c1 : 400 < np
                    · go_wp2
                      refine bodyPost_ret (results_cell_tmp2 rfl _ _ ⟨lb + 1, 0, none⟩ rfl _ (load29 ((((HR1.out.kept HKS.out).put0 _).put1 _).put2 _))) rfl ?_
                      exact asm_fail 2 rfl (kept3 (HK0.out.trans HKS.out) (by have := HZ.out.2; omega) _ _ _) (by decide) (fun h => by have := h.points; rw [HPE.out, HNP.out] at this; omega)
                    by_cases c2 : 100 < mn
                    · go_wp2
                      refine bodyPost_ret (results_cell_tmp2 rfl _ _ ⟨lb + 1, 0, none⟩ rfl _ (load29 ((((HR1.out.kept HKS.out).put0 _).put1 _).put2 _))) rfl ?_
                      exact asm_fail 2 rfl (kept3 (HK0.out.trans HKS.out) (by have := HZ.out.2; omega) _ _ _) (by decide) (fun h => by have := h.faces; rw [HNUM.out, HMN.out] at this; omega)
                    cases bo
                    · go_wp2
                      refine bodyPost_ret (results_cell_tmp2 rfl _ _ ⟨lb + 1, 0, none⟩ rfl _ (load29 ((((HR1.out.kept HKS.out).put0 _).put1 _).put2 _))) rfl ?_
                      exact asm_fail 20 rfl (kept3 (HK0.out.trans HKS.out) (by have := HZ.out.2; omega) _ _ _) (by decide) (fun h => by have h1 := h.one; have h2 := h.flat; have h3 := HBO.out; rw [HNUM.out] at h1 h2; rw [h1, h2] at h3; exact absurd h3 (by decide))
                    by_cases c3 : mn < 1
                    · go_wp2
                      refine bodyPost_ret (results_cell_tmp2 rfl _ _ ⟨lb + 1, 0, none⟩ rfl _ (load29 ((((HR1.out.kept HKS.out).put0 _).put1 _).put2 _))) rfl ?_
                      exact asm_fail 20 rfl (kept3 (HK0.out.trans HKS.out) (by have := HZ.out.2; omega) _ _ _) (by decide) (fun h => by have := h.many; rw [HNUM.out, HMN.out] at this; omega)
                    by_cases c4 : k < 3
                    · go_wp2
                      refine bodyPost_ret (results_cell_tmp2 rfl _ _ ⟨lb + 1, 0, none⟩ rfl _ (load29 ((((HR1.out.kept HKS.out).put0 _).put1 _).put2 _))) rfl ?_
                      exact asm_fail 20 rfl (kept3 (HK0.out.trans HKS.out) (by have := HZ.out.2; omega) _ _ _) (by decide) (fun h => by have := h.three; rw [HSL.out] at this; omega)
                    have HJ : Hid (Joined (segsL L)) := Lib.hid ⟨by rw [HSL.out]; omega, by rw [HSL.out]; omega, fun p hp => by rw [HEE.out]; exact HRE.out p (by rw [← HPE.out]; exact hp), by rw [HPE.out, HNP.out]; omega, by rw [HNUM.out, HMN.out]; omega, by rw [HNUM.out]; have h3 := HBO.out; simp at h3; exact h3.1, by rw [HNUM.out]; have h3 := HBO.out; simp at h3; exact h3.2, by rw [HNUM.out, HMN.out]; omega⟩
                    clear r0 r1 r2 rf0 rf1 rf2 rl
                    have HO22a := OwnG.grownNe (OwnG.kept HOV.out HK21.out) HNA.out.grown (fun r e1 e2 => by cases e2; have := (HOV.out.lt _ e1).2; have := HGL.out; omega)
                    obtain ⟨eg, rfl⟩ : ∃ eg, ae = some ⟨eg, 0, none⟩ := by
                      rcases OwnG.slice HO22a fiveC_len with ⟨e, -⟩ | ⟨gg, cc, e, -⟩
                      · have := congrArg List.length e
                        rw [asmEds_len, HN.out] at this
                        exact absurd this hk0
                      · simp only [Value.slice.injEq] at e
                        exact ⟨gg, e.1⟩
                    have HO22 := Lib.hid HO22a
                    have HEG : Hid (w14.heap.size ≤ eg ∧ eg < wr.heap.size) := Lib.hid (HOV.out.lt eg rfl)
                    clear HO22a
                    have g5 := HNA.out.cell
                    have HFO : Hid (OwnN w22 w21.heap.size (.slice (some ⟨f, 0, none⟩) (2 * E.length) (2 * E.length)) (numE P E (2 * E.length)).face) := Lib.hid HNA.out.face
                    have HFB : Hid (w21.heap.size ≤ f) := Lib.hid HNA.out.f0
                    have HFL : Hid ((numE P E (2 * E.length)).face.length = 2 * E.length) := Lib.hid (numE_ok P E (2 * E.length) (Nat.le_refl _)).fl
                    obtain ⟨N, hN⟩ : ∃ N, 2 * E.length = N := ⟨_, rfl⟩
                    have HN2 : Hid (N = 2 * k) := Lib.hid (by rw [← hN, HEN2.out])
                    obtain ⟨fc, hfc⟩ : ∃ fc, fcsF P E = fc := ⟨_, rfl⟩
                    have HFC := Lib.hid hfc
                    have HFA : Hid (∀ i, i < k → w22.cell? ⟨f, 2 * i, none⟩ = some (.int .i64 (fc i).1) ∧ w22.cell? ⟨f, 2 * i + 1, none⟩ = some (.int .i64 (fc i).2)) := Lib.hid (fun i hi => by
                      have key : ∀ d, d < 2 * k → w22.cell? ⟨f, d, none⟩ = some (.int .i64 (faceE P E d)) := fun d hd => by
                        have hd2 : d < (numE P E (2 * E.length)).face.length := by rw [HFL.out, HEN2.out]; exact hd
                        have h := atN HFO.out hd2
                        rw [gt_eq hd2] at h
                        unfold faceE
                        rw [List.getD_eq_getElem?_getD, List.getElem?_eq_getElem hd2, Option.getD_some]
                        exact h
                      rw [← HFC.out]
                      exact ⟨key _ (by omega), key _ (by omega)⟩)
                    rw [hN] at g5
                    have hn8 : N ≤ 800 := by have := HN2.out; omega
                    have HAPT : Hid (∀ x, ap = some x → lb + 3 ≤ x.block ∧ x.block < eg ∧ x.block < g) := Lib.hid (fun x hx => by have h1 := HTZ.out.2.2 x hx; have h2 := HNE.out; have h3 := HEG.out; have h4 := HZ14.out; have h5 := HGL.out; omega)
                    have HP22 : Hid (Pairs w22 ap P) := Lib.hid (((Sty.refl g w21).grown HNA.out.grown (fun r e => .inr (by cases e; rfl))).pairs (HPQ.out.kept HK21.out) (fun x hx => by have := (HAPT.out x hx).2.2; omega))
                    clear hN hfc HFO HNA
                    go_wp2
                    go_loopw [132] (fun iv wz => ∃ i : Nat, i ≤ k ∧ iv = .int .i64 i ∧ OwnE wz w14.heap.size (.slice (some ⟨eg, 0, none⟩) k ce) (asmEds L (fcTo fc i)) ∧ w22.grownBy wz (some eg)) (fun iv _ => k - (intOf iv).toNat)
                    case atStart => exact ⟨0, Nat.zero_le _, rfl, by rw [fcTo_zero]; exact HO22.out, grownBy_same _ _⟩
                    case round =>
                      obtain ⟨i, hi, rfl, hoz, hgz⟩ := hrel
                      have HOZ2 := Lib.hid hoz
                      have HGZ := Lib.hid hgz
                      clear hoz hgz
                      have m1 := grown_cell HGZ.out HB22.out.c1 (fun e => by cases e; have := HEG.out; have := HZ14.out; have := HNE.out; omega)
                      by_cases hit : i < k
                      · obtain ⟨f1, f2⟩ := HFA.out i hit
                        have hfe : f ≠ eg := by have h1 := HFB.out; have h2 := HEG.out; have h3 := HK21.out.size; omega
                        have hge : g ≠ eg := by have h1 := HGL.out; have h2 := HEG.out; omega
                        have f1 := grown_cell HGZ.out f1 (fun e => by cases e; exact hfe rfl)
                        have f2 := grown_cell HGZ.out f2 (fun e => by cases e; exact hfe rfl)
                        have g5 := grown_cell HGZ.out g5 (fun e => by cases e; exact hge rfl)
                        have HAL : Hid (i < (asmEds L (fcTo fc i)).length) := Lib.hid (by rw [asmEds_len, HN.out]; exact hit)
                        have e2 := OwnG.at_ fiveC_len HOZ2.out HAL.out (j := 2) rfl
                        have e3 := OwnG.at_ fiveC_len HOZ2.out HAL.out (j := 3) rfl
                        have ef2 := OwnG.warm HOZ2.out (i * 5 + 2)
                        have ef3 := OwnG.warm HOZ2.out (i * 5 + 3)
                        have b1 := lt_of_cell m1
                        have b2 := lt_of_cell f1
                        have b3 := lt_of_cell g5
                        have b4 := lt_of_cell e2
                        generalize hfa : (fc i).1 = fa at f1
                        generalize hfb : (fc i).2 = fb at f2
                        have HFE := Lib.hid (And.intro hfa hfb)
                        clear hfa hfb
                        have w1 : IntKind.i64.wrap (2 * (i : Int)) = 2 * (i : Int) := IntWalk.i64_in _ (by omega)
                        have w2 : IntKind.i64.wrap (2 * (i : Int) + 1) = 2 * (i : Int) + 1 := IntWalk.i64_in _ (by omega)
                        have x1 : (0 : Int) ≤ 2 * (i : Int) := by omega
                        have x2 : 2 * (i : Int) < (N : Int) := by have := HN2.out; omega
                        have x3 : (0 : Int) ≤ 2 * (i : Int) + 1 := by omega
                        have x4 : 2 * (i : Int) + 1 < (N : Int) := by have := HN2.out; omega
                        have x5 : (2 * (i : Int)).toNat = 2 * i := by omega
                        have x6 : (2 * (i : Int) + 1).toNat = 2 * i + 1 := by omega
                        go_upto_region 37 with fail
                        go_region
                        go_wp2
                        go_roundw
                        case rel =>
                          refine ⟨i + 1, by omega, by go_num, ?_, grownBy_drew (grownBy_cell (grownBy_cell HGZ.out _ _) _ _)⟩
                          have h := OwnG.kept (OwnE.faces HOZ2.out HAL.out fa fb) (Kept.refl _).drew
                          have e : ((asmEds L (fcTo fc i))[i]'HAL.out) = asmEd L (fcTo fc i) i := asmEds_at _
                          rw [← asmEds_set, show asmEd L fc i = (((asmEds L (fcTo fc i))[i]'HAL.out).1, ((asmEds L (fcTo fc i))[i]'HAL.out).2.1, fa, fb, ((asmEds L (fcTo fc i))[i]'HAL.out).2.2.2.2) from by rw [e, ← HFE.out.1, ← HFE.out.2]; rfl]
                          exact h
                        case measure => simp [intOf]; omega
                      · obtain rfl : k = i := by omega
                        have hall : asmEds L (fcTo fc k) = asmEds L fc := by have := asmEds_all L fc; rw [HN.out] at this; exact this
                        rw [hall] at HOZ2
                        clear hall
                        have m0 := grown_cell HGZ.out HB22.out.c0 (fun e => by cases e; have := HEG.out; have := HZ14.out; have := HNE.out; omega)
                        have m2 := grown_cell HGZ.out HB22.out.c2 (fun e => by cases e; have := HEG.out; have := HZ14.out; have := HNE.out; omega)
                        have mf := grown_warm HB22.out.warm (lt_of_cell HB22.out.c0) HGZ.out (fun e => by cases e; have := HEG.out; have := HZ14.out; have := HNE.out; omega) 2
                        have HKF : Hid (Kept w1 wr) := Lib.hid (Kept.grown HKS.out HGZ.out (fun r e => by cases e; have := HEG.out; have := HK14.out.size; omega))
                        have HPW : Hid (Pairs wr ap P) := Lib.hid (((Sty.refl eg w22).grown HGZ.out (fun r e => .inr (by cases e; rfl))).pairs HP22.out (fun x hx => by have := (HAPT.out x hx).2.1; omega))
                        have hrb := HR1.out.kept HKF.out
                        have HRB4 := Lib.hid hrb
                        have r0 := hrb.c0
                        have r1 := hrb.c1
                        have r2 := hrb.c2
                        have rf0 := hrb.warm 0
                        have rf1 := hrb.warm 1
                        have rf2 := hrb.warm 2
                        have rl := lt_of_cell r0
                        have ml := lt_of_cell m0
                        clear hrb
                        go_wp2
                        refine bodyPost_ret (results_cell_tmp2 rfl _ _ ⟨lb + 1, 0, none⟩ rfl _ (load29 (((((HRB4.out.other (by omega)).put0 _).put1 _).put2 _)))) rfl ?_
                        have hk9 : Kept w (wr.setCell ⟨lb + 2, 2, none⟩ (.int .i64 mn)) := (HK0.out.trans HKF.out).setCell (p := ⟨lb + 2, 2, none⟩) (by have := HZ.out.2; show w.heap.size ≤ lb + 2; omega) _
                        have hst : ∀ b o u (X : World), b = lb + 1 ∨ b = lb + 2 → OwnE X w14.heap.size (.slice (some ⟨eg, 0, none⟩) k ce) (asmEds L fc) ∧ Pairs X ap P → OwnE (X.setCell ⟨b, o, none⟩ u) w14.heap.size (.slice (some ⟨eg, 0, none⟩) k ce) (asmEds L fc) ∧ Pairs (X.setCell ⟨b, o, none⟩ u) ap P := fun b o u X hb h => by
                          refine ⟨OwnG.setNe (a := ⟨b, o, none⟩) h.1 (fun e => ?_) _, ((Sty.refl b X).set (.inr rfl) o u).pairs h.2 (fun x hx => ?_)⟩
                          · have e2 : eg = b := (by simpa [Value.ownBlock] using e)
                            have := HEG.out
                            have := HZ14.out
                            have := HNE.out
                            omega
                          · have := (HAPT.out x hx).1
                            omega
                        obtain ⟨hfin, hpin⟩ := hst (lb + 1) 2 (.int .i64 mn) _ (.inl rfl) (hst (lb + 1) 1 (.slice (some ⟨eg, 0, none⟩) k ce) _ (.inl rfl) (hst (lb + 1) 0 (.slice ap np cp) _ (.inl rfl) (hst (lb + 2) 2 (.int .i64 mn) _ (.inr rfl) ⟨HOZ2.out, HPW.out⟩)))
                        obtain ⟨ae9, ce9, e9, hf9, -⟩ := OwnG.fives hfin
                        simp only [Value.slice.injEq] at e9
                        obtain ⟨rfl, -, -⟩ := e9
                        refine ⟨ap, np, cp, some ⟨eg, 0, none⟩, k, ce, mn, some ⟨og, 0, none⟩, k, k, 0, rfl, kept3 hk9 (by have := HZ.out.2; omega) _ _ _, ⟨fun _ => HJ.out, fun _ => rfl⟩, fun _ => ⟨by rw [HPE.out, HNP.out], HN.out.symm, by rw [HPE.out, HEE.out, HN.out, ← HMN.out, HEN2.out], ?_, fun x hx => ⟨by have := (HAPT.out x hx).1; have := HZ.out.2; omega, ?_⟩, fun x hx => by cases hx; have := HEG.out; have := HZ14.out; have := HNE.out; have := HZ.out.2; show w.heap.size ≤ eg; omega⟩⟩
                        · rw [HPE.out, HEE.out, HFC.out]
                          exact ⟨hpin, hf9, by rw [← HEE.out]; exact asmEds_are L _, HNP.out, by rw [asmEds_len, HN.out]⟩
                        · have h1 := (HAPT.out x hx).2.2
                          have h2 := lt_of_cell (grown_cell HGZ.out g5 (fun e => by cases e; have := HEG.out; have := HGL.out; omega))
                          simp only [World.size_setCell]
                          omega
end Go.Proofs.YtlglfcdobbocnaaGreat
