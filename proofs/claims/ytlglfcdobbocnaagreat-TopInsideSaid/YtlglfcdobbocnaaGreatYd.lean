/- faces.Build. -/
import Derived.Test.YtlglfcdobbocnaaGreatYc
import Derived.Test.YtlglfcdobbocnaaGreatWn
set_option maxRecDepth 100000
namespace Go.Proofs.YtlglfcdobbocnaaGreat
open Go Go.Proofs Go.RowKit
attribute [local go_sem] Oper.semAt_some
/-- What Build hands back. -/
def BuildOut (wall : List Pt) (lines : List Sg) (w : World) (e : Ending) (w' : World) : Prop := ∃ ap np cp ae ne ce mf er, e = .returned (.tuple #[mapV ap np cp ae ne ce mf, .int .i64 er]) ∧ Kept w w' ∧ (er = 0 ↔ Built wall lines) ∧
  (er = 0 → ∃ Ed, MapD w' ap ae (ptsB wall lines) (edgB wall lines) Ed np ne ∧ MapOk (ptsB wall lines) (edgB wall lines) Ed ap np cp ae ne ce mf w')
theorem build_fail {wall : List Pt} {lines : List Sg} {w w' : World} {e : Ending} (er : Int) (he : e = .returned (.tuple #[mapV none 0 0 none 0 0 0, .int .i64 er])) (hk : Kept w w') (h0 : er ≠ 0) (hj : ¬ Built wall lines) : BuildOut wall lines w e w' :=
  ⟨none, 0, 0, none, 0, 0, 0, er, he, hk, ⟨fun h => absurd h h0, fun h => absurd h hj⟩, fun h => absurd h h0⟩
set_option maxHeartbeats 4000000 in
theorem build_any (wall : List Pt) (lines : List Sg) (ao bo : Option Addr) (c d : Nat) (w : World) (hp : Pairs w ao wall) (hs : Sgs w bo lines) (hn : wall.length ≤ 12) (hm : lines.length ≤ 12) :
    Calls Tryz.prog 5 #[.slice ao wall.length c, .slice bo lines.length d] w (BuildOut wall lines w) := by
  have HP := Lib.hid hp
  have HS := Lib.hid hs
  clear hp hs
  obtain ⟨w0, hw0⟩ : ∃ w0, w.alloc (.cells #[.slice none 0 0, .slice none 0 0, .int .i64 0] 29) = w0 := ⟨_, rfl⟩
  obtain ⟨rb, hrb⟩ : ∃ rb, w.heap.size = rb := ⟨_, rfl⟩
  have hz0 : w0.heap.size = rb + 1 := by rw [← hw0, ← hrb]; simp
  have hk0 : Kept w w0 := by rw [← hw0]; exact (Kept.refl w).alloc _
  have hbx : MBox w0 rb (.slice none 0 0) (.slice none 0 0) 0 := by
    rw [← hw0, ← hrb]
    exact ⟨by simp [go_sem], by simp [go_sem], by simp [go_sem], fun o => frozen_alloc _ _ _ o⟩
  have HK0 := Lib.hid hk0
  have HR0 := Lib.hid hbx
  have HZ := Lib.hid (And.intro hz0 hrb)
  obtain ⟨n, hnn⟩ : ∃ n, wall.length = n := ⟨_, rfl⟩
  obtain ⟨m, hmm⟩ : ∃ m, lines.length = m := ⟨_, rfl⟩
  have HN := Lib.hid hnn
  have HM := Lib.hid hmm
  rw [hnn] at hn ⊢
  rw [hmm] at hm ⊢
  clear hk0 hbx hnn hmm
  go_enter Tryz.func5, Tryz.ntmps5
  go_wp2_with fail
  have hcp := checkPoly_any wall ao c w0 (HP.out.kept HK0.out) (by rw [HN.out]; omega)
  rw [HN.out] at hcp
  refine hcp.mono ?_
  rintro e w1 ⟨rfl, hk1⟩
  have HK1 := Lib.hid hk1
  obtain ⟨wb, hwb⟩ : ∃ wb, w1.heap.size = wb := ⟨_, rfl⟩
  have HWB : Hid (w1.heap.size = wb ∧ rb + 1 ≤ wb) := Lib.hid ⟨hwb, by have := hk1.size; omega⟩
  clear hwb
  clear hcp hk1 hw0
  obtain ⟨pe, hpe⟩ : ∃ pe, polyF wall = pe := ⟨_, rfl⟩
  rw [hpe]
  by_cases hp0 : pe = 0
  · subst hp0
    have HPE := Lib.hid hpe
    clear hpe
    go_wp2
    go_loopw [7, 36] (fun v iv wr => ∃ k : Nat, k ≤ n ∧ iv = .int .i64 k ∧ OwnR wr wb v ((prtsW wall).take k) ∧ Kept w1 wr) (fun _ iv _ => n - (intOf iv).toNat)
    case atStart => exact ⟨0, Nat.zero_le _, rfl, OwnG.nil _ _ _ _ _, Kept.refl _⟩
    case round =>
      obtain ⟨k, hk, rfl, hov, hkw⟩ := hrel
      have HOV := Lib.hid hov
      have HKW := Lib.hid hkw
      clear hov hkw
      by_cases hlt : k < n
      · have hkl : k < wall.length := by rw [HN.out]; exact hlt
        have HPX := Lib.hid (HP.out.kept (HK0.out.trans (HK1.out.trans HKW.out)))
        obtain ⟨B, off, rfl, c0, c1⟩ := HP.out k hkl
        have HBW : Hid (B < rb) := Lib.hid (by have := lt_of_cell c0; have := HZ.out.2; omega)
        have c0 := (HK0.out.trans (HK1.out.trans HKW.out)).cell c0
        have c1 := (HK0.out.trans (HK1.out.trans HKW.out)).cell c1
        obtain ⟨j, hj⟩ : ∃ j, (k + 1) % n = j := ⟨_, rfl⟩
        have hjn : j < n := by rw [← hj]; exact Nat.mod_lt _ (by omega)
        have hjl : j < wall.length := by rw [HN.out]; exact hjn
        obtain ⟨B2, off2, e2, d0, d1⟩ := HPX.out j hjl
        cases e2
        have HTK := Lib.hid (prtsW_take hkl)
        have HTL : Hid (((prtsW wall).take k).length ≤ 12) := Lib.hid (by rw [List.length_take]; omega)
        have HPW : Hid (prtW wall k = partF (wall[k], wall[j]) (-1) (-1)) := Lib.hid (by
          unfold prtW edgeF
          rw [HN.out, hj, List.getD_eq_getElem?_getD, List.getElem?_eq_getElem hkl, List.getD_eq_getElem?_getD, List.getElem?_eq_getElem hjl]
          rfl)
        generalize (prtsW wall).take k = T at HOV HTK HTL
        generalize wall[k] = x at c0 c1 HPW
        generalize wall[j] = y at d0 d1 HPW
        obtain ⟨x1, x2⟩ := x
        obtain ⟨y1, y2⟩ := y
        simp only [] at c0 c1 d0 d1
        have hn0 : n ≠ 0 := by omega
        have hw1 : IntKind.i64.wrap ((k : Int) + 1) = (k : Int) + 1 := IntWalk.i64_in _ (by omega)
        have htm : ((k : Int) + 1).tmod (n : Int) = (j : Int) := by rw [← hj]; rfl
        have hnz : (n : Int) ≠ 0 := by omega
        obtain ⟨u2, z1, k1, e1, e3, hg1, hb1, hf1, hk2, hb2, hz1⟩ := new_pt wr (x1, x2)
        have HKZ := Lib.hid hk2
        have HG1 := Lib.hid hg1
        obtain ⟨r0, r1⟩ := hb1
        simp only [] at e3 r0 r1
        go_upto_region 10 with fail
        clear e1 e3 r0 r1 hf1 c0 c1
        obtain ⟨s0, s1⟩ := hb2
        have s2 := hk2.cell d0
        have s3 := hk2.cell d1
        simp only [] at s0 s1
        clear hk2 d0 d1
        refine region_late (fun X => X.cell? ⟨k1, 0, none⟩ = some (.int .i64 x1) ∧ X.cell? ⟨k1, 1, none⟩ = some (.int .i64 x2) ∧ X.cell? ⟨B, off + j * 2, none⟩ = some (.int .i64 y1) ∧ X.cell? ⟨B, off + j * 2 + 1, none⟩ = some (.int .i64 y2)) 11 14 (by kernel_rfl) (by kernel_rfl) (by decide) (by kernel_rfl) (by kernel_rfl) ⟨s0, s1, s2, s3⟩ ?_
        simp only [List.take_succ_cons, List.take_zero, List.drop_succ_cons, List.drop_zero]
        iterate 11 refine wpHeld_step _ (by rfl) (fun X hX => by (obtain ⟨h0, h1, h2, h3⟩ := hX; go_simp; rfl)) ?_
        refine wpHeld_nil ?_
        have HKD : Hid (Kept z1 z1.drew) := Lib.hid (Kept.refl z1).drew
        refine wpLate_step fun K' hK => ?_
        go_simp
        refine (partOf_any ((x1, x2), (y1, y2)) (-1) (-1) _).mono ?_
        rintro e z2 ⟨rfl, hk8⟩
        have hk9 := HKD.out.trans hk8
        refine hK _ _ (fun _ => ⟨hk9.cell s0, hk9.cell s1, hk9.cell s2, hk9.cell s3⟩) ?_
        clear hK K'
        rw [← HPW.out]
        generalize prtW wall k = p at HTK
        have hka : Kept z2 (z2.alloc (.cells #[.int .i64 p.s.1.1, .int .i64 p.s.1.2, .int .i64 p.s.2.1, .int .i64 p.s.2.2, .int .i64 p.line, .int .i64 p.src] 50)) := (Kept.refl _).alloc _
        have HKA := Lib.hid (hk9.trans hka)
        refine wpLate_step fun K' hK => ?_
        go_simp
        refine hK _ _ (fun _ => ⟨HKA.out.cell s0, HKA.out.cell s1, HKA.out.cell s2, HKA.out.cell s3⟩) ?_
        clear hK K'
        have HBLK : Hid (∀ r, u7.ownBlock = some r → wb ≤ r ∧ r < k1 ∧ r ≠ B) := Lib.hid (fun r e => by have := HOV.out.lt r e; have := HG1.out; have := HBW.out; have := HWB.out; omega)
        refine wpLate_step fun K' hK => ?_
        refine step_many Tryz.underlying48 info50 rfl (by decide) (by decide) prtC_len prtC_one rfl (.tmp 41) (.tmp 53) rfl wb u7 T (OwnG.kept (OwnG.kept HOV.out HKZ.out) HKA.out) (by simp [Act.eval]) z2.heap.size 0 1 1 [p] rfl (by simp [Act.eval]) (fun j u hu => by rw [Nat.zero_add]; exact (cell_new_at z2 _ 50 j).trans (by simpa [prtC] using hu)) (by have := HTL.out; omega) (by have := HKW.out.size; have := HKZ.out.size; have := hk9.size; have := HWB.out; simp; omega) ?_
        intro ra rc w7 ho7 hg7 hl7
        have HO7 := Lib.hid ho7
        have HG7 : Hid (Kept w1 w7) := Lib.hid (Kept.grown ((HKW.out.trans HKZ.out).trans HKA.out) hg7 (fun r e => by have := (HBLK.out r e).1; have := HWB.out; omega))
        have nb : ∀ b, (∀ r, u7.ownBlock = some r → r ≠ b) → some b ≠ u7.ownBlock := fun b h e => h b e.symm rfl
        refine hK _ _ (fun _ => ⟨grown_cell hg7 (HKA.out.cell s0) (nb _ fun r e => by have := (HBLK.out r e).2.1; omega), grown_cell hg7 (HKA.out.cell s1) (nb _ fun r e => by have := (HBLK.out r e).2.1; omega), grown_cell hg7 (HKA.out.cell s2) (nb _ fun r e => (HBLK.out r e).2.2), grown_cell hg7 (HKA.out.cell s3) (nb _ fun r e => (HBLK.out r e).2.2)⟩) ?_
        clear hK K' nb s0 s1 s2 s3 hg7 ho7 hl7
        refine wpLate_step fun K' hK => ?_
        go_simp
        refine hK _ _ (fun h => absurd h (by decide)) ?_
        clear hK K'
        refine wpLate_nil ?_
        show Exit.inBlock 1 _ .normal _ _
        go_wp2
        go_roundw
        case rel => exact ⟨k + 1, by omega, by go_num, by rw [HTK.out]; exact HO7.out, HG7.out⟩
        case measure => simp [intOf]; omega
      · obtain rfl : k = n := by omega
        have htk : (prtsW wall).take k = prtsW wall := List.take_of_length_le (by rw [prtsW_len, HN.out]; exact Nat.le_refl _)
        rw [htk] at HOV
        clear htk
        go_wp2
        go_loopw [7, 58] (fun v iv wr => ∃ q : Nat, q ≤ m ∧ iv = .int .i64 q ∧ OwnR wr wb v (prtsW wall ++ (prtsN lines).take q) ∧ Kept w1 wr ∧ ∀ s ∈ lines.take q, okS s = true ∧ withinF wall s = true) (fun _ iv _ => m - (intOf iv).toNat)
        case atStart => exact ⟨0, Nat.zero_le _, rfl, by simpa using HOV.out, HKW.out, fun s hs => by simp at hs⟩
        case round =>
          clear HOV HKW
          obtain ⟨q, hq, rfl, hov, hkw, hall⟩ := hrel
          have HOV := Lib.hid hov
          have HKW := Lib.hid hkw
          have HALL := Lib.hid hall
          clear hov hkw hall
          by_cases hqt : q < m
          · have hql : q < lines.length := by rw [HM.out]; exact hqt
            obtain ⟨B, off, rfl, c0, c1, c2, c3⟩ := (HS.out.kept (HK0.out.trans (HK1.out.trans HKW.out))) q hql
            have HTK : Hid (prtsW wall ++ (prtsN lines).take (q + 1) = (prtsW wall ++ (prtsN lines).take q) ++ [prtL lines q]) := Lib.hid (by rw [prtsN_take hql, List.append_assoc])
            have HTL : Hid ((prtsW wall ++ (prtsN lines).take q).length ≤ 24) := Lib.hid (by rw [List.length_append, List.length_take, prtsW_len, HN.out]; omega)
            have HPL : Hid (prtL lines q = partF lines[q] q (-1)) := Lib.hid (by unfold prtL; rw [sgAt_get hql])
            have HSM : Hid (lines[q] ∈ lines) := Lib.hid (List.getElem_mem hql)
            have HST : Hid (lines.take (q + 1) = lines.take q ++ [lines[q]]) := Lib.hid (List.take_succ_eq_append_getElem hql)
            generalize prtsW wall ++ (prtsN lines).take q = T at HOV HTK HTL
            generalize lines[q] = s at c0 c1 c2 c3 HPL HSM HST
            obtain ⟨u2, z1, k1, e1, e3, hg1, hb1, hf1, hk2, hb2, hz1⟩ := new_sg wr s
            have HKZ := Lib.hid hk2
            have HG1 := Lib.hid (And.intro hg1 hz1)
            have HB2 := Lib.hid hb2
            obtain ⟨r0, r1, r2, r3⟩ := hb1
            obtain ⟨s0, s1, s2, s3⟩ := hb2
            simp only [] at e3 r0 r1 r2 r3
            have sl := lt_of_cell s0
            go_wp2_with fail
            clear e1 e3 r0 r1 r2 r3 hf1 c0 c1 c2 c3 hk2 s0 s1 s2 s3
            refine (rightSegF_any s z1).mono ?_
            rintro e z2 ⟨rfl, hk4⟩
            have HKY := Lib.hid (HKZ.out.trans hk4)
            have HKX : Hid (Kept w0 z2) := Lib.hid (HK1.out.trans (HKW.out.trans HKY.out))
            have HPX := Lib.hid (HP.out.kept (HK0.out.trans HKX.out))
            have hbz := HB2.out.kept hk4
            have HB3 := Lib.hid hbz
            clear hk4
            obtain ⟨bs, hbs⟩ : ∃ b, okS s = b := ⟨_, rfl⟩
            rw [hbs]
            have HBS := Lib.hid hbs
            clear hbs
            cases bs
            · have hrb := HR0.out.kept HKX.out
              have r0 := hrb.c0
              have r1 := hrb.c1
              have r2 := hrb.c2
              have rf0 := hrb.warm 0
              have rf1 := hrb.warm 1
              have rf2 := hrb.warm 2
              have rl := lt_of_cell r0
              clear hrb
              go_wp2
              refine bodyPost_ret (results_cell_tmp rfl _ _ ⟨rb, 0, none⟩ rfl _ (load29 ((((HR0.out.kept HKX.out).put0 _).put1 _).put2 _))) rfl ?_
              exact build_fail 1 rfl (kept3 (HK0.out.trans HKX.out) (by have := HZ.out.2; omega) _ _ _) (by decide) (fun h => by have := (h.given.lin s HSM.out).1; rw [HBS.out] at this; cases this)
            · obtain ⟨s0, s1, s2, s3⟩ := hbz
              have sl := lt_of_cell s0
              have hwi := within_any wall ao c s z2 HPX.out (by rw [HN.out]; omega)
              rw [HN.out] at hwi
              have HWI := Lib.hid hwi
              clear hwi
              go_wp2_with fail
              refine HWI.out.mono ?_
              rintro e z3 ⟨rfl, hk5⟩
              clear HWI
              have HKY3 := Lib.hid (HKY.out.trans hk5)
              have HKX3 : Hid (Kept w0 z3) := Lib.hid (HKX.out.trans hk5)
              have hb4 := HB3.out.kept hk5
              clear hk5 s0 s1 s2 s3 sl
              obtain ⟨bw, hbw⟩ : ∃ b, withinF wall s = b := ⟨_, rfl⟩
              rw [hbw]
              have HBW := Lib.hid hbw
              clear hbw
              cases bw
              · have hrb := HR0.out.kept HKX3.out
                have r0 := hrb.c0
                have r1 := hrb.c1
                have r2 := hrb.c2
                have rf0 := hrb.warm 0
                have rf1 := hrb.warm 1
                have rf2 := hrb.warm 2
                have rl := lt_of_cell r0
                clear hrb
                go_wp2
                refine bodyPost_ret (results_cell_tmp rfl _ _ ⟨rb, 0, none⟩ rfl _ (load29 ((((HR0.out.kept HKX3.out).put0 _).put1 _).put2 _))) rfl ?_
                exact build_fail 1 rfl (kept3 (HK0.out.trans HKX3.out) (by have := HZ.out.2; omega) _ _ _) (by decide) (fun h => by have := (h.given.lin s HSM.out).2; rw [HBW.out] at this; cases this)
              · obtain ⟨s0, s1, s2, s3⟩ := hb4
                have sl := lt_of_cell s0
                go_wp2_with fail
                refine (partOf_any s q (-1) z3).mono ?_
                rintro e z4 ⟨rfl, hk6⟩
                have HKY4 := Lib.hid (HKY3.out.trans hk6)
                rw [← HPL.out]
                generalize prtL lines q = p at HTK
                clear hk6 s0 s1 s2 s3 sl
                go_wp2_with (first | (at_builtin; refine append_prt _ rfl _ _ rfl wb _ _ rfl (OwnG.kept (OwnG.kept HOV.out HKY4.out) ((Kept.refl _).alloc _)) _ p rfl ⟨by simp [go_sem], by simp [go_sem], by simp [go_sem], by simp [go_sem], by simp [go_sem], by simp [go_sem]⟩ (by have := HTL.out; omega) (by have h1 := HKW.out.size; have h2 := HKY4.out.size; have h3 := HWB.out; simp; omega) ?_; intro ra rc w6 hown6 hg6 hlies6; have HO6 := Lib.hid hown6; have HG6 := Lib.hid hg6; clear hown6 hg6 hlies6) | fail)
                go_roundw
                case rel =>
                  refine ⟨q + 1, by omega, by go_num, by rw [HTK.out]; exact HO6.out, Kept.grown ((HKW.out.trans HKY4.out).alloc _) HG6.out (fun r e => by have := (HOV.out.lt r e).1; have := HWB.out; omega), fun x hx => ?_⟩
                  rw [HST.out] at hx
                  rcases List.mem_append.1 hx with hx | hx
                  · exact HALL.out x hx
                  · rw [List.mem_singleton] at hx
                    subst hx
                    exact ⟨HBS.out, HBW.out⟩
                case measure => simp [intOf]; omega
          · obtain rfl : q = m := by omega
            have htk : prtsW wall ++ (prtsN lines).take q = prtsB wall lines := by rw [List.take_of_length_le (by rw [prtsN_len, HM.out]; exact Nat.le_refl _)]; rfl
            rw [htk] at HOV
            have hlt2 : lines.take q = lines := List.take_of_length_le (by rw [HM.out]; exact Nat.le_refl _)
            rw [hlt2] at HALL
            clear htk hlt2
            have hk3 : 3 ≤ k := by have := (polyOk HPE.out).1; rw [HN.out] at this; exact this
            have hML : (prtsB wall lines).length = k + q := by rw [prtsB_len, HN.out, HM.out]
            have HSEG := Lib.hid (segs_build wall lines)
            have HLINE := Lib.hid (prtsB_line (wall := wall) (lines := lines) (by rw [HM.out]; omega))
            obtain ⟨L, hL⟩ : ∃ L, prtsB wall lines = L := ⟨_, rfl⟩
            have HLE := Lib.hid hL
            rw [hL] at HOV HSEG HLINE hML
            clear hL
            obtain ⟨M, hM⟩ : ∃ M, k + q = M := ⟨_, rfl⟩
            rw [hM] at hML
            have HMB : Hid (3 ≤ M ∧ M ≤ 24) := Lib.hid (by omega)
            have HML := Lib.hid hML
            clear hM
            obtain ⟨al, cl, rfl, hprt, hbl⟩ := OwnG.prts HOV.out
            obtain ⟨pg, hpg, hcl⟩ : ∃ pg, al = some ⟨pg, 0, none⟩ ∧ M ≤ cl := by
              rcases OwnG.slice HOV.out prtC_len with ⟨e, -⟩ | ⟨gg, cc, e, hcc, -⟩
              · rw [e] at hML
                have := HMB.out
                simp at hML
                omega
              · simp only [Value.slice.injEq] at e
                exact ⟨gg, e.1, by omega⟩
            subst hpg
            have HPRT := Lib.hid hprt
            rw [hML]
            rw [hML] at HOV
            obtain ⟨S, hS⟩ : ∃ S, buildS wall lines = S := ⟨_, rfl⟩
            have HSE := Lib.hid hS
            have HSA : Hid (∀ i, (h : i < L.length) → sgAt S i = L[i].s) := Lib.hid (fun i h => by rw [← hS, ← HSEG.out]; exact segsL_at h)
            have HSL : Hid (S.length = M) := Lib.hid (by rw [← hS, ← HSEG.out, segsL_len]; exact HML.out)
            have HGC : Hid (∀ a b, b < a → a < M → Given wall lines → meetG (sgAt S a) (sgAt S b) ≠ 3 ∧ meetG (sgAt S a) (sgAt S b) ≠ 4) := Lib.hid (fun a b hba ha h => by
              have h2 := h.cross a b hba
              rw [hS] at h2
              exact h2 (by rw [HSL.out]; exact ha))
            have HOFF : Hid (wb ≤ pg ∧ pg < wr.heap.size) := Lib.hid (HOV.out.lt pg rfl)
            have hM24 := HMB.out.2
            clear hS hprt hbl hML
            obtain ⟨wq, hwq⟩ : ∃ wq, wr = wq := ⟨_, rfl⟩
            rw [hwq] at HOV HKW HPRT HOFF ⊢
            clear hwq
            go_wp2
            go_loopw [12, 82] (fun v iv wr => ∃ i : Nat, i ≤ M ∧ iv = .int .i64 i ∧ OwnP wr wq.heap.size v (endsS (segsL (L.take i))) ∧ Kept wq wr ∧ ∀ a b, b < a → a < i → meetG (sgAt S a) (sgAt S b) ≠ 3 ∧ meetG (sgAt S a) (sgAt S b) ≠ 4) (fun _ iv _ => M - (intOf iv).toNat)
            case atStart => exact ⟨0, Nat.zero_le _, rfl, OwnG.nil _ _ _ _ _, Kept.refl _, fun a b _ ha => by omega⟩
            case round =>
              obtain ⟨i, hi, rfl, hov, hkw, hcr⟩ := hrel
              have HOE := Lib.hid hov
              have HKE := Lib.hid hkw
              have HCR := Lib.hid hcr
              clear hov hkw hcr
              by_cases hit : i < M
              · have hil : i < L.length := by rw [HML.out]; exact hit
                obtain ⟨B, off, eB, c0, c1, c2, c3, c4, c5⟩ := (HPRT.out.kept HKE.out) i hil
                cases eB
                simp only [Nat.zero_add] at c0 c1 c2 c3 c4 c5
                have HET := Lib.hid (ends_take hil)
                have HEL := Lib.hid (ends_len L i)
                have HSI : Hid (sgAt S i = L[i].s) := Lib.hid (HSA.out i hil)
                generalize endsS (segsL (L.take i)) = T at HOE HET HEL
                generalize L[i] = x at c0 c1 c2 c3 c4 c5 HET HSI
                obtain ⟨u2, z1, k1, e1, e3, hg1, hb1, hf1, hk2, hb2, hz1⟩ := new_prt wr x
                have HKZ := Lib.hid hk2
                have HG1 := Lib.hid (And.intro hg1 hz1)
                have HB2 := Lib.hid hb2
                obtain ⟨r0, r1, r2, r3, r4, r5⟩ := hb1
                simp only [] at r0 r1 r2 r3 r4 r5
                have i1 : (0 : Int) ≤ (i : Int) := by omega
                have i2 : (i : Int) ≤ (cl : Int) := by omega
                go_upto_region 23 with fail
                clear e1 e3 r0 r1 r2 r3 r4 r5 hf1 c0 c1 c2 c3 c4 c5 hk2
                go_wp2
                go_loopw [91] (fun iv wr => ∃ j : Nat, j ≤ i ∧ iv = .int .i64 j ∧ Kept z1 wr ∧ ∀ b, b < j → meetG (sgAt S i) (sgAt S b) ≠ 3 ∧ meetG (sgAt S i) (sgAt S b) ≠ 4) (fun iv _ => i - (intOf iv).toNat)
                case atStart => exact ⟨0, Nat.zero_le _, rfl, Kept.refl _, fun b hb => by omega⟩
                case round =>
                  obtain ⟨j, hj, rfl, hkj, hcj⟩ := hrel
                  have HKJ := Lib.hid hkj
                  have HCJ := Lib.hid hcj
                  clear hkj hcj
                  by_cases hjt : j < i
                  · have hjl : j < L.length := by rw [HML.out]; omega
                    obtain ⟨B, off, eB, c0, c1, c2, c3, c4, c5⟩ := (HPRT.out.kept (HKE.out.trans (HKZ.out.trans HKJ.out))) j hjl
                    cases eB
                    simp only [Nat.zero_add] at c0 c1 c2 c3 c4 c5
                    have HSJ : Hid (sgAt S j = L[j].s) := Lib.hid (HSA.out j hjl)
                    generalize L[j] = y at c0 c1 c2 c3 c4 c5 HSJ
                    obtain ⟨u2, z2, k2, e1, e3, hg1, hb1, hf1, hk2, hb2, hz1⟩ := new_prt wr y
                    have HKZ2 := Lib.hid hk2
                    obtain ⟨r0, r1, r2, r3, r4, r5⟩ := hb1
                    simp only [] at r0 r1 r2 r3 r4 r5
                    have hji : (j : Int) < (i : Int) := by omega
                    go_upto_region 26 with fail
                    clear e1 e3 r0 r1 r2 r3 r4 r5 hf1 c0 c1 c2 c3 c4 c5
                    obtain ⟨s0, s1, s2, s3, -, -⟩ := hb2
                    obtain ⟨t0, t1, t2, t3, -, -⟩ := (HB2.out.kept HKJ.out).kept hk2
                    have sl := lt_of_cell s0
                    have tl := lt_of_cell t0
                    clear hk2
                    go_wp2_with fail
                    refine (meetG_any (x.s) (y.s) z2).mono ?_
                    rintro e z3 ⟨rfl, hk5⟩
                    clear s0 s1 s2 s3 t0 t1 t2 t3 sl tl
                    have HKK := Lib.hid ((HKJ.out.trans HKZ2.out).trans hk5)
                    clear hk5
                    have HKX : Hid (Kept w0 z3) := Lib.hid (HK1.out.trans (HKW.out.trans (HKE.out.trans (HKZ.out.trans HKK.out))))
                    obtain ⟨mt, hmt⟩ : ∃ mt, meetG x.s y.s = mt := ⟨_, rfl⟩
                    have HMT : Hid (meetG (sgAt S i) (sgAt S j) = mt) := Lib.hid (by rw [HSI.out, HSJ.out]; exact hmt)
                    rw [hmt]
                    clear hmt
                    by_cases h3 : mt = 3
                    · have q3 : (mt == 3) = true := by simpa using h3
                      have hrb := HR0.out.kept HKX.out
                      have r0 := hrb.c0
                      have r1 := hrb.c1
                      have r2 := hrb.c2
                      have rf0 := hrb.warm 0
                      have rf1 := hrb.warm 1
                      have rf2 := hrb.warm 2
                      have rl := lt_of_cell r0
                      clear hrb
                      go_wp2
                      refine bodyPost_ret (results_cell_tmp rfl _ _ ⟨rb, 0, none⟩ rfl _ (load29 ((((HR0.out.kept HKX.out).put0 _).put1 _).put2 _))) rfl ?_
                      exact build_fail 10 rfl (kept3 (HK0.out.trans HKX.out) (by have := HZ.out.2; omega) _ _ _) (by decide) (fun h => (HGC.out i j hjt hit h.given).1 (by rw [HMT.out]; exact h3))
                    · have q3 : (mt == 3) = false := by simpa using h3
                      by_cases h4 : mt = 4
                      · have q4 : (mt == 4) = true := by simpa using h4
                        have hrb := HR0.out.kept HKX.out
                        have r0 := hrb.c0
                        have r1 := hrb.c1
                        have r2 := hrb.c2
                        have rf0 := hrb.warm 0
                        have rf1 := hrb.warm 1
                        have rf2 := hrb.warm 2
                        have rl := lt_of_cell r0
                        clear hrb
                        go_wp2
                        refine bodyPost_ret (results_cell_tmp rfl _ _ ⟨rb, 0, none⟩ rfl _ (load29 ((((HR0.out.kept HKX.out).put0 _).put1 _).put2 _))) rfl ?_
                        exact build_fail 10 rfl (kept3 (HK0.out.trans HKX.out) (by have := HZ.out.2; omega) _ _ _) (by decide) (fun h => (HGC.out i j hjt hit h.given).2 (by rw [HMT.out]; exact h4))
                      · have q4 : (mt == 4) = false := by simpa using h4
                        go_wp2
                        go_roundw
                        case rel =>
                          refine ⟨j + 1, by omega, by go_num, HKK.out, fun b hb => ?_⟩
                          rcases Nat.lt_succ_iff_lt_or_eq.1 hb with hb | rfl
                          · exact HCJ.out b hb
                          · rw [HMT.out]
                            exact ⟨h3, h4⟩
                        case measure => simp [intOf]; omega
                  · obtain rfl : i = j := by omega
                    obtain ⟨t0, t1, t2, t3, -, -⟩ := HB2.out.kept HKJ.out
                    have tl := lt_of_cell t0
                    have HKA := Lib.hid (HKZ.out.trans HKJ.out)
                    go_wp2_with (first | (at_builtin; refine append_many Tryz.underlying22 info25 rfl (by omega) (by omega) pairC_len pairC_one _ rfl _ _ rfl wq.heap.size _ T rfl (OwnG.kept (OwnG.kept HOE.out HKA.out) ((Kept.refl _).alloc _)) _ 0 2 2 [x.s.1, x.s.2] rfl rfl (two_cells _ _ _) (by have := HEL.out; omega) (by have h1 := HKE.out.size; have h2 := HKA.out.size; simp; omega) ?_; intro ra rc w6 hown6 hg6 hlies6; have HO6 := Lib.hid hown6; have HG6 := Lib.hid hg6; clear hown6 hg6 hlies6) | fail)
                    go_roundw
                    case rel =>
                      refine ⟨i + 1, by omega, by go_num, by rw [HET.out]; exact HO6.out, Kept.grown ((HKE.out.trans HKA.out).alloc _) HG6.out (fun r e => (HOE.out.lt r e).1), fun a b hba ha => ?_⟩
                      rcases Nat.lt_succ_iff_lt_or_eq.1 ha with ha | rfl
                      · exact HCR.out a b hba ha
                      · exact HCJ.out b hba
                    case measure => simp [intOf]; omega
              · obtain rfl : M = i := by omega
                have htk : L.take M = L := by rw [← HML.out]; exact List.take_length
                rw [htk, HSEG.out, HSE.out] at HOE
                clear htk
                have hg : Given wall lines := ⟨HPE.out, HALL.out, fun a b hba ha => by rw [HSE.out] at ha ⊢; rw [HSL.out] at ha; exact HCR.out a b hba ha⟩
                have HGI := Lib.hid hg
                have HEOK : Hid (∀ x ∈ endsS S, okB x = true) := Lib.hid (by rw [← HSE.out]; exact hg.okE)
                have HSOK : Hid (∀ i, (h : i < L.length) → okS L[i].s = true) := Lib.hid (fun i h => by rw [← HSA.out i h, ← HSE.out]; exact hg.okG (by rw [HSE.out, HSL.out, ← HML.out]; exact h))
                clear hg
                have HENL : Hid ((endsS S).length = 2 * M) := Lib.hid (by rw [endsS_len, HSL.out])
                obtain ⟨ae, ce, rfl, hpe2⟩ := OwnG.pts HOE.out
                have HEP := Lib.hid hpe2
                clear hpe2
                have HKQ : Hid (Kept w1 wr) := Lib.hid (HKW.out.trans HKE.out)
                have HPRW := Lib.hid (HPRT.out.kept HKE.out)
                obtain ⟨EN, hEN⟩ : ∃ EN, endsS S = EN := ⟨_, rfl⟩
                have HEN := Lib.hid hEN
                rw [hEN] at HEOK HENL HEP HOE ⊢
                rw [HENL.out] at HOE ⊢
                obtain ⟨wy, hwy⟩ : ∃ wy, wr = wy := ⟨_, rfl⟩
                rw [hwy] at HEP HKQ HPRW ⊢
                clear hEN hwy
                go_wp2
                go_loopw [18, 124] (fun v iv wr => ∃ i : Nat, i ≤ M ∧ iv = .int .i64 i ∧ OwnR wr wy.heap.size v (cutsP (L.take i) EN) ∧ Kept wy wr) (fun _ iv _ => M - (intOf iv).toNat)
                case atStart => exact ⟨0, Nat.zero_le _, rfl, OwnG.nil _ _ _ _ _, Kept.refl _⟩
                case round =>
                  obtain ⟨i, hi, rfl, hov, hkw⟩ := hrel
                  have HOC := Lib.hid hov
                  have HKC := Lib.hid hkw
                  clear hov hkw
                  by_cases hit : i < M
                  · have hil : i < L.length := by rw [HML.out]; exact hit
                    obtain ⟨B, off, eB, c0, c1, c2, c3, c4, c5⟩ := (HPRW.out.kept HKC.out) i hil
                    cases eB
                    simp only [Nat.zero_add] at c0 c1 c2 c3 c4 c5
                    have HET := Lib.hid (cutsP_take (l := EN) hil)
                    have HEL : Hid ((cutsP (L.take i) EN).length ≤ 1200) := Lib.hid (by
                      have h1 := cutsP_len EN (L.take i)
                      rw [List.length_take, HENL.out] at h1
                      have h2 : min i L.length * (2 * M + 1) ≤ 24 * 49 := Nat.mul_le_mul (by omega) (by omega)
                      omega)
                    have HSI : Hid (okS L[i].s = true) := Lib.hid (HSOK.out i hil)
                    generalize cutsP (L.take i) EN = T at HOC HET HEL
                    generalize L[i] = x at c0 c1 c2 c3 c4 c5 HET HSI
                    obtain ⟨u2, z1, k1, e1, e3, hg1, hb1, hf1, hk2, hb2, hz1⟩ := new_prt wr x
                    have HKZ := Lib.hid hk2
                    obtain ⟨r0, r1, r2, r3, r4, r5⟩ := hb1
                    simp only [] at r0 r1 r2 r3 r4 r5
                    go_upto_region 36 with fail
                    clear e1 e3 r0 r1 r2 r3 r4 r5 hf1 c0 c1 c2 c3 c4 c5 hk2
                    obtain ⟨s0, s1, s2, s3, s4, s5⟩ := hb2
                    have sl := lt_of_cell s0
                    go_wp2_with fail
                    have hcut := cut_any x EN ae ce z1 (HEP.out.kept (HKC.out.trans HKZ.out)) HEOK.out HSI.out (by rw [HENL.out]; omega)
                    rw [HENL.out] at hcut
                    refine hcut.mono ?_
                    rintro e z2 ⟨v2, rfl, hv2, hk4⟩
                    clear hcut s0 s1 s2 s3 s4 s5 sl
                    have hv3 : OwnR z2 z1.heap.size v2 (cutP EN x) := hv2
                    have HKY := Lib.hid (HKZ.out.trans hk4)
                    obtain ⟨g2, c2, rfl⟩ : ∃ g2 c2, v2 = .slice (some ⟨g2, 0, none⟩) (cutP EN x).length c2 := by
                      rcases OwnG.slice hv3 prtC_len with ⟨e, -⟩ | ⟨gg, cc, e, -⟩
                      · have := cutP_pos EN x
                        rw [e] at this
                        exact absurd this (by decide)
                      · exact ⟨gg, cc, e⟩
                    have HFLAT : Hid (∀ j u, ((cutP EN x).flatMap prtC)[j]? = some u → z2.cell? ⟨g2, 0 + j, none⟩ = some u) := Lib.hid (OwnG.flat hv3)
                    have HNY : Hid ((cutP EN x).length ≤ 49) := Lib.hid (by have := cutP_len EN x; have := HENL.out; omega)
                    obtain ⟨ny, hny⟩ : ∃ ny, (cutP EN x).length = ny := ⟨_, rfl⟩
                    have HNE := Lib.hid hny
                    rw [hny] at HNY ⊢
                    clear hv2 hv3 hk4 hny
                    go_wp2_with (first | (at_builtin; refine append_many Tryz.underlying48 info50 rfl (by omega) (by omega) prtC_len prtC_one _ rfl _ _ rfl wy.heap.size _ T rfl (OwnG.kept HOC.out HKY.out) g2 0 ny c2 (cutP EN x) HNE.out rfl HFLAT.out (by have := HEL.out; have := HNY.out; omega) (by have h1 := HKC.out.size; have h2 := HKY.out.size; omega) ?_; intro ra rc w6 hown6 hg6 hlies6; have HO6 := Lib.hid hown6; have HG6 := Lib.hid hg6; clear hown6 hg6 hlies6) | fail)
                    go_roundw
                    case rel => exact ⟨i + 1, by omega, by go_num, by rw [HET.out]; exact HO6.out, Kept.grown (HKC.out.trans HKY.out) HG6.out (fun r e => (HOC.out.lt r e).1)⟩
                    case measure => simp [intOf]; omega
                  · obtain rfl : M = i := by omega
                    have htk : L.take M = L := by rw [← HML.out]; exact List.take_length
                    rw [htk] at HOC
                    clear htk
                    obtain ⟨al2, cl2, rfl, hp2, -⟩ := OwnG.prts HOC.out
                    have hoff2 : ∀ x, al2 = some x → x.block < wr.heap.size := by
                      rcases OwnG.slice HOC.out prtC_len with ⟨-, e⟩ | ⟨gg, cc, e, -, -, hlt, -⟩
                      · simp only [Value.slice.injEq] at e
                        intro x hx
                        rw [e.1] at hx
                        cases hx
                      · simp only [Value.slice.injEq] at e
                        intro x hx
                        rw [e.1] at hx
                        cases hx
                        exact hlt
                    obtain ⟨PB, hPB⟩ : ∃ PB, cutsP L EN = PB := ⟨_, rfl⟩
                    have HSPB : Hid (segsL PB = cutB wall lines) := Lib.hid (by rw [← hPB, ← HEN.out, ← HSE.out, ← HLE.out]; exact segs_cutB wall lines)
                    have HPBL : Hid (PB.length < 2000) := Lib.hid (by
                      rw [← hPB]
                      have h1 := cutsP_len EN L
                      rw [HML.out, HENL.out] at h1
                      have h2 : M * (2 * M + 1) ≤ 24 * 49 := Nat.mul_le_mul (by omega) (by omega)
                      omega)
                    have HPLN : Hid (∀ p ∈ PB, LineOk p) := Lib.hid (by rw [← hPB]; exact cutsP_line EN HLINE.out)
                    rw [hPB] at hp2
                    have hasm := assembled_any PB al2 cl2 wr hp2 hoff2 HPBL.out (by rw [HSPB.out]; exact HGI.out.cutOk.nodup) (by rw [HSPB.out]; exact HGI.out.cutOk.laid.2) (by rw [HSPB.out]; exact pts_ok HGI.out.cutOk HGI.out.oks)
                    have HASM := Lib.hid hasm
                    rw [hPB]
                    clear hp2 hoff2 hasm hPB
                    go_wp2_with fail
                    refine HASM.out.mono ?_
                    rintro e z9 ⟨ap, np, cp, ae9, ne, ce9, mf, oo, on, oc, er, rfl, hk9, hj9, hout⟩
                    have HK9 := Lib.hid hk9
                    have HJ9 := Lib.hid hj9
                    have HOUT := Lib.hid hout
                    have HKF : Hid (Kept w0 z9) := Lib.hid (HK1.out.trans (HKQ.out.trans (HKC.out.trans hk9)))
                    clear HASM hk9 hj9 hout
                    obtain ⟨wm, hwm⟩ : ∃ wm, z9.alloc (.cells #[.slice none 0 0, .slice none 0 0, .int .i64 0] 29) = wm := ⟨_, rfl⟩
                    obtain ⟨mb, hmb⟩ : ∃ mb, z9.heap.size = mb := ⟨_, rfl⟩
                    have hbm : MBox wm mb (.slice none 0 0) (.slice none 0 0) 0 := by
                      rw [← hwm, ← hmb]
                      exact ⟨by simp [go_sem], by simp [go_sem], by simp [go_sem], fun o => frozen_alloc _ _ _ o⟩
                    have hkm : Kept z9 wm := by rw [← hwm]; exact (Kept.refl _).alloc _
                    have hbr := (HR0.out.kept HKF.out).kept hkm
                    have HBM := Lib.hid hbm
                    have HBR := Lib.hid hbr
                    have HKM := Lib.hid hkm
                    have HMZ := Lib.hid hmb
                    have hne : rb ≠ mb := by have := lt_of_cell (HR0.out.kept HKF.out).c0; omega
                    have m0 := hbm.c0
                    have m1 := hbm.c1
                    have m2 := hbm.c2
                    have mf0 := hbm.warm 0
                    have mf1 := hbm.warm 1
                    have mf2 := hbm.warm 2
                    have r0 := hbr.c0
                    have r1 := hbr.c1
                    have r2 := hbr.c2
                    have rf0 := hbr.warm 0
                    have rf1 := hbr.warm 1
                    have rf2 := hbr.warm 2
                    have rl := lt_of_cell r0
                    have ml := lt_of_cell m0
                    clear hbm hbr hkm
                    go_wp2
                    refine bodyPost_ret (results_cell_tmp rfl _ _ ⟨rb, 0, none⟩ rfl _ (load29 (((((((HBR.out.other hne).other hne).other hne).put0 _).put1 _).put2 _)))) rfl ?_
                    have hK3 := kept3 HKM.out (Nat.le_of_eq HMZ.out) (.slice ap np cp) (.slice ae9 ne ce9) (.int .i64 mf)
                    generalize ((wm.setCell ⟨mb, 0, none⟩ (.slice ap np cp)).setCell ⟨mb, 1, none⟩ (.slice ae9 ne ce9)).setCell ⟨mb, 2, none⟩ (.int .i64 mf) = Z3 at hK3
                    have hst : Sty rb Z3 (((Z3.setCell ⟨rb, 0, none⟩ (.slice ap np cp)).setCell ⟨rb, 1, none⟩ (.slice ae9 ne ce9)).setCell ⟨rb, 2, none⟩ (.int .i64 mf)) := (((Sty.refl rb Z3).set (.inr rfl) 0 _).set (.inr rfl) 1 _).set (.inr rfl) 2 _
                    have hkw := kept3 (HK0.out.trans (HKF.out.trans hK3)) (b := rb) (by have := HZ.out.2; omega) (.slice ap np cp) (.slice ae9 ne ce9) (.int .i64 mf)
                    refine ⟨ap, np, cp, ae9, ne, ce9, mf, er, rfl, hkw, ⟨fun h => ⟨HGI.out, by rw [← HSPB.out]; exact HJ9.out.1 h⟩, fun h => HJ9.out.2 (by rw [HSPB.out]; exact h.joined)⟩, fun h0 => ?_⟩
                    have hB : Built wall lines := ⟨HGI.out, by rw [← HSPB.out]; exact HJ9.out.1 h0⟩
                    obtain ⟨e1, e2, e3, hmd, hap, hae⟩ := HOUT.out h0
                    rw [HSPB.out] at e1 e3 hmd
                    have hl := hB.listed (L := PB) HSPB.out HPLN.out
                    have hlow : rb < wr.heap.size := by have h1 := HK1.out.size; have h2 := HKQ.out.size; have h3 := HKC.out.size; have h4 := HZ.out.1; omega
                    have hD : MapD (((Z3.setCell ⟨rb, 0, none⟩ (.slice ap np cp)).setCell ⟨rb, 1, none⟩ (.slice ae9 ne ce9)).setCell ⟨rb, 2, none⟩ (.int .i64 mf)) ap ae9 (ptsB wall lines) (edgB wall lines) (asmEds PB (fcsF (ptsB wall lines) (edgB wall lines))) np ne :=
                      ⟨hst.pairs (hmd.pts.kept hK3) (fun x hx => by have := (hap x hx).1; omega), hst.fives (hmd.eds.kept hK3) (fun x hx => by have := hae x hx; omega), hmd.are, hmd.hp, hmd.he⟩
                    refine ⟨_, hD, mapOk hD ?_ ?_ (fun x hx => ?_)⟩
                    · rw [e1, e2, e3]
                      exact hl.1
                    · rw [e2, e3]
                      exact hl.2
                    · have h1 := (hap x hx).2
                      have h2 := hK3.size
                      simp only [World.size_setCell]
                      omega
  · have HPE := Lib.hid hpe
    have hrb := HR0.out.kept HK1.out
    have r0 := hrb.c0
    have r1 := hrb.c1
    have r2 := hrb.c2
    have rf0 := hrb.warm 0
    have rf1 := hrb.warm 1
    have rf2 := hrb.warm 2
    have rl := lt_of_cell r0
    have t1 : (pe != 0) = true := by simpa using hp0
    clear hrb hpe
    go_wp2
    refine bodyPost_ret (results_cell_tmp rfl _ _ ⟨rb, 0, none⟩ rfl _ (load29 ((((HR0.out.kept HK1.out).put0 _).put1 _).put2 _))) rfl ?_
    exact build_fail pe rfl (kept3 (HK0.out.trans HK1.out) (by have := HZ.out.2; omega) _ _ _) hp0 (fun h => hp0 (by rw [← HPE.out]; exact h.given.poly))
end Go.Proofs.YtlglfcdobbocnaaGreat
