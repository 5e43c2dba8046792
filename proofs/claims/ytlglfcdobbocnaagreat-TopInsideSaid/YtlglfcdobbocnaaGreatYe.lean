/- giornatatop.square, giornatatop.walked. -/
import Derived.Test.YtlglfcdobbocnaaGreatYd
import Derived.Test.YtlglfcdobbocnaaGreatPb
set_option maxRecDepth 100000
namespace Go.Proofs.YtlglfcdobbocnaaGreat
open Go Go.Proofs Go.RowKit
attribute [local go_sem] Oper.semAt_some
/-- What a call hands back that makes points somewhere. -/
def GivesP (l : List Pt) (w : World) (e : Ending) (w' : World) : Prop := ∃ ao c, e = .returned (.slice ao l.length c) ∧ Pairs w' ao l ∧ Kept w w'
set_option maxHeartbeats 1000000 in
theorem square_any (w : World) : Calls Tryz.prog 12 #[] w (GivesP sqW w) := by
  have hp : Pairs (w.alloc (.cells #[.int .i64 0, .int .i64 0, .int .i64 4, .int .i64 0, .int .i64 4, .int .i64 4, .int .i64 0, .int .i64 4] 25)) (some ⟨w.heap.size, 0, none⟩) sqW := fun i hi => by
    refine ⟨w.heap.size, 0, rfl, ?_, ?_⟩
    all_goals
      match i, hi with
      | 0, _ => simp [go_sem, sqW]
      | 1, _ => simp [go_sem, sqW]
      | 2, _ => simp [go_sem, sqW]
      | 3, _ => simp [go_sem, sqW]
  have HP := Lib.hid hp
  clear hp
  go_enter Tryz.func12, Tryz.ntmps12
  go_wp2
  go_ret
  exact ⟨_, _, rfl, HP.out, (Kept.refl w).alloc _⟩
/-- The way round a face leads from point to point. -/
theorem walk_lt {P : List Pt} {E : List (Nat × Nat)} (he : Ends P E) {f : Int} (hf : leastF P E f < 2 * E.length) : ∀ x ∈ walkF P E f, x < P.length := fun x hx => by
  unfold walkF at hx
  obtain ⟨d, hd, rfl⟩ := List.mem_map.1 hx
  exact (he.tail d ((inj_nxt P E).orb_lt hf hd)).1
theorem walk_len {P : List Pt} {E : List (Nat × Nat)} {f : Int} (hf : leastF P E f < 2 * E.length) : (walkF P E f).length ≤ 2 * E.length := by
  unfold walkF
  rw [List.length_map]
  exact (inj_nxt P E).orb_len hf
set_option maxHeartbeats 4000000 in
theorem walked_any (P : List Pt) (E : List (Nat × Nat)) (Ed : List Five) (ap : Option Addr) (np cp : Nat) (ae : Option Addr) (ne ce : Nat) (mf : Int) (f : Nat) (w : World) (h : MapOk P E Ed ap np cp ae ne ce mf w) (hd : MapD w ap ae P E Ed np ne) (he : Ends P E) (h1 : 1 ≤ f) (h2 : (f : Int) ≤ mf) :
    Calls Tryz.prog 10 #[mapV ap np cp ae ne ce mf, .int .i64 f] w (GivesP (walkedF P E f) w) := by
  have H := Lib.hid h
  have HD := Lib.hid hd
  have hfo := h.face h1 h2
  have HLT : Hid (∀ x ∈ walkF P E f, x < np) := Lib.hid (by rw [← hd.hp]; exact walk_lt he hfo.lt)
  have HWL : Hid ((walkF P E f).length ≤ 800) := Lib.hid (by have h3 := walk_len (P := P) (E := E) hfo.lt; have := he.few; omega)
  obtain ⟨w0, hw0⟩ : ∃ w0, w.alloc (.cells #[.slice ap np cp, .slice ae ne ce, .int .i64 mf] 29) = w0 := ⟨_, rfl⟩
  obtain ⟨b, hb⟩ : ∃ b, w.heap.size = b := ⟨_, rfl⟩
  have m0 : w0.cell? ⟨b, 0, none⟩ = some (.slice ap np cp) := by rw [← hw0, ← hb]; simp [go_sem]
  have m1 : w0.cell? ⟨b, 1, none⟩ = some (.slice ae ne ce) := by rw [← hw0, ← hb]; simp [go_sem]
  have m2 : w0.cell? ⟨b, 2, none⟩ = some (.int .i64 mf) := by rw [← hw0, ← hb]; simp [go_sem]
  have hk0 : Kept w w0 := by rw [← hw0]; exact (Kept.refl w).alloc _
  have hl := lt_of_cell m0
  have HK0 := Lib.hid hk0
  have M0 := Lib.hid m0
  have HF := Lib.hid (And.intro h1 h2)
  clear h hd he hfo hk0 h1 h2
  go_enter Tryz.func10, Tryz.ntmps10
  go_wp2_with fail
  refine (WalkM_any P E Ed ap np cp ae ne ce mf f w0 (H.out.kept HK0.out) HF.out.1 HF.out.2).mono ?_
  rintro e w1 ⟨v, rfl, hv, hk1⟩
  obtain ⟨al, cl, rfl, hi, -⟩ := OwnG.ints hv
  have HK1 := Lib.hid hk1
  have HI := Lib.hid hi
  have HWE : Hid (walkedF P E f = (walkF P E f).map fun i => P.getD i (0, 0)) := Lib.hid rfl
  generalize walkF P E f = W at *
  obtain ⟨n, hn⟩ : ∃ n, W.length = n := ⟨_, rfl⟩
  have HN := Lib.hid hn
  rw [natL_len, hn]
  have hn8 : n ≤ 800 := by have := HWL.out; omega
  clear hv hi hk1 m0 m1 m2 hn hw0
  have M1 := Lib.hid (HK1.out.cell M0.out)
  go_wp2
  go_loopw [7, 8] (fun v iv wr => ∃ i : Nat, i ≤ n ∧ iv = .int .i64 i ∧ OwnP wr w1.heap.size v ((W.take i).map fun i => P.getD i (0, 0)) ∧ Kept w1 wr) (fun _ iv _ => n - (intOf iv).toNat)
  case atStart => exact ⟨0, Nat.zero_le _, rfl, by simpa using OwnG.nil _ _ _ _ _, Kept.refl _⟩
  case round =>
    obtain ⟨i, hi, rfl, hov, hkw⟩ := hrel
    have HOV := Lib.hid hov
    have HKW := Lib.hid hkw
    clear hov hkw
    by_cases hit : i < n
    · have hil : i < W.length := by rw [HN.out]; exact hit
      obtain ⟨B, off, rfl, c0⟩ := HI.out i (by rw [natL_len]; exact hil)
      have HB1 : Hid (B < w1.heap.size) := Lib.hid (lt_of_cell c0)
      have c0 := HKW.out.cell c0
      rw [natL_get hil] at c0
      have hjn : W[i] < np := HLT.out _ (List.getElem_mem hil)
      have hjl : W[i] < P.length := by rw [HD.out.hp]; exact hjn
      obtain ⟨B2, off2, rfl, d0, d1⟩ := (HD.out.pts.kept (HK0.out.trans HK1.out)) W[i] hjl
      have HB2 : Hid (B2 < w1.heap.size) := Lib.hid (lt_of_cell d0)
      have d0 := HKW.out.cell d0
      have d1 := HKW.out.cell d1
      have hpe : P[W[i]]'hjl = P.getD W[i] (0, 0) := by rw [List.getD_eq_getElem?_getD, List.getElem?_eq_getElem hjl]; rfl
      rw [hpe] at d0 d1
      have HTK : Hid ((W.take (i + 1)).map (fun i => P.getD i (0, 0)) = (W.take i).map (fun i => P.getD i (0, 0)) ++ [P.getD W[i] (0, 0)]) := Lib.hid (by rw [List.take_succ_eq_append_getElem hil, List.map_append]; rfl)
      have HTL : Hid (((W.take i).map fun i => P.getD i (0, 0)).length ≤ 800) := Lib.hid (by rw [List.length_map, List.length_take]; omega)
      clear hpe
      generalize (W.take i).map (fun i => P.getD i (0, 0)) = T at HOV HTK HTL
      generalize P.getD W[i] (0, 0) = p at d0 d1 HTK
      generalize W[i] = j at c0 hjn d0 d1
      have m0 := HKW.out.cell M1.out
      have b1 := lt_of_cell c0
      have b2 := lt_of_cell d0
      have b3 := lt_of_cell m0
      have j0 : ¬ ((j : Int) < 0) := by omega
      have j1 : ¬ ((np : Int) ≤ (j : Int)) := by omega
      have j2 : (0 : Int) ≤ (j : Int) := by omega
      have j3 : (j : Int) < (np : Int) := by omega
      go_upto_region 6 with fail
      go_region
      go_upto_region 8 with fail
      have s0 := m0
      refine region_late (fun X => X.cell? ⟨b, 0, none⟩ = some (.slice (some ⟨B2, off2, none⟩) np cp) ∧ X.cell? ⟨B, off + i, none⟩ = some (.int .i64 j) ∧ X.cell? ⟨B2, off2 + j * 2, none⟩ = some (.int .i64 p.1) ∧ X.cell? ⟨B2, off2 + j * 2 + 1, none⟩ = some (.int .i64 p.2)) 9 11 (by kernel_rfl) (by kernel_rfl) (by decide) (by kernel_rfl) (by kernel_rfl) ⟨m0, c0, d0, d1⟩ ?_
      simp only [List.take_succ_cons, List.take_zero, List.drop_succ_cons, List.drop_zero]
      iterate 9 refine wpHeld_step _ (by rfl) (fun X hX => by (obtain ⟨h0, h1, h2, h3⟩ := hX; go_simp; rfl)) ?_
      refine wpHeld_nil ?_
      have hk7 : Kept wr (wr.drew.drew.alloc (.cells #[.int .i64 p.1, .int .i64 p.2] 25)) := (Kept.refl _).drew.drew.alloc _
      have HBLK : Hid (∀ r, u7.ownBlock = some r → w1.heap.size ≤ r) := Lib.hid (fun r e => (HOV.out.lt r e).1)
      have HNB : Hid (∀ r, u7.ownBlock = some r → r ≠ b ∧ r ≠ B ∧ r ≠ B2) := Lib.hid (fun r e => by
        have h1 := HBLK.out r e
        have h2 := lt_of_cell M1.out
        have h3 := HB1.out
        have h4 := HB2.out
        omega)
      refine wpLate_step fun K' hK => ?_
      go_simp
      refine hK _ _ (fun _ => ⟨hk7.cell m0, hk7.cell c0, hk7.cell d0, hk7.cell d1⟩) ?_
      clear hK K'
      refine wpLate_step fun K' hK => ?_
      refine step_many Tryz.underlying22 info25 rfl (by decide) (by decide) pairC_len pairC_one rfl (.tmp 40) (.tmp 49) rfl w1.heap.size u7 T (OwnG.kept HOV.out hk7) (by simp [Act.eval]) wr.drew.drew.heap.size 0 1 1 [p] rfl (by simp [Act.eval]) (fun j u hu => by rw [Nat.zero_add]; exact (cell_new_at wr.drew.drew _ 25 j).trans (by simpa [pairC] using hu)) (by have := HTL.out; omega) (by have := HKW.out.size; simp; omega) ?_
      intro ra rc w7 ho7 hg7 hl7
      have HO7 := Lib.hid ho7
      have HK7 : Hid (Kept w1 w7) := Lib.hid (Kept.grown (HKW.out.trans hk7) hg7 HBLK.out)
      refine hK _ _ (fun _ => ⟨grown_cell hg7 (hk7.cell m0) (fun e => (HNB.out _ e.symm).1 rfl), grown_cell hg7 (hk7.cell c0) (fun e => (HNB.out _ e.symm).2.1 rfl), grown_cell hg7 (hk7.cell d0) (fun e => (HNB.out _ e.symm).2.2 rfl), grown_cell hg7 (hk7.cell d1) (fun e => (HNB.out _ e.symm).2.2 rfl)⟩) ?_
      clear hK K' ho7 hg7 hl7 hk7 m0 c0 d0 d1 s0
      refine wpLate_step fun K' hK => ?_
      go_simp
      refine hK _ _ (fun h => absurd h (by decide)) ?_
      clear hK K'
      refine wpLate_nil ?_
      show Exit.inBlock 1 _ .normal _ _
      go_wp2
      go_roundw
      case rel => exact ⟨i + 1, by omega, by go_num, by rw [HTK.out]; exact HO7.out, HK7.out⟩
      case measure => simp [intOf]; omega
    · obtain rfl : i = n := by omega
      have htk : W.take i = W := List.take_of_length_le (by rw [HN.out]; exact Nat.le_refl _)
      rw [htk, ← HWE.out] at HOV
      obtain ⟨ao, c, rfl, hp⟩ := OwnG.pts HOV.out
      have HPF := Lib.hid hp
      clear htk hp
      have n1 : ¬ ((i : Int) < (i : Int)) := by omega
      go_wp2
      go_ret
      exact ⟨_, _, rfl, HPF.out, HK0.out.trans (HK1.out.trans HKW.out)⟩
end Go.Proofs.YtlglfcdobbocnaaGreat
