/- faces.listed: of a map that was built it holds. -/
import Derived.Test.YtlglfcdobbocnaaGreatXq
import Derived.BigQuiet
set_option maxRecDepth 100000
namespace Go.Proofs.YtlglfcdobbocnaaGreat
open Go Go.Proofs Go.RowKit
attribute [local go_sem] Oper.semAt_some
structure Listed (P : List Pt) (E : List (Nat × Nat)) (Ed : List Five) (np ne : Nat) (mf : Int) : Prop where
  n4 : np ≤ 400
  e3 : 3 ≤ ne
  e4 : ne ≤ 400
  m1 : 1 ≤ mf
  m2 : mf ≤ 100
  ok : ∀ x ∈ P, okB x = true
  strict : ∀ i, i + 1 < np → cmpP (P.getD i (0, 0)) (P.getD (i + 1) (0, 0)) < 0
  up : ∀ i, i < ne → (E.getD i (0, 0)).1 < (E.getD i (0, 0)).2 ∧ (E.getD i (0, 0)).2 < np
  line : ∀ i, i < ne → -1 ≤ (Ed.getD i (0, 0, 0, 0, 0)).2.2.2.2 ∧ (Ed.getD i (0, 0, 0, 0, 0)).2.2.2.2 < 200
  rise : ∀ i, i + 1 < ne → ltN (E.getD i (0, 0)) (E.getD (i + 1) (0, 0)) = true
  used : ∀ p, p < np → ∃ i, i < ne ∧ ((E.getD i (0, 0)).1 = p ∨ (E.getD i (0, 0)).2 = p)
/-- Which points are used by the first of the edges. -/
def usedL (E : List (Nat × Nat)) (n : Nat) : Nat → List Bool
  | 0 => List.replicate n false
  | k + 1 => ((usedL E n k).set (E.getD k (0, 0)).1 true).set (E.getD k (0, 0)).2 true
theorem usedL_len (E : List (Nat × Nat)) (n k : Nat) : (usedL E n k).length = n := by
  induction k with
  | zero => simp [usedL]
  | succ k ih => simp [usedL, ih]
theorem usedL_at (E : List (Nat × Nat)) (n k p : Nat) (hp : p < n) (h : ∃ i, i < k ∧ ((E.getD i (0, 0)).1 = p ∨ (E.getD i (0, 0)).2 = p)) : sAt (usedL E n k) p = true := by
  induction k with
  | zero => obtain ⟨i, hi, -⟩ := h; omega
  | succ k ih =>
    obtain ⟨i, hi, hpi⟩ := h
    have hl := usedL_len E n k
    unfold usedL
    by_cases e2 : (E.getD k (0, 0)).2 = p
    · rw [e2, sAt_set (by rw [List.length_set, hl]; exact hp), if_pos rfl]
    by_cases hb : (E.getD k (0, 0)).2 < n
    · rw [sAt_set (by rw [List.length_set, hl]; exact hb), if_neg (fun e => e2 e.symm)]
      by_cases e1 : (E.getD k (0, 0)).1 = p
      · rw [e1, sAt_set (by rw [hl]; exact hp), if_pos rfl]
      by_cases ha : (E.getD k (0, 0)).1 < n
      · rw [sAt_set (by rw [hl]; exact ha), if_neg (fun e => e1 e.symm)]
        refine ih ⟨i, ?_, hpi⟩
        rcases Nat.lt_succ_iff_lt_or_eq.1 hi with h | rfl
        · exact h
        · rcases hpi with e | e <;> omega
      · rw [List.set_eq_of_length_le (by rw [hl]; omega)]
        refine ih ⟨i, ?_, hpi⟩
        rcases Nat.lt_succ_iff_lt_or_eq.1 hi with h | rfl
        · exact h
        · rcases hpi with e | e <;> omega
    · rw [List.set_eq_of_length_le (by rw [List.length_set, hl]; omega)]
      by_cases e1 : (E.getD k (0, 0)).1 = p
      · rw [e1, sAt_set (by rw [hl]; exact hp), if_pos rfl]
      by_cases ha : (E.getD k (0, 0)).1 < n
      · rw [sAt_set (by rw [hl]; exact ha), if_neg (fun e => e1 e.symm)]
        refine ih ⟨i, ?_, hpi⟩
        rcases Nat.lt_succ_iff_lt_or_eq.1 hi with h | rfl
        · exact h
        · rcases hpi with e | e <;> omega
      · rw [List.set_eq_of_length_le (by rw [hl]; omega)]
        refine ih ⟨i, ?_, hpi⟩
        rcases Nat.lt_succ_iff_lt_or_eq.1 hi with h | rfl
        · exact h
        · rcases hpi with e | e <;> omega
theorem usedL_all {E : List (Nat × Nat)} {n k : Nat} (h : ∀ p, p < n → ∃ i, i < k ∧ ((E.getD i (0, 0)).1 = p ∨ (E.getD i (0, 0)).2 = p)) : false ∉ usedL E n k := by
  intro hm
  obtain ⟨p, hp, e⟩ := List.mem_iff_getElem.1 hm
  have hl := usedL_len E n k
  have := usedL_at E n k p (by omega) (h p (by omega))
  unfold sAt at this
  rw [List.getD_eq_getElem?_getD, List.getElem?_eq_getElem hp] at this
  simp [e] at this
theorem ints_two (w : World) (x y : Int) : Ints (w.alloc (.cells #[.int .i64 x, .int .i64 y] 3)) (some ⟨w.heap.size, 0, none⟩) [x, y] := fun i hi => by
  refine ⟨w.heap.size, 0, rfl, ?_⟩
  match i, hi with
  | 0, _ => simp [go_sem]
  | 1, _ => simp [go_sem]
theorem or_lt {a b c d : Nat} (h : ltN (a, b) (c, d) = true) : orI [cmpI a c, cmpI b d] < 0 := by
  unfold ltN at h
  simp only [Bool.or_eq_true, Bool.and_eq_true, decide_eq_true_eq] at h
  simp only [orI]
  rcases h with h | ⟨h1, h2⟩
  · have e := (cmpI_lt (a : Int) c).2 (by omega)
    rw [if_neg (by omega)]
    exact e
  · subst h1
    have e0 := (cmpI_eq (a : Int) a).2 rfl
    have e := (cmpI_lt (b : Int) d).2 (by omega)
    rw [if_pos e0, if_neg (by omega)]
    exact e
set_option maxHeartbeats 4000000 in
theorem listed_any (P : List Pt) (E : List (Nat × Nat)) (Ed : List Five) (ap : Option Addr) (np cp : Nat) (ae : Option Addr) (ne ce : Nat) (mf : Int) (w : World) (h : MapD w ap ae P E Ed np ne) (hl : Listed P E Ed np ne mf) : Calls Tryz.prog 86 #[mapV ap np cp ae ne ce mf] w (Gives (.bool true) w) := by
  have H := Lib.hid h
  have HL := Lib.hid hl
  obtain ⟨hnp, hne3, hne4, hm1, hm2, -, -, -, -, -, -⟩ := hl
  obtain ⟨w0, hw0⟩ : ∃ w0, w.alloc (.cells #[.slice ap np cp, .slice ae ne ce, .int .i64 mf] 29) = w0 := ⟨_, rfl⟩
  obtain ⟨mb, hmb⟩ : ∃ mb, w.heap.size = mb := ⟨_, rfl⟩
  have m0 : w0.cell? ⟨mb, 0, none⟩ = some (.slice ap np cp) := by rw [← hw0, ← hmb]; simp [go_sem]
  have m1 : w0.cell? ⟨mb, 1, none⟩ = some (.slice ae ne ce) := by rw [← hw0, ← hmb]; simp [go_sem]
  have m2 : w0.cell? ⟨mb, 2, none⟩ = some (.int .i64 mf) := by rw [← hw0, ← hmb]; simp [go_sem]
  have HK0 : Hid (Kept w w0) := Lib.hid (by rw [← hw0]; exact (Kept.refl w).alloc _)
  have hml := lt_of_cell m0
  have M0 := Lib.hid m0
  have M1 := Lib.hid m1
  have M2 := Lib.hid m2
  clear h
  go_enter Tryz.func86, Tryz.ntmps86
  go_wp2
  clear hw0
  go_loopw [37] (fun iv wr => ∃ k : Nat, k ≤ np ∧ iv = .int .i64 k ∧ Kept w0 wr) (fun iv _ => np - (intOf iv).toNat)
  case atStart => exact ⟨0, Nat.zero_le _, rfl, Kept.refl w0⟩
  case round =>
    clear m0 m1 m2 hml
    obtain ⟨k, hk, rfl, hkw⟩ := hrel
    have HKV := Lib.hid hkw
    have HKW := Lib.hid (HK0.out.trans hkw)
    have m0 := hkw.cell M0.out
    have hml := lt_of_cell m0
    clear hkw
    by_cases hlt : k < np
    · obtain ⟨B, off, rfl, c0, c1⟩ := (H.out.pts.kept HKW.out) k (by rw [H.out.hp]; exact hlt)
      have hx : P[k]'(by rw [H.out.hp]; exact hlt) = P.getD k (0, 0) := by rw [List.getD_eq_getElem?_getD, List.getElem?_eq_getElem (by rw [H.out.hp]; exact hlt)]; rfl
      rw [hx] at c0 c1
      have HOK := Lib.hid (HL.out.ok (P.getD k (0, 0)) (getD_mem _ (by rw [H.out.hp]; exact hlt)))
      have HST : Hid (∀ j, k = j + 1 → cmpP (P.getD j (0, 0)) (P.getD k (0, 0)) < 0) := Lib.hid (fun j e => by subst e; exact HL.out.strict j hlt)
      generalize P.getD k (0, 0) = x at c0 c1 HOK HST
      clear hx
      obtain ⟨y1, z1, k1, e1, e2, hg1, hb1, hf1, hk2, hb2, hz1⟩ := new_pt wr x
      have HK1 := Lib.hid (HKW.out.trans hk2)
      have HKV1 := Lib.hid (HKV.out.trans hk2)
      have HB2 := Lib.hid hb2
      have m0' := hk2.cell m0
      clear hk2
      obtain ⟨a0, a1⟩ := hb1
      go_wp2
      have m0 := m0'
      have hml := lt_of_cell m0
      clear c0 c1 e1 e2 a0 a1 hf1
      refine wp_region_quiet (C := fun Z => Kept z1 Z) (by kernel_rfl) (by kernel_rfl) (Kept.refl _).drew ?_
      simp only []
      refine wpQuiet_yield (ptV x) (by rfl) (fun Z hZ => ?_) ?_
      · obtain ⟨r0, r1⟩ := HB2.out.kept hZ
        have hl := lt_of_cell r0
        go_simp
      simp only [Act.put, List.setIfInBounds_toArray, List.set_cons_zero, List.set_cons_succ]
      refine wpQuiet_yield (.int .i64 0) (by rfl) (fun Z hZ => ?_) ?_
      · go_simp
        have := checkPoint_any x Z
        rcases ckP_cases x with ⟨-, hc⟩ | ⟨hp, -⟩
        · rw [hc] at this
          exact this.mono fun e Z' h => ⟨h.1, hZ.trans h.2⟩
        · rw [HOK.out] at hp
          cases hp
      simp only [Act.put, List.setIfInBounds_toArray, List.set_cons_zero, List.set_cons_succ]
      refine wpQuiet_yield (.bool false) (by rfl) (fun Z hZ => ?_) ?_
      · go_simp
      simp only [Act.put, List.setIfInBounds_toArray, List.set_cons_zero, List.set_cons_succ]
      refine wpQuiet_yield (.bool false) (by rfl) (fun Z hZ => ?_) ?_
      · go_simp
      simp only [Act.put, List.setIfInBounds_toArray, List.set_cons_zero, List.set_cons_succ]
      refine wpQuiet_yield (.int .i64 k) (by rfl) (fun Z hZ => ?_) ?_
      · go_simp
      simp only [Act.put, List.setIfInBounds_toArray, List.set_cons_zero, List.set_cons_succ]
      rcases Nat.eq_zero_or_pos k with hk0 | hk0
      · subst hk0
        refine wpQuiet_yield (.bool false) (by rfl) (fun Z hZ => ?_) ?_
        · go_simp
        simp only [Act.put, List.setIfInBounds_toArray, List.set_cons_zero, List.set_cons_succ]
        refine wpQuiet_yield (.bool false) (by rfl) (fun Z hZ => ?_) ?_
        · go_simp
        simp only [Act.put, List.setIfInBounds_toArray, List.set_cons_zero, List.set_cons_succ]
        with_reducible refine Go.BigFrame.wpQuiet_skip ?_ ?_
        · rfl
        simp only [Act.put, List.setIfInBounds_toArray, List.set_cons_zero, List.set_cons_succ]
        with_reducible refine Go.BigFrame.wpQuiet_skip ?_ ?_
        · rfl
        simp only [Act.put, List.setIfInBounds_toArray, List.set_cons_zero, List.set_cons_succ]
        with_reducible refine Go.BigFrame.wpQuiet_skip ?_ ?_
        · rfl
        simp only [Act.put, List.setIfInBounds_toArray, List.set_cons_zero, List.set_cons_succ]
        with_reducible refine Go.BigFrame.wpQuiet_skip ?_ ?_
        · rfl
        simp only [Act.put, List.setIfInBounds_toArray, List.set_cons_zero, List.set_cons_succ]
        with_reducible refine Go.BigFrame.wpQuiet_skip ?_ ?_
        · rfl
        simp only [Act.put, List.setIfInBounds_toArray, List.set_cons_zero, List.set_cons_succ]
        with_reducible refine Go.BigFrame.wpQuiet_skip ?_ ?_
        · rfl
        simp only [Act.put, List.setIfInBounds_toArray, List.set_cons_zero, List.set_cons_succ]
        with_reducible refine Go.BigFrame.wpQuiet_skip ?_ ?_
        · rfl
        simp only [Act.put, List.setIfInBounds_toArray, List.set_cons_zero, List.set_cons_succ]
        with_reducible refine Go.BigFrame.wpQuiet_skip ?_ ?_
        · rfl
        simp only [Act.put, List.setIfInBounds_toArray, List.set_cons_zero, List.set_cons_succ]
        with_reducible refine Go.BigFrame.wpQuiet_skip ?_ ?_
        · rfl
        simp only [Act.put, List.setIfInBounds_toArray, List.set_cons_zero, List.set_cons_succ]
        refine wpQuiet_yield (.bool false) (by rfl) (fun Z hZ => ?_) ?_
        · go_simp
        simp only [Act.put, List.setIfInBounds_toArray, List.set_cons_zero, List.set_cons_succ]
        refine wpQuiet_yield (.bool false) (by rfl) (fun Z hZ => ?_) ?_
        · go_simp
        simp only [Act.put, List.setIfInBounds_toArray, List.set_cons_zero, List.set_cons_succ]
        refine wpQuiet_nil ?_
        intro X2 hk2
        have HX2 := Lib.hid (HKV1.out.trans hk2)
        clear hk2 m0 hml
        go_wp2
        go_roundw
        case rel => exact ⟨1, by omega, by go_num, HX2.out⟩
        case measure => simp [intOf]; omega
      · obtain ⟨j, rfl⟩ : ∃ j, k = j + 1 := ⟨k - 1, by omega⟩
        have t1 : decide ((0 : Int) < ((j + 1 : Nat) : Int)) = true := by simp
        obtain ⟨B2, off2, eB, d0, d1⟩ := (H.out.pts.kept HK1.out) j (by rw [H.out.hp]; omega)
        cases eB
        have hx2 : P[j]'(by rw [H.out.hp]; omega) = P.getD j (0, 0) := by rw [List.getD_eq_getElem?_getD, List.getElem?_eq_getElem (by rw [H.out.hp]; omega)]; rfl
        rw [hx2] at d0 d1
        have HST1 := Lib.hid (HST.out j rfl)
        generalize P.getD j (0, 0) = y at d0 d1 HST1
        clear hx2
        have HD0 := Lib.hid d0
        have HD1 := Lib.hid d1
        have HM0 := Lib.hid m0
        clear d0 d1 m0 hml
        have w1 : IntKind.i64.wrap (j : Int) = (j : Int) := IntWalk.i64_in _ (by omega)
        have jlt : j < np := by omega
        refine wpQuiet_yield (.bool true) (by rfl) (fun Z hZ => ?_) ?_
        · go_simp
        simp only [Act.put, List.setIfInBounds_toArray, List.set_cons_zero, List.set_cons_succ]
        refine wpQuiet_yield (.bool true) (by rfl) (fun Z hZ => ?_) ?_
        · go_simp
        simp only [Act.put, List.setIfInBounds_toArray, List.set_cons_zero, List.set_cons_succ]
        refine wpQuiet_yield (.pointer (some ⟨mb, 0, none⟩)) (by rfl) (fun Z hZ => ?_) ?_
        · go_simp
        simp only [Act.put, List.setIfInBounds_toArray, List.set_cons_zero, List.set_cons_succ]
        refine wpQuiet_yield (.slice (some ⟨B, off, none⟩) np cp) (by rfl) (fun Z hZ => ?_) ?_
        · have c0 := hZ.cell HM0.out
          have hl := lt_of_cell c0
          go_simp
        simp only [Act.put, List.setIfInBounds_toArray, List.set_cons_zero, List.set_cons_succ]
        refine wpQuiet_yield (.int .i64 ((j + 1 : Nat) : Int)) (by rfl) (fun Z hZ => ?_) ?_
        · go_simp
        simp only [Act.put, List.setIfInBounds_toArray, List.set_cons_zero, List.set_cons_succ]
        refine wpQuiet_yield (.int .i64 j) (by rfl) (fun Z hZ => ?_) ?_
        · go_simp
        simp only [Act.put, List.setIfInBounds_toArray, List.set_cons_zero, List.set_cons_succ]
        refine wpQuiet_yield (.pointer (some ⟨B, off + j * 2, none⟩)) (by rfl) (fun Z hZ => ?_) ?_
        · go_simp
        simp only [Act.put, List.setIfInBounds_toArray, List.set_cons_zero, List.set_cons_succ]
        refine wpQuiet_yield (ptV y) (by rfl) (fun Z hZ => ?_) ?_
        · have c0 := hZ.cell HD0.out
          have c1 := hZ.cell HD1.out
          have hl := lt_of_cell c0
          go_simp
        simp only [Act.put, List.setIfInBounds_toArray, List.set_cons_zero, List.set_cons_succ]
        refine wpQuiet_yield (ptV x) (by rfl) (fun Z hZ => ?_) ?_
        · obtain ⟨r0, r1⟩ := HB2.out.kept hZ
          have hl := lt_of_cell r0
          go_simp
        simp only [Act.put, List.setIfInBounds_toArray, List.set_cons_zero, List.set_cons_succ]
        refine wpQuiet_yield (.int .i64 (cmpP y x)) (by rfl) (fun Z hZ => ?_) ?_
        · go_simp
          exact (comparePoints_any y x Z).mono fun e Z' h => ⟨h.1, hZ.trans h.2⟩
        simp only [Act.put, List.setIfInBounds_toArray, List.set_cons_zero, List.set_cons_succ]
        have t2 : decide (0 ≤ cmpP y x) = false := by have := HST1.out; simp; omega
        refine wpQuiet_yield (.bool false) (by rfl) (fun Z hZ => ?_) ?_
        · go_simp
        simp only [Act.put, List.setIfInBounds_toArray, List.set_cons_zero, List.set_cons_succ]
        refine wpQuiet_yield (.bool false) (by rfl) (fun Z hZ => ?_) ?_
        · go_simp
        simp only [Act.put, List.setIfInBounds_toArray, List.set_cons_zero, List.set_cons_succ]
        refine wpQuiet_yield (.bool false) (by rfl) (fun Z hZ => ?_) ?_
        · go_simp
        simp only [Act.put, List.setIfInBounds_toArray, List.set_cons_zero, List.set_cons_succ]
        refine wpQuiet_nil ?_
        intro X2 hk2
        have HX2 := Lib.hid (HKV1.out.trans hk2)
        clear hk2
        go_wp2
        go_roundw
        case rel => exact ⟨j + 1 + 1, by omega, by go_num, HX2.out⟩
        case measure => simp [intOf]; omega
    · obtain rfl : k = np := by omega
      have m1 := HKV.out.cell M1.out
      have m2 := HKV.out.cell M2.out
      have HKVX := Lib.hid m0
      clear HKV
      have HN1 : Hid (k < 1099511627776) := Lib.hid (by omega)
      have HW := HKW
      go_wp2_with (first | (at_make; refine make_val wr rfl _ _ 114 4 _ 1 rfl Tryz.underlying114 info4 rfl (by decide) k rfl rfl HN1.out ?_; intro w1 ho1 hk1 hs1; have HO1 := Lib.hid ho1; have HK1 := Lib.hid hk1; have HS1 := Lib.hid hs1; have m0 := hk1.cell m0; have m1 := hk1.cell m1; have m2 := hk1.cell m2; have hml := lt_of_cell m0; clear ho1 hk1 hs1) | fail)
      obtain ⟨ub, hub⟩ : ∃ ub, wr.heap.size = ub := ⟨_, rfl⟩
      rw [hub]
      have HUB := Lib.hid hub
      have HO1' : Hid (OwnV w1 ub 4 (.slice (some ⟨ub, 0, none⟩) k k) (boolL (usedL E k 0))) := Lib.hid (by rw [← hub]; unfold usedL boolL; rw [List.map_replicate]; exact HO1.out)
      have HWW : Hid (Kept w w1) := Lib.hid (HKW.out.trans HK1.out)
      have HMM : Hid (w1.cell? ⟨mb, 0, none⟩ = some (.slice ap k cp) ∧ w1.cell? ⟨mb, 1, none⟩ = some (.slice ae ne ce)) := Lib.hid ⟨m0, m1⟩
      have HWR : Hid (w.heap.size ≤ ub) := Lib.hid (by rw [← hub]; exact HKW.out.size)
      have HML : Hid (mb < ub) := Lib.hid (by rw [← hub]; exact lt_of_cell HKVX.out)
      clear hub
      go_wp2
      clear HKW HK1 HO1 HS1 HW m0 m1 m2 hml
      go_loopw [68] (fun iv wx => ∃ i : Nat, i ≤ ne ∧ iv = .int .i64 i ∧ OwnV wx ub 4 (.slice (some ⟨ub, 0, none⟩) k k) (boolL (usedL E k i)) ∧ Kept w wx ∧ wx.cell? ⟨mb, 0, none⟩ = some (.slice ap k cp) ∧ wx.cell? ⟨mb, 1, none⟩ = some (.slice ae ne ce)) (fun iv _ => ne - (intOf iv).toNat)
      case atStart => exact ⟨0, Nat.zero_le _, rfl, HO1'.out, HWW.out, HMM.out⟩
      case round =>
        clear HO1' HWW HMM
        obtain ⟨i, hi, rfl, hov, hkw, m0, m1⟩ := hrel
        have HOV := Lib.hid hov
        have HKW := Lib.hid hkw
        have hml := lt_of_cell m0
        clear hov hkw
        by_cases hlt : i < ne
        · have hil : i < Ed.length := by rw [H.out.he]; exact hlt
          obtain ⟨B, off, rfl, c0, c1, c2, c3, c4⟩ := (H.out.eds.kept HKW.out) i hil
          have ha := H.out.are.a i hil
          have hb := H.out.are.b i hil
          have hup := HL.out.up i hlt
          have hln := HL.out.line i hlt
          have hx : Ed.getD i (0, 0, 0, 0, 0) = Ed[i] := by rw [List.getD_eq_getElem?_getD, List.getElem?_eq_getElem hil]; rfl
          rw [hx] at hln
          have HNEXT : Hid (usedL E k (i + 1) = ((usedL E k i).set (E.getD i (0, 0)).1 true).set (E.getD i (0, 0)).2 true) := Lib.hid rfl
          have HRI : Hid (∀ j, i = j + 1 → ltN (E.getD j (0, 0)) (E.getD i (0, 0)) = true) := Lib.hid (fun j e => by subst e; exact HL.out.rise j hlt)
          generalize hEi : E.getD i (0, 0) = ei at *
          obtain ⟨a, b⟩ := ei
          have HEI := Lib.hid hEi
          clear hEi
          generalize Ed[i] = x at c0 c1 c2 c3 c4 ha hb hln
          obtain ⟨x1, x2, x3, x4, x5⟩ := x
          simp only [] at c0 c1 c2 c3 c4 ha hb hln hup
          subst ha hb
          obtain ⟨hab, hbk⟩ := hup
          obtain ⟨hl1, hl2⟩ := hln
          clear hx
          have hubl : ub < wr.heap.size := (HOV.out.lt _ rfl).2
          obtain ⟨y1, z1, k1, e1, e2, hg1, hb1, hf1, hk2, hb2, hz1⟩ := new_five 87 wr ((a : Int), (b : Int), x3, x4, x5)
          have HK2 := Lib.hid (HKW.out.trans hk2)
          have HO2 := Lib.hid (OwnG.kept HOV.out hk2)
          have HB2 := Lib.hid hb2
          have m0' := hk2.cell m0
          have m1' := hk2.cell m1
          clear hk2
          obtain ⟨a0, a1, a2, a3, a4⟩ := hb1
          obtain ⟨r0, r1, r2, r3, r4⟩ := hb2
          simp only [] at r0 r1 r2 r3 r4 e2
          go_wp2
          clear r0 r1 r2 r3 r4 c0 c1 c2 c3 c4 e1 e2 a0 a1 a2 a3 a4 hf1 m0 m1
          have HM0 := Lib.hid m0'
          have HM1 := Lib.hid m1'
          clear m0' m1' hml
          have key : ∀ (Q : Exit → Act → World → Prop) (K : Act → Prop), True := fun _ _ => trivial
          clear key
          rcases Nat.eq_zero_or_pos i with hi0 | hi0
          · subst hi0
            refine wp_region_quiet (C := fun Z => Kept z1 Z) (by kernel_rfl) (by kernel_rfl) (Kept.refl _).drew ?_
            simp only []
            refine wpQuiet_yield (.int .i64 ((0 : Nat) : Int)) (by rfl) (fun Z hZ => ?_) ?_
            · go_simp
            simp only [Act.put, List.setIfInBounds_toArray, List.set_cons_zero, List.set_cons_succ]
            refine wpQuiet_yield (.bool false) (by rfl) (fun Z hZ => ?_) ?_
            · go_simp
            simp only [Act.put, List.setIfInBounds_toArray, List.set_cons_zero, List.set_cons_succ]
            refine wpQuiet_yield (.bool false) (by rfl) (fun Z hZ => ?_) ?_
            · go_simp
            simp only [Act.put, List.setIfInBounds_toArray, List.set_cons_zero, List.set_cons_succ]
            with_reducible refine Go.BigFrame.wpQuiet_skip ?_ ?_
            · rfl
            simp only [Act.put, List.setIfInBounds_toArray, List.set_cons_zero, List.set_cons_succ]
            with_reducible refine Go.BigFrame.wpQuiet_skip ?_ ?_
            · rfl
            simp only [Act.put, List.setIfInBounds_toArray, List.set_cons_zero, List.set_cons_succ]
            with_reducible refine Go.BigFrame.wpQuiet_skip ?_ ?_
            · rfl
            simp only [Act.put, List.setIfInBounds_toArray, List.set_cons_zero, List.set_cons_succ]
            with_reducible refine Go.BigFrame.wpQuiet_skip ?_ ?_
            · rfl
            simp only [Act.put, List.setIfInBounds_toArray, List.set_cons_zero, List.set_cons_succ]
            with_reducible refine Go.BigFrame.wpQuiet_skip ?_ ?_
            · rfl
            simp only [Act.put, List.setIfInBounds_toArray, List.set_cons_zero, List.set_cons_succ]
            with_reducible refine Go.BigFrame.wpQuiet_skip ?_ ?_
            · rfl
            simp only [Act.put, List.setIfInBounds_toArray, List.set_cons_zero, List.set_cons_succ]
            with_reducible refine Go.BigFrame.wpQuiet_skip ?_ ?_
            · rfl
            simp only [Act.put, List.setIfInBounds_toArray, List.set_cons_zero, List.set_cons_succ]
            with_reducible refine Go.BigFrame.wpQuiet_skip ?_ ?_
            · rfl
            simp only [Act.put, List.setIfInBounds_toArray, List.set_cons_zero, List.set_cons_succ]
            with_reducible refine Go.BigFrame.wpQuiet_skip ?_ ?_
            · rfl
            simp only [Act.put, List.setIfInBounds_toArray, List.set_cons_zero, List.set_cons_succ]
            with_reducible refine Go.BigFrame.wpQuiet_skip ?_ ?_
            · rfl
            simp only [Act.put, List.setIfInBounds_toArray, List.set_cons_zero, List.set_cons_succ]
            with_reducible refine Go.BigFrame.wpQuiet_skip ?_ ?_
            · rfl
            simp only [Act.put, List.setIfInBounds_toArray, List.set_cons_zero, List.set_cons_succ]
            with_reducible refine Go.BigFrame.wpQuiet_skip ?_ ?_
            · rfl
            simp only [Act.put, List.setIfInBounds_toArray, List.set_cons_zero, List.set_cons_succ]
            with_reducible refine Go.BigFrame.wpQuiet_skip ?_ ?_
            · rfl
            simp only [Act.put, List.setIfInBounds_toArray, List.set_cons_zero, List.set_cons_succ]
            with_reducible refine Go.BigFrame.wpQuiet_skip ?_ ?_
            · rfl
            simp only [Act.put, List.setIfInBounds_toArray, List.set_cons_zero, List.set_cons_succ]
            with_reducible refine Go.BigFrame.wpQuiet_skip ?_ ?_
            · rfl
            simp only [Act.put, List.setIfInBounds_toArray, List.set_cons_zero, List.set_cons_succ]
            with_reducible refine Go.BigFrame.wpQuiet_skip ?_ ?_
            · rfl
            simp only [Act.put, List.setIfInBounds_toArray, List.set_cons_zero, List.set_cons_succ]
            with_reducible refine Go.BigFrame.wpQuiet_skip ?_ ?_
            · rfl
            simp only [Act.put, List.setIfInBounds_toArray, List.set_cons_zero, List.set_cons_succ]
            with_reducible refine Go.BigFrame.wpQuiet_skip ?_ ?_
            · rfl
            simp only [Act.put, List.setIfInBounds_toArray, List.set_cons_zero, List.set_cons_succ]
            with_reducible refine Go.BigFrame.wpQuiet_skip ?_ ?_
            · rfl
            simp only [Act.put, List.setIfInBounds_toArray, List.set_cons_zero, List.set_cons_succ]
            with_reducible refine Go.BigFrame.wpQuiet_skip ?_ ?_
            · rfl
            simp only [Act.put, List.setIfInBounds_toArray, List.set_cons_zero, List.set_cons_succ]
            with_reducible refine Go.BigFrame.wpQuiet_skip ?_ ?_
            · rfl
            simp only [Act.put, List.setIfInBounds_toArray, List.set_cons_zero, List.set_cons_succ]
            with_reducible refine Go.BigFrame.wpQuiet_skip ?_ ?_
            · rfl
            simp only [Act.put, List.setIfInBounds_toArray, List.set_cons_zero, List.set_cons_succ]
            with_reducible refine Go.BigFrame.wpQuiet_skip ?_ ?_
            · rfl
            simp only [Act.put, List.setIfInBounds_toArray, List.set_cons_zero, List.set_cons_succ]
            refine wpQuiet_yield (.bool false) (by rfl) (fun Z hZ => ?_) ?_
            · go_simp
            simp only [Act.put, List.setIfInBounds_toArray, List.set_cons_zero, List.set_cons_succ]
            refine wpQuiet_nil ?_
            intro X2 hk2
            have HX2 := Lib.hid hk2
            clear hk2
            go_wp2
            have HV := Lib.hid (HX2.out)
            have HO3 := Lib.hid (OwnG.kept HO2.out HV.out)
            have HKV3 := Lib.hid (HK2.out.trans HV.out)
            have c0 := (HB2.out.kept HV.out).c0
            have c1 := (HB2.out.kept HV.out).c1
            simp only [] at c0 c1
            have hal : a < (usedL E k 0).length := by rw [usedL_len]; omega
            have hbl : b < (usedL E k 0).length := by rw [usedL_len]; exact hbk
            have f0 := atV HO3.out (show a < (boolL (usedL E k 0)).length by rw [boolL_len]; exact hal)
            have f1 := atV HO3.out (show b < (boolL (usedL E k 0)).length by rw [boolL_len]; exact hbl)
            rw [boolL_get _ hal] at f0
            rw [boolL_get _ hbl] at f1
            have q0 := OwnG.warm (cs := fun x : Value => [x]) HO3.out a
            have q1 := OwnG.warm (cs := fun x : Value => [x]) HO3.out b
            have hl0 := lt_of_cell c0
            have hl1 := lt_of_cell f0
            have hm := HML.out
            have HM0 := Lib.hid (HV.out.cell HM0.out)
            have HM1 := Lib.hid (HV.out.cell HM1.out)
            have hak : a < k := by omega
            have n1 : ¬ a = b := by omega
            have n2 : ¬ b = a := by omega
            have n3 : ¬ ub = k1 := by omega
            have n4 : ¬ k1 = ub := by omega
            generalize (usedL E k 0)[a] = fa at f0
            generalize (usedL E k 0)[b] = fb at f1
            clear hal hbl
            go_region
            all_goals
              go_wp2
              go_roundw
              case rel => exact ⟨0 + 1, by omega, by go_num, by rw [HNEXT.out, boolL_set, boolL_set]; exact OwnG.kept (OwnG.setV (OwnG.setV HO3.out a (.bool true)) b (.bool true)) (Kept.refl _).drew, ((HKV3.out.setCell (p := ⟨ub, a, none⟩) HWR.out _).setCell (p := ⟨ub, b, none⟩) HWR.out _).drew, (Kept.refl _).drew.cell (cell_set_block (cell_set_block HM0.out (by omega)) (by omega)), (Kept.refl _).drew.cell (cell_set_block (cell_set_block HM1.out (by omega)) (by omega))⟩
              case measure => simp [intOf]; omega
          · obtain ⟨j, rfl⟩ : ∃ j, i = j + 1 := ⟨i - 1, by omega⟩
            have t1 : decide ((0 : Int) < ((j + 1 : Nat) : Int)) = true := by simp
            have hjl : j < Ed.length := by rw [H.out.he]; omega
            obtain ⟨B2, off2, eB, d0, d1, -, -, -⟩ := (H.out.eds.kept HK2.out) j hjl
            cases eB
            rw [H.out.are.a j hjl] at d0
            rw [H.out.are.b j hjl] at d1
            have HRJ := Lib.hid (HRI.out j rfl)
            generalize E.getD j (0, 0) = ej at d0 d1 HRJ
            obtain ⟨aj, bj⟩ := ej
            simp only [] at d0 d1
            have HOR : Hid (orI [cmpI aj a, cmpI bj b] < 0) := Lib.hid (or_lt HRJ.out)
            have HD0 := Lib.hid d0
            have HD1 := Lib.hid d1
            clear d0 d1
            have w1 : IntKind.i64.wrap (j : Int) = (j : Int) := IntWalk.i64_in _ (by omega)
            have jlt : j < ne := by omega
            refine region_class (fun Z => Kept z1 Z) 23 (by kernel_rfl) (by kernel_rfl) (Kept.refl _).drew ?_
            simp only [List.take_succ_cons, List.take_zero, List.drop_succ_cons, List.drop_zero]
            refine wpQuiet_yield (.int .i64 ((j + 1 : Nat) : Int)) (by rfl) (fun Z hZ => ?_) ?_
            · go_simp
            simp only [Act.put, List.setIfInBounds_toArray, List.set_cons_zero, List.set_cons_succ]
            refine wpQuiet_yield (.bool true) (by rfl) (fun Z hZ => ?_) ?_
            · go_simp
            simp only [Act.put, List.setIfInBounds_toArray, List.set_cons_zero, List.set_cons_succ]
            refine wpQuiet_yield (.bool true) (by rfl) (fun Z hZ => ?_) ?_
            · go_simp
            simp only [Act.put, List.setIfInBounds_toArray, List.set_cons_zero, List.set_cons_succ]
            refine wpQuiet_yield (.pointer (some ⟨mb, 1, none⟩)) (by rfl) (fun Z hZ => ?_) ?_
            · go_simp
            simp only [Act.put, List.setIfInBounds_toArray, List.set_cons_zero, List.set_cons_succ]
            refine wpQuiet_yield (.slice (some ⟨B, off, none⟩) ne ce) (by rfl) (fun Z hZ => ?_) ?_
            · have c0 := hZ.cell HM1.out
              have hl := lt_of_cell c0
              go_simp
            simp only [Act.put, List.setIfInBounds_toArray, List.set_cons_zero, List.set_cons_succ]
            refine wpQuiet_yield (.int .i64 ((j + 1 : Nat) : Int)) (by rfl) (fun Z hZ => ?_) ?_
            · go_simp
            simp only [Act.put, List.setIfInBounds_toArray, List.set_cons_zero, List.set_cons_succ]
            refine wpQuiet_yield (.int .i64 j) (by rfl) (fun Z hZ => ?_) ?_
            · go_simp
            simp only [Act.put, List.setIfInBounds_toArray, List.set_cons_zero, List.set_cons_succ]
            refine wpQuiet_yield (.pointer (some ⟨B, off + j * 5, none⟩)) (by rfl) (fun Z hZ => ?_) ?_
            · go_simp
            simp only [Act.put, List.setIfInBounds_toArray, List.set_cons_zero, List.set_cons_succ]
            refine wpQuiet_yield (.pointer (some ⟨B, off + j * 5, none⟩)) (by rfl) (fun Z hZ => ?_) ?_
            · go_simp
            simp only [Act.put, List.setIfInBounds_toArray, List.set_cons_zero, List.set_cons_succ]
            refine wpQuiet_yield (.int .i64 aj) (by rfl) (fun Z hZ => ?_) ?_
            · have c0 := hZ.cell HD0.out
              have hl := lt_of_cell c0
              go_simp
            simp only [Act.put, List.setIfInBounds_toArray, List.set_cons_zero, List.set_cons_succ]
            refine wpQuiet_yield (.pointer (some ⟨k1, 0, none⟩)) (by rfl) (fun Z hZ => ?_) ?_
            · go_simp
            simp only [Act.put, List.setIfInBounds_toArray, List.set_cons_zero, List.set_cons_succ]
            refine wpQuiet_yield (.int .i64 a) (by rfl) (fun Z hZ => ?_) ?_
            · have c0 := (HB2.out.kept hZ).c0
              have hl := lt_of_cell c0
              go_simp
            simp only [Act.put, List.setIfInBounds_toArray, List.set_cons_zero, List.set_cons_succ]
            refine wpQuiet_yield (.int .i64 (cmpI aj a)) (by rfl) (fun Z hZ => ?_) ?_
            · go_simp
              exact (compare_any aj a Z).mono fun e Z' h => ⟨h.1, h.2 ▸ hZ⟩
            simp only [Act.put, List.setIfInBounds_toArray, List.set_cons_zero, List.set_cons_succ]
            refine wpQuiet_yield (.pointer (some ⟨mb, 1, none⟩)) (by rfl) (fun Z hZ => ?_) ?_
            · go_simp
            simp only [Act.put, List.setIfInBounds_toArray, List.set_cons_zero, List.set_cons_succ]
            refine wpQuiet_yield (.slice (some ⟨B, off, none⟩) ne ce) (by rfl) (fun Z hZ => ?_) ?_
            · have c0 := hZ.cell HM1.out
              have hl := lt_of_cell c0
              go_simp
            simp only [Act.put, List.setIfInBounds_toArray, List.set_cons_zero, List.set_cons_succ]
            refine wpQuiet_yield (.int .i64 ((j + 1 : Nat) : Int)) (by rfl) (fun Z hZ => ?_) ?_
            · go_simp
            simp only [Act.put, List.setIfInBounds_toArray, List.set_cons_zero, List.set_cons_succ]
            refine wpQuiet_yield (.int .i64 j) (by rfl) (fun Z hZ => ?_) ?_
            · go_simp
            simp only [Act.put, List.setIfInBounds_toArray, List.set_cons_zero, List.set_cons_succ]
            refine wpQuiet_yield (.pointer (some ⟨B, off + j * 5, none⟩)) (by rfl) (fun Z hZ => ?_) ?_
            · go_simp
            simp only [Act.put, List.setIfInBounds_toArray, List.set_cons_zero, List.set_cons_succ]
            refine wpQuiet_yield (.pointer (some ⟨B, off + j * 5 + 1, none⟩)) (by rfl) (fun Z hZ => ?_) ?_
            · go_simp
            simp only [Act.put, List.setIfInBounds_toArray, List.set_cons_zero, List.set_cons_succ]
            refine wpQuiet_yield (.int .i64 bj) (by rfl) (fun Z hZ => ?_) ?_
            · have c0 := hZ.cell HD1.out
              have hl := lt_of_cell c0
              go_simp
            simp only [Act.put, List.setIfInBounds_toArray, List.set_cons_zero, List.set_cons_succ]
            refine wpQuiet_yield (.pointer (some ⟨k1, 1, none⟩)) (by rfl) (fun Z hZ => ?_) ?_
            · go_simp
            simp only [Act.put, List.setIfInBounds_toArray, List.set_cons_zero, List.set_cons_succ]
            refine wpQuiet_yield (.int .i64 b) (by rfl) (fun Z hZ => ?_) ?_
            · have c0 := (HB2.out.kept hZ).c1
              have hl := lt_of_cell c0
              go_simp
            simp only [Act.put, List.setIfInBounds_toArray, List.set_cons_zero, List.set_cons_succ]
            refine wpQuiet_yield (.int .i64 (cmpI bj b)) (by rfl) (fun Z hZ => ?_) ?_
            · go_simp
              exact (compare_any bj b Z).mono fun e Z' h => ⟨h.1, h.2 ▸ hZ⟩
            simp only [Act.put, List.setIfInBounds_toArray, List.set_cons_zero, List.set_cons_succ]
            refine wpQuiet_nil ?_
            intro X2 hk2
            have HX2 := Lib.hid hk2
            clear hk2
            have HIT := Lib.hid (ints_two X2 (cmpI aj a) (cmpI bj b))
            obtain ⟨X3, hX3⟩ : ∃ X3, X2.alloc (.cells #[.int .i64 (cmpI aj a), .int .i64 (cmpI bj b)] 3) = X3 := ⟨_, rfl⟩
            have HX3 : Hid (Kept z1 X3) := Lib.hid (by rw [← hX3]; exact HX2.out.alloc _)
            obtain ⟨xb, hxb⟩ : ∃ xb, X2.heap.size = xb := ⟨_, rfl⟩
            have HIT := Lib.hid (show Ints X3 (some ⟨xb, 0, none⟩) [cmpI aj a, cmpI bj b] by rw [← hX3, ← hxb]; exact HIT.out)
            go_wp2_with fail
            refine (or_any [cmpI aj a, cmpI bj b] _ 2 _ (by simp) HIT.out).mono ?_
            rintro e w5 ⟨rfl, rfl⟩
            have t2 : decide (0 ≤ orI [cmpI aj a, cmpI bj b]) = false := by have := HOR.out; simp only [decide_eq_false_iff_not]; omega
            go_wp2
            have HV := Lib.hid (HX3.out)
            have HO3 := Lib.hid (OwnG.kept HO2.out HV.out)
            have HKV3 := Lib.hid (HK2.out.trans HV.out)
            have c0 := (HB2.out.kept HV.out).c0
            have c1 := (HB2.out.kept HV.out).c1
            simp only [] at c0 c1
            have hal : a < (usedL E k (j + 1)).length := by rw [usedL_len]; omega
            have hbl : b < (usedL E k (j + 1)).length := by rw [usedL_len]; exact hbk
            have f0 := atV HO3.out (show a < (boolL (usedL E k (j + 1))).length by rw [boolL_len]; exact hal)
            have f1 := atV HO3.out (show b < (boolL (usedL E k (j + 1))).length by rw [boolL_len]; exact hbl)
            rw [boolL_get _ hal] at f0
            rw [boolL_get _ hbl] at f1
            have q0 := OwnG.warm (cs := fun x : Value => [x]) HO3.out a
            have q1 := OwnG.warm (cs := fun x : Value => [x]) HO3.out b
            have hl0 := lt_of_cell c0
            have hl1 := lt_of_cell f0
            have hm := HML.out
            have HM0 := Lib.hid (HV.out.cell HM0.out)
            have HM1 := Lib.hid (HV.out.cell HM1.out)
            have hak : a < k := by omega
            have n1 : ¬ a = b := by omega
            have n2 : ¬ b = a := by omega
            have n3 : ¬ ub = k1 := by omega
            have n4 : ¬ k1 = ub := by omega
            generalize (usedL E k (j + 1))[a] = fa at f0
            generalize (usedL E k (j + 1))[b] = fb at f1
            clear hal hbl
            go_region
            all_goals
              go_wp2
              go_roundw
              case rel => exact ⟨(j + 1) + 1, by omega, by go_num, by rw [HNEXT.out, boolL_set, boolL_set]; exact OwnG.kept (OwnG.setV (OwnG.setV HO3.out a (.bool true)) b (.bool true)) (Kept.refl _).drew, ((HKV3.out.setCell (p := ⟨ub, a, none⟩) HWR.out _).setCell (p := ⟨ub, b, none⟩) HWR.out _).drew, (Kept.refl _).drew.cell (cell_set_block (cell_set_block HM0.out (by omega)) (by omega)), (Kept.refl _).drew.cell (cell_set_block (cell_set_block HM1.out (by omega)) (by omega))⟩
              case measure => simp [intOf]; omega
        · obtain rfl : i = ne := by omega
          have HU := Lib.hid (usedL_all HL.out.used)
          obtain ⟨ao, cc, hv, hbs⟩ := HOV.out.bools
          simp only [Value.slice.injEq] at hv
          obtain ⟨rfl, hlen, -⟩ := hv
          have hC := containsB_any (usedL E k i) (some ⟨ub, 0, none⟩) k false wr (by omega) hbs
          rw [← hlen] at hC
          have HC := Lib.hid hC
          clear hC hbs hlen
          go_wp2_with fail
          refine HC.out.mono ?_
          rintro e w6 ⟨rfl, rfl⟩
          have hf : decide (false ∈ usedL E k i) = false := by simpa using HU.out
          rw [hf]
          go_wp2
          go_ret
          exact ⟨rfl, HKW.out⟩
end Go.Proofs.YtlglfcdobbocnaaGreat
