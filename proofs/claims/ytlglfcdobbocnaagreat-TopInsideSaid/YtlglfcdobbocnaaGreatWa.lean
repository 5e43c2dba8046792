/- Points and segments: the small functions of plane. -/
import Derived.Test.YtlglfcdobbocnaaGreatBa
import Derived.Test.YtlglfcdobbocnaaGreatPb
set_option maxRecDepth 100000
namespace Go.Proofs.YtlglfcdobbocnaaGreat
open Go Go.Proofs Go.RowKit
attribute [local go_sem] Oper.semAt_some
/-- A point, a segment as values. -/
abbrev ptV (p : Pt) : Value := .agg #[.int .i64 p.1, .int .i64 p.2]
abbrev sgV (s : Sg) : Value := .agg #[.int .i64 s.1.1, .int .i64 s.1.2, .int .i64 s.2.1, .int .i64 s.2.2]
set_option maxHeartbeats 400000 in
theorem isNaN_any (x : Int) (w : World) : Calls Tryz.prog 81 #[.int .i64 x] w (Tells (.bool false) w) := by
  have e : (x != x) = false := by simp
  go_enter Tryz.func81, Tryz.ntmps81
  go_wp2
  go_ret
  exact ⟨rfl, rfl⟩
set_option maxHeartbeats 400000 in
theorem compare_any (x y : Int) (w : World) : Calls Tryz.prog 57 #[.int .i64 x, .int .i64 y] w (Tells (.int .i64 (cmpI x y)) w) := by
  obtain ⟨r, hr⟩ : ∃ r, cmpI x y = r := ⟨_, rfl⟩
  rw [hr]
  have HC := cmpI_cases x y
  rw [hr] at HC
  clear hr
  go_enter Tryz.func57, Tryz.ntmps57
  go_wp2_with fail
  refine (isNaN_any x w).mono ?_
  rintro e w1 ⟨rfl, rfl⟩
  go_wp2_with fail
  refine (isNaN_any y w).mono ?_
  rintro e w1 ⟨rfl, rfl⟩
  rcases HC with ⟨h, rfl⟩ | ⟨h, rfl⟩ | ⟨h, rfl⟩
  · have e1 : decide (x < y) = true := decide_eq_true h
    clear h
    go_wp2
    go_ret
    exact ⟨rfl, rfl⟩
  · have e1 : decide (x < y) = false := decide_eq_false (by omega)
    have e2 : decide (x > y) = false := decide_eq_false (by omega)
    clear h
    go_wp2
    go_ret
    exact ⟨rfl, rfl⟩
  · have e1 : decide (x < y) = false := decide_eq_false (by omega)
    have e2 : decide (x > y) = true := decide_eq_true h
    clear h
    go_wp2
    go_ret
    exact ⟨rfl, rfl⟩
theorem orI_drop (l : List Int) (k : Nat) (hk : k < l.length) (h0 : l[k] = 0) : orI (l.drop k) = orI (l.drop (k + 1)) := by
  rw [List.drop_eq_getElem_cons hk]; simp [orI, h0]
theorem orI_drop' (l : List Int) (k : Nat) (hk : k < l.length) (h0 : l[k] ≠ 0) : orI (l.drop k) = l[k] := by
  rw [List.drop_eq_getElem_cons hk]; simp [orI, h0]
set_option maxHeartbeats 400000 in
theorem or_any (l : List Int) (ao : Option Addr) (c : Nat) (w : World) (hl : l.length < 1152921504606846976) (hp : Ints w ao l) :
    Calls Tryz.prog 56 #[.slice ao l.length c] w (Tells (.int .i64 (orI l)) w) := by
  go_enter Tryz.func56, Tryz.ntmps56
  go_wp2
  go_loop [8] (fun i => ∃ k : Nat, k ≤ l.length ∧ i = .int .i64 k ∧ orI l = orI (l.drop k)) (fun i => l.length - (intOf i).toNat)
  case atStart => exact ⟨0, Nat.zero_le _, rfl, by simp⟩
  case round =>
    obtain ⟨k, hk, rfl, hn⟩ := hrel
    have HN := Lib.hid hn
    clear hn
    by_cases hlt : k < l.length
    · obtain ⟨B, off, rfl, hc⟩ := hp k hlt
      have HP := Lib.hid hp
      clear hp
      have e0 := orI_drop l k hlt
      have e1 := orI_drop' l k hlt
      have E0 := Lib.hid e0
      have E1 := Lib.hid e1
      clear e0 e1
      by_cases hz : l[k] = 0
      · have HZ := Lib.hid hz
        have hz' : (l[k] != 0) = false := by simp [hz]
        clear hz
        go_wp2
        go_round
        case rel => exact ⟨k + 1, by omega, by go_num, HN.out.trans (E0.out HZ.out)⟩
        case measure => simp [intOf]; omega
      · have hz' : (l[k] != 0) = true := by simp [hz]
        have HZ := Lib.hid hz
        clear hz
        go_wp2
        go_ret
        exact ⟨by rw [HN.out, E1.out HZ.out]; rfl, rfl⟩
    · have HP := Lib.hid hp
      clear hp
      go_wp2
      go_ret
      exact ⟨by rw [HN.out, List.drop_of_length_le (by omega)]; rfl, rfl⟩
set_option maxHeartbeats 400000 in
theorem order_any (p q : Pt) (w : World) : Calls Tryz.prog 43 #[ptV p, ptV q] w (Gives (.int .i64 (cmpP p q)) w) := by
  obtain ⟨a, b⟩ := p
  obtain ⟨c, d⟩ := q
  go_enter Tryz.func43, Tryz.ntmps43
  go_wp2
  refine region_tail 10 (by kernel_rfl) (by kernel_rfl) ?_
  simp only [List.take_succ_cons, List.take_zero, List.drop_succ_cons, List.drop_zero]
  repeat still_step
  still_call Calls_still (compare_any _ _ _)
  repeat still_step
  still_call Calls_still (compare_any _ _ _)
  refine wpStill_nil ?_
  go_wp2_with fail
  refine (or_any [cmpI a c, cmpI b d] _ 2 _ (by simp) ?_).mono ?_
  · intro i hi
    match i, hi with
    | 0, _ => exact ⟨_, _, rfl, by simp [go_sem]⟩
    | 1, _ => exact ⟨_, _, rfl, by simp [go_sem]⟩
  rintro e w' ⟨rfl, rfl⟩
  go_wp2
  go_ret
  exact ⟨rfl, ((((Kept.refl w).alloc _).alloc _).alloc _).drew⟩
set_option maxHeartbeats 400000 in
theorem comparePoints_any (p q : Pt) (w : World) : Calls Tryz.prog 39 #[ptV p, ptV q] w (Gives (.int .i64 (cmpP p q)) w) := by
  obtain ⟨a, b⟩ := p
  obtain ⟨c, d⟩ := q
  go_enter Tryz.func39, Tryz.ntmps39
  go_wp2
  refine region_tail 10 (by kernel_rfl) (by kernel_rfl) ?_
  simp only [List.take_succ_cons, List.take_zero, List.drop_succ_cons, List.drop_zero]
  repeat still_step
  still_call Calls_still (compare_any _ _ _)
  repeat still_step
  still_call Calls_still (compare_any _ _ _)
  refine wpStill_nil ?_
  go_wp2_with fail
  refine (or_any [cmpI a c, cmpI b d] _ 2 _ (by simp) ?_).mono ?_
  · intro i hi
    match i, hi with
    | 0, _ => exact ⟨_, _, rfl, by simp [go_sem]⟩
    | 1, _ => exact ⟨_, _, rfl, by simp [go_sem]⟩
  rintro e w' ⟨rfl, rfl⟩
  go_wp2
  go_ret
  exact ⟨rfl, ((((Kept.refl w).alloc _).alloc _).alloc _).drew⟩
set_option maxHeartbeats 400000 in
theorem right_any (p : Pt) (w : World) : Calls Tryz.prog 25 #[ptV p] w (Gives (.bool (okB p)) w) := by
  obtain ⟨a, b⟩ := p
  go_enter Tryz.func25, Tryz.ntmps25
  by_cases h1 : 0 ≤ a
  · by_cases h2 : a ≤ 10000
    · by_cases h3 : 0 ≤ b
      all_goals (go_wp2; go_ret; exact ⟨ret_bool (by unfold okB; rw [Bool.eq_iff_iff]; simp; omega), (Kept.refl w).alloc _⟩)
    · go_wp2
      go_ret
      exact ⟨ret_bool (by unfold okB; rw [Bool.eq_iff_iff]; simp; omega), (Kept.refl w).alloc _⟩
  · go_wp2
    go_ret
    exact ⟨ret_bool (by unfold okB; rw [Bool.eq_iff_iff]; simp; omega), (Kept.refl w).alloc _⟩
/-- Not too large to be multiplied. -/
def Sm (p : Pt) : Prop := 0 ≤ p.1 ∧ p.1 ≤ 20000 ∧ 0 ≤ p.2 ∧ p.2 ≤ 20000
theorem Sm.of_ok {p : Pt} (h : okB p = true) : Sm p := by
  unfold okB at h
  simp at h
  unfold Sm
  omega
theorem mul_bound {x y A B : Int} (h1 : -A ≤ x) (h2 : x ≤ A) (h3 : -B ≤ y) (h4 : y ≤ B) : -(A * B) ≤ x * y ∧ x * y ≤ A * B := by
  have hA : 0 ≤ A := by omega
  have hB : 0 ≤ B := by omega
  have a : x * y ≤ A * B := by
    have k : (A - x) * (B + y) + (A + x) * (B - y) = 2 * (A * B - x * y) := by grind
    have := Int.mul_nonneg (show 0 ≤ A - x by omega) (show 0 ≤ B + y by omega)
    have := Int.mul_nonneg (show 0 ≤ A + x by omega) (show 0 ≤ B - y by omega)
    omega
  have b : -(A * B) ≤ x * y := by
    have k : (A - x) * (B - y) + (A + x) * (B + y) = 2 * (A * B + x * y) := by grind
    have := Int.mul_nonneg (show 0 ≤ A - x by omega) (show 0 ≤ B - y by omega)
    have := Int.mul_nonneg (show 0 ≤ A + x by omega) (show 0 ≤ B + y by omega)
    omega
  exact ⟨b, a⟩
set_option maxHeartbeats 400000 in
theorem cross_any (p q r : Pt) (w : World) (hp : Sm p) (hq : Sm q) (hr : Sm r) : Calls Tryz.prog 92 #[ptV p, ptV q, ptV r] w (Gives (.int .i64 (cr p q r)) w) := by
  obtain ⟨a1, a2⟩ := p
  obtain ⟨b1, b2⟩ := q
  obtain ⟨c1, c2⟩ := r
  unfold Sm at hp hq hr
  simp only [] at hp hq hr
  have m1 := mul_bound (x := b1 - a1) (y := c2 - a2) (A := 20000) (B := 20000) (by omega) (by omega) (by omega) (by omega)
  have m2 := mul_bound (x := b2 - a2) (y := c1 - a1) (A := 20000) (B := 20000) (by omega) (by omega) (by omega) (by omega)
  go_enter Tryz.func92, Tryz.ntmps92
  go_wp2
  go_ret
  exact ⟨rfl, (((Kept.refl w).alloc _).alloc _).alloc _⟩
set_option maxHeartbeats 400000 in
theorem turn_any (p q r : Pt) (w : World) (hp : Sm p) (hq : Sm q) (hr : Sm r) : Calls Tryz.prog 66 #[ptV p, ptV q, ptV r] w (Gives (.int .i64 (turnZ p q r)) w) := by
  obtain ⟨t, ht⟩ : ∃ t, turnZ p q r = t := ⟨_, rfl⟩
  rw [ht]
  have HT := Lib.hid ht
  clear ht
  have HP := Lib.hid hp
  have HQ := Lib.hid hq
  have HR := Lib.hid hr
  clear hp hq hr
  go_enter Tryz.func66, Tryz.ntmps66
  go_wp2_with fail
  refine (cross_any p q r _ HP.out HQ.out HR.out).mono ?_
  rintro e w1 ⟨rfl, hk⟩
  have HK := Lib.hid (((((Kept.refl w).alloc _).alloc _).alloc _).trans hk)
  clear hk
  go_wp2_with fail
  refine (compare_any _ _ _).mono ?_
  rintro e w1 ⟨rfl, rfl⟩
  go_wp2
  go_ret
  exact ⟨ret_int HT.out, HK.out⟩
end Go.Proofs.YtlglfcdobbocnaaGreat
