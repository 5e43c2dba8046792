/- Directions compared; slices.Index and Contains at numbers and truths; isFace's test. -/
import Derived.Test.YtlglfcdobbocnaaGreatWr
set_option maxRecDepth 100000
namespace Go.Proofs.YtlglfcdobbocnaaGreat
open Go Go.Proofs Go.RowKit
attribute [local go_sem] Oper.semAt_some
theorem alloc_way (w : World) (p : Pt) : ∃ w0 g, w.alloc (.cells #[.int .i64 p.1, .int .i64 p.2] 99) = w0 ∧ w.heap.size = g ∧ w0.heap.size = g + 1 ∧ Kept w w0 ∧ PtBox w0 g p :=
  ⟨_, _, rfl, rfl, by simp, (Kept.refl w).alloc _, by simp [go_sem], by simp [go_sem]⟩
def lowB (v : Pt) : Bool := decide (low v)
/-- faces.way.turns. -/
def angZ (w v : Pt) : Int := if lowB w ≠ lowB v then (if lowB v then -1 else 1) else cmpI 0 (crs w v)
theorem angZ_lt (w v : Pt) : angZ w v < 0 ↔ angLt w v := by
  unfold angZ angLt lowB
  by_cases a : low w <;> by_cases b : low v <;> simp [a, b, cmpI_lt]
/-- A direction between two points of the plane. -/
def Sw (v : Pt) : Prop := -10000 ≤ v.1 ∧ v.1 ≤ 10000 ∧ -10000 ≤ v.2 ∧ v.2 ≤ 10000
set_option maxHeartbeats 400000 in
theorem lower_any (v : Pt) (w : World) : Calls Tryz.prog 108 #[ptV v] w (Gives (.bool (lowB v)) w) := by
  have e : lowB v = (decide (v.2 < 0) || ((v.2 == 0) && decide (v.1 < 0))) := by
    unfold lowB
    rw [Bool.eq_iff_iff, decide_eq_true_eq]
    unfold low
    simp
  rw [e]
  clear e
  obtain ⟨w0, g0, e0, hg0, hz0, hk0, hb0⟩ := alloc_way w v
  have HK0 := Lib.hid hk0
  obtain ⟨q0, q1⟩ := hb0
  clear hk0
  obtain ⟨a, b⟩ := v
  simp only [] at q0 q1 e0 ⊢
  obtain ⟨x, hx⟩ : ∃ x, decide (b < 0) = x := ⟨_, rfl⟩
  obtain ⟨y, hy⟩ : ∃ y, (b == 0) = y := ⟨_, rfl⟩
  rw [hx, hy]
  go_enter Tryz.func108, Tryz.ntmps108
  cases x
  · cases y
    · go_wp2
      go_ret
      exact ⟨rfl, HK0.out⟩
    · go_wp2
      go_ret
      exact ⟨rfl, HK0.out⟩
  · go_wp2
    go_ret
    exact ⟨rfl, HK0.out⟩
theorem crs_bound {w v : Pt} (hw : Sw w) (hv : Sw v) : -100000000 ≤ w.1 * v.2 ∧ w.1 * v.2 ≤ 100000000 ∧ -100000000 ≤ w.2 * v.1 ∧ w.2 * v.1 ≤ 100000000 := by
  have key : ∀ a b : Int, -10000 ≤ a → a ≤ 10000 → -10000 ≤ b → b ≤ 10000 → -100000000 ≤ a * b ∧ a * b ≤ 100000000 := by
    intro a b h1 h2 h3 h4
    have e1 := Int.mul_nonneg (show 0 ≤ a + 10000 by omega) (show 0 ≤ b + 10000 by omega)
    have e2 := Int.mul_nonneg (show 0 ≤ 10000 - a by omega) (show 0 ≤ 10000 - b by omega)
    have e3 := Int.mul_nonneg (show 0 ≤ a + 10000 by omega) (show 0 ≤ 10000 - b by omega)
    have e4 := Int.mul_nonneg (show 0 ≤ 10000 - a by omega) (show 0 ≤ b + 10000 by omega)
    simp only [Int.add_mul, Int.mul_add, Int.sub_mul, Int.mul_sub] at e1 e2 e3 e4
    omega
  unfold Sw at hw hv
  have := key w.1 v.2 (by omega) (by omega) (by omega) (by omega)
  have := key w.2 v.1 (by omega) (by omega) (by omega) (by omega)
  omega
theorem PtBox.drew {X : World} {g : Nat} {p : Pt} (h : PtBox X g p) : PtBox X.drew g p := h.kept (Kept.refl _).drew
set_option maxHeartbeats 1000000 in
theorem turns_any (v u : Pt) (w : World) (hv : Sw v) (hu : Sw u) : Calls Tryz.prog 83 #[ptV v, ptV u] w (Gives (.int .i64 (angZ v u)) w) := by
  obtain ⟨w0, g0, e0, hg0, hz0, hk0, hb0⟩ := alloc_way w v
  obtain ⟨w1, g1, e1, hg1, hz1, hk1, hb1⟩ := alloc_way w0 u
  obtain rfl : g0 + 1 = g1 := by omega
  have HK1 := Lib.hid (hk0.trans hk1)
  have HB0 := Lib.hid (hb0.kept hk1)
  have HB1 := Lib.hid hb1
  have HBD := Lib.hid (crs_bound hv hu)
  clear hk0 hk1 hb0 hb1 hv hu
  obtain ⟨q0, q1⟩ := HB0.out
  obtain ⟨q2, q3⟩ := HB1.out
  obtain ⟨r, hr⟩ : ∃ r, angZ v u = r := ⟨_, rfl⟩
  rw [hr]
  unfold angZ at hr
  obtain ⟨x, hx⟩ : ∃ x, lowB v = x := ⟨_, rfl⟩
  obtain ⟨y, hy⟩ : ∃ y, lowB u = y := ⟨_, rfl⟩
  rw [hx, hy] at hr
  have HX := Lib.hid hx
  have HY := Lib.hid hy
  have HR := Lib.hid hr
  clear hx hy hr
  go_enter Tryz.func83, Tryz.ntmps83
  go_wp2
  refine region_class (fun Z => Kept w1 Z) 4 (by kernel_rfl) (by kernel_rfl) (Kept.refl _).drew ?_
  simp only [List.take_succ_cons, List.take_zero, List.drop_succ_cons, List.drop_zero]
  refine wpQuiet_yield (ptV v) (by rfl) (fun Z hZ => ?_) ?_
  · obtain ⟨a0, a1⟩ := HB0.out.kept hZ
    have hb := lt_of_cell a0
    go_simp
  simp only [Act.put, List.setIfInBounds_toArray, List.set_cons_zero, List.set_cons_succ]
  refine wpQuiet_yield (.bool x) (by rfl) (fun Z hZ => ?_) ?_
  · go_simp
    have hF := lower_any v Z
    rw [HX.out] at hF
    exact hF.mono fun e Z' h => ⟨h.1, hZ.trans h.2⟩
  simp only [Act.put, List.setIfInBounds_toArray, List.set_cons_zero, List.set_cons_succ]
  refine wpQuiet_yield (ptV u) (by rfl) (fun Z hZ => ?_) ?_
  · obtain ⟨a0, a1⟩ := HB1.out.kept hZ
    have hb := lt_of_cell a0
    go_simp
  simp only [Act.put, List.setIfInBounds_toArray, List.set_cons_zero, List.set_cons_succ]
  refine wpQuiet_yield (.bool y) (by rfl) (fun Z hZ => ?_) ?_
  · go_simp
    have hF := lower_any u Z
    rw [HY.out] at hF
    exact hF.mono fun e Z' h => ⟨h.1, hZ.trans h.2⟩
  simp only [Act.put, List.setIfInBounds_toArray, List.set_cons_zero, List.set_cons_succ]
  refine wpQuiet_nil ?_
  intro x2 hk
  have HK2 := Lib.hid (HK1.out.trans hk)
  have HB2 := Lib.hid (HB0.out.kept hk)
  have HB3 := Lib.hid (HB1.out.kept hk)
  clear hk q0 q1 q2 q3 e0 e1
  obtain ⟨q0, q1⟩ := HB2.out
  obtain ⟨q2, q3⟩ := HB3.out
  obtain ⟨va, vb⟩ := v
  obtain ⟨ua, ub⟩ := u
  have hbd := HBD.out
  simp only [] at q0 q1 q2 q3 hbd
  by_cases hxy : x = y
  · subst hxy
    have HC : Hid (cmpI 0 (va * ub - vb * ua) = r) := Lib.hid (by have := HR.out; simp at this; exact this)
    go_wp2_with fail
    refine (compare_any _ _ _).mono ?_
    rintro e w3 ⟨rfl, rfl⟩
    rw [HC.out]
    go_wp2
    go_ret
    exact ⟨rfl, HK2.out⟩
  · have hne : (!(x == y)) = true := by simp [hxy]
    go_wp2_with fail
    refine (lower_any (ua, ub) _).mono ?_
    rintro e x3 ⟨rfl, hk⟩
    have HK3 := Lib.hid (HK2.out.trans hk)
    rw [HY.out]
    clear hk
    cases y
    · go_wp2
      go_ret
      exact ⟨ret_int (by rw [← HR.out]; simp [hxy]), HK3.out⟩
    · go_wp2
      go_ret
      exact ⟨ret_int (by rw [← HR.out]; simp [hxy]), HK3.out⟩
/-- slices.Index. -/
def idxI (l : List Int) (v : Int) : Int := if v ∈ l then l.idxOf v else -1
theorem idxOf_at {α : Type} [BEq α] [LawfulBEq α] {l : List α} {v : α} {k : Nat} (hk : k < l.length) (h : l[k] = v) (hn : v ∉ l.take k) : l.idxOf v = k := by
  have e : l = l.take k ++ l[k] :: l.drop (k + 1) := by rw [← List.drop_eq_getElem_cons hk, List.take_append_drop]
  conv => lhs; rw [e]
  rw [List.idxOf_append, if_neg hn, h, List.idxOf_cons_self, List.length_take]
  omega
theorem not_take_succ {α : Type} {l : List α} {v : α} {k : Nat} (hk : k < l.length) (h : l[k] ≠ v) (hn : v ∉ l.take k) : v ∉ l.take (k + 1) := by
  rw [List.take_succ_eq_append_getElem hk, List.mem_append, List.mem_singleton]
  rintro (h1 | h1)
  · exact hn h1
  · exact h h1.symm
set_option maxHeartbeats 400000 in
theorem index_any (l : List Int) (ao : Option Addr) (c : Nat) (v : Int) (w : World) (hl : l.length < 1152921504606846976) (hp : Ints w ao l) :
    Calls Tryz.prog 75 #[.slice ao l.length c, .int .i64 v] w (Tells (.int .i64 (idxI l v)) w) := by
  go_enter Tryz.func75, Tryz.ntmps75
  go_wp2
  go_loop [8] (fun i => ∃ k : Nat, k ≤ l.length ∧ i = .int .i64 k ∧ v ∉ l.take k) (fun i => l.length - (intOf i).toNat)
  case atStart => exact ⟨0, Nat.zero_le _, rfl, by simp⟩
  case round =>
    obtain ⟨k, hk, rfl, hn⟩ := hrel
    have HN := Lib.hid hn
    clear hn
    by_cases hlt : k < l.length
    · obtain ⟨B, off, rfl, hc⟩ := hp k hlt
      have HP := Lib.hid hp
      clear hp
      obtain ⟨x, hx⟩ : ∃ x, l[k] = x := ⟨_, rfl⟩
      rw [hx] at hc
      have HX := Lib.hid hx
      clear hx
      by_cases hz : v = x
      · have HZ := Lib.hid hz
        have hz' : (v == x) = true := by simp [hz]
        clear hz
        go_wp2
        go_ret
        exact ⟨ret_int (by unfold idxI; rw [if_pos (by rw [HZ.out, ← HX.out]; exact List.getElem_mem hlt), idxOf_at hlt (by rw [HX.out, HZ.out]) HN.out]), rfl⟩
      · have hz' : (v == x) = false := by simp [hz]
        have HZ := Lib.hid hz
        clear hz
        go_wp2
        go_round
        case rel => exact ⟨k + 1, by omega, by go_num, not_take_succ hlt (fun e => HZ.out (by rw [← HX.out, e])) HN.out⟩
        case measure => simp [intOf]; omega
    · have HP := Lib.hid hp
      clear hp
      go_wp2
      go_ret
      exact ⟨ret_int (by unfold idxI; rw [if_neg (by have := HN.out; rw [List.take_of_length_le (by omega)] at this; exact this)]), rfl⟩
/-- Behind ao lie the truths l. -/
def Bools (w : World) (ao : Option Addr) (l : List Bool) : Prop :=
  ∀ i, (h : i < l.length) → ∃ b off, ao = some ⟨b, off, none⟩ ∧ w.cell? ⟨b, off + i, none⟩ = some (.bool l[i])
def idxB (l : List Bool) (v : Bool) : Int := if v ∈ l then l.idxOf v else -1
set_option maxHeartbeats 400000 in
theorem indexB_any (l : List Bool) (ao : Option Addr) (c : Nat) (v : Bool) (w : World) (hl : l.length < 1152921504606846976) (hp : Bools w ao l) :
    Calls Tryz.prog 109 #[.slice ao l.length c, .bool v] w (Tells (.int .i64 (idxB l v)) w) := by
  go_enter Tryz.func109, Tryz.ntmps109
  go_wp2
  go_loop [8] (fun i => ∃ k : Nat, k ≤ l.length ∧ i = .int .i64 k ∧ v ∉ l.take k) (fun i => l.length - (intOf i).toNat)
  case atStart => exact ⟨0, Nat.zero_le _, rfl, by simp⟩
  case round =>
    obtain ⟨k, hk, rfl, hn⟩ := hrel
    have HN := Lib.hid hn
    clear hn
    by_cases hlt : k < l.length
    · obtain ⟨B, off, rfl, hc⟩ := hp k hlt
      have HP := Lib.hid hp
      clear hp
      obtain ⟨x, hx⟩ : ∃ x, l[k] = x := ⟨_, rfl⟩
      rw [hx] at hc
      have HX := Lib.hid hx
      clear hx
      by_cases hz : v = x
      · have HZ := Lib.hid hz
        have hz' : (v == x) = true := by simp [hz]
        clear hz
        go_wp2
        go_ret
        exact ⟨ret_int (by unfold idxB; rw [if_pos (by rw [HZ.out, ← HX.out]; exact List.getElem_mem hlt), idxOf_at hlt (by rw [HX.out, HZ.out]) HN.out]), rfl⟩
      · have hz' : (v == x) = false := by simp [hz]
        have HZ := Lib.hid hz
        clear hz
        go_wp2
        go_round
        case rel => exact ⟨k + 1, by omega, by go_num, not_take_succ hlt (fun e => HZ.out (by rw [← HX.out, e])) HN.out⟩
        case measure => simp [intOf]; omega
    · have HP := Lib.hid hp
      clear hp
      go_wp2
      go_ret
      exact ⟨ret_int (by unfold idxB; rw [if_neg (by have := HN.out; rw [List.take_of_length_le (by omega)] at this; exact this)]), rfl⟩
set_option maxHeartbeats 400000 in
theorem containsB_any (l : List Bool) (ao : Option Addr) (c : Nat) (v : Bool) (w : World) (hl : l.length < 1152921504606846976) (hp : Bools w ao l) :
    Calls Tryz.prog 85 #[.slice ao l.length c, .bool v] w (Tells (.bool (decide (v ∈ l))) w) := by
  obtain ⟨r, hr⟩ : ∃ r : Int, idxB l v = r := ⟨_, rfl⟩
  have HR : Hid (decide (0 ≤ r) = decide (v ∈ l)) := Lib.hid (by
    rw [← hr]
    unfold idxB
    by_cases h : v ∈ l
    · rw [if_pos h]; simp [h]
    · rw [if_neg h]; simp [h])
  go_enter Tryz.func85, Tryz.ntmps85
  go_wp2_with fail
  refine (indexB_any l ao c v w hl hp).mono ?_
  rintro e w1 ⟨rfl, rfl⟩
  rw [hr]
  clear hr
  go_wp2
  go_ret
  exact ⟨ret_bool HR.out, rfl⟩
end Go.Proofs.YtlglfcdobbocnaaGreat
