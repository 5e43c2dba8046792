/- holds, read; what order.Days returns. -/
import Derived.Test.YtgmodcipbklejaaN
import Derived.Test.YtgmodcipbklejaaS
import Derived.Test.YtgmodcipbklejaaT
import Derived.Test.YtgmodcipbklejaaBn
set_option maxRecDepth 100000
namespace Go.Proofs.Ytgmodcipbklejaa
open Go Go.Proofs Go.RowKit
attribute [local go_sem] Oper.semAt_some

/-! ### The plain law -/
theorem keepB_zero {W : Web} {dry : Int} {d : List Int} {a b : Nat} (hd : 0 ≤ dry) (h : keepB W dry d a b = true) : keepB W 0 d a b = true := by
  unfold keepB at h ⊢
  simp only [Bool.or_eq_true, Bool.and_eq_true, Bool.not_eq_true', decide_eq_true_eq, Bool.and_eq_false_iff, decide_eq_false_iff_not] at h ⊢
  rcases h with h | ⟨⟨h1, h2⟩, h3⟩
  · exact .inl h
  · refine .inr ⟨⟨h1, h2⟩, ?_⟩
    rcases h3 with h3 | h3
    · exact .inl h3
    · exact .inr (by omega)
/-- What order.Days returns where it has no error. -/
theorem days_facts {o : Prob} {dry : Int} {l : List Int} (h : datErr o dry l = 0) : chk o = 0 ∧ ((daysOf (webOf o) dry l).length : Int) = o.N ∧ (daysOf (webOf o) dry l).length ≤ 24 ∧ CheckDaysR o 0 (daysOf (webOf o) dry l) = (true, 0) ∧
    ∀ a b : Nat, (a : Int) < o.N → (b : Int) < o.N → a ≠ b → (daysOf (webOf o) dry l).getD a 0 ≠ (daysOf (webOf o) dry l).getD b 0 := by
  obtain ⟨hc, hd, hor⟩ := datErr_ok h
  have hk := days_kept (webOf_n hc) (fun p _ => webOf_irr hc p) (near_sym hc) hd hor
  obtain ⟨h1, h2, h3⟩ := keptB_iff.1 hk
  have hn : ((webOf o).n : Int) = o.N := by
    have := (pair_of_chk hc).1
    show (o.N.toNat : Int) = o.N
    omega
  refine ⟨hc, by rw [h1, hn], by rw [h1]; exact webOf_n hc, ?_, fun a b ha hb hab => ?_⟩
  · have : keptB (webOf o) 0 (daysOf (webOf o) dry l) = true := keptB_iff.2 ⟨h1, h2, fun a b ha hb => keepB_zero hd.1 (h3 a b ha hb)⟩
    unfold CheckDaysR
    rw [if_pos hc, if_pos (by omega), this]
  · have := h3 a b (by omega) (by omega)
    unfold keepB at this
    simp only [Bool.or_eq_true, Bool.and_eq_true, Bool.not_eq_true', decide_eq_true_eq, decide_eq_false_iff_not] at this
    rcases this with this | this
    · exact absurd this hab
    · exact this.1.1
theorem near_facts {o : Prob} (hc : chk o = 0) : ∀ x ∈ o.near, 0 ≤ x.1 ∧ x.1 < o.N ∧ 0 ≤ x.2 ∧ x.2 < o.N ∧ x.1 ≠ x.2 := fun x hx => by
  obtain ⟨h1, h2, h3⟩ := (pair_of_chk hc).2.2.2 x hx
  omega
theorem days_nodup {d : List Int} {N : Int} (hl : (d.length : Int) = N) (h : ∀ a b : Nat, (a : Int) < N → (b : Int) < N → a ≠ b → d.getD a 0 ≠ d.getD b 0) : d.Nodup := by
  show d.Pairwise (· ≠ ·)
  rw [List.pairwise_iff_getElem]
  intro i j hi hj hij
  have := h i j (by omega) (by omega) (by omega)
  rwa [getD_get hi, getD_get hj] at this

/-! ### holds, read -/
set_option maxHeartbeats 400000 in
theorem holds_one (a b : Int) (w : World) (h : a < b) : Calls Try.prog 13 #[.int .u8 1, .int .i64 a, .int .i64 b] w (Tells (.bool true) w) := by
  have hd : decide (a < b) = true := decide_eq_true h
  go_enter Try.func13, Try.ntmps13
  go_wp2
  go_ret
  exact ⟨rfl, rfl⟩
set_option maxHeartbeats 400000 in
theorem holds_two (a b : Int) (w : World) (h : b < a) : Calls Try.prog 13 #[.int .u8 2, .int .i64 a, .int .i64 b] w (Tells (.bool true) w) := by
  have hd : decide (a > b) = true := decide_eq_true h
  go_enter Try.func13, Try.ntmps13
  go_wp2
  go_ret
  exact ⟨rfl, rfl⟩
set_option maxHeartbeats 400000 in
theorem holds_open (a b : Int) (w : World) : Calls Try.prog 13 #[.int .u8 0, .int .i64 a, .int .i64 b] w (Tells (.bool true) w) := by
  go_enter Try.func13, Try.ntmps13
  go_wp2
  go_ret
  exact ⟨rfl, rfl⟩
theorem holds_any (r s : Bool) (a b : Int) (w : World) (h1 : r = true → a < b) (h2 : s = true → b < a) : Calls Try.prog 13 #[.int .u8 (if r then 1 else if s then 2 else 0), .int .i64 a, .int .i64 b] w (Tells (.bool true) w) := by
  cases r
  · cases s
    · exact holds_open a b w
    · exact holds_two a b w (h2 rfl)
  · exact holds_one a b w (h1 rfl)

def threeO : Prob := ⟨3, [], [(0, 1), (1, 2)]⟩
def threeS : List Obs := [⟨1, 0, 1, 1, 1, 2, 0⟩, ⟨2, 0, 1, 1, 2, 3, 0⟩]
theorem three_shown : shownF [0, 2, 4] threeO.near = threeS := by decide +kernel
theorem three_chk : chk threeO = 0 := by decide +kernel
theorem three_days : CheckDaysR threeO 0 [0, 2, 4] = (true, 0) := by decide +kernel
theorem three_right : Right 3 threeS := by
  have h1 : RightAt 3 [] 0 ⟨1, 0, 1, 1, 1, 2, 0⟩ := ⟨rfl, rfl, by decide, by decide, .inl ⟨rfl, by decide, by decide, by decide, by decide, by decide, rfl⟩⟩
  have h2 : RightAt 3 [⟨1, 0, 1, 1, 1, 2, 0⟩] 1 ⟨2, 0, 1, 1, 2, 3, 0⟩ := ⟨rfl, rfl, by decide, by decide, .inl ⟨rfl, by decide, by decide, by decide, by decide, by decide, rfl⟩⟩
  exact ((Right.nil 3).snoc h1 (fun y hy => by simp at hy)).snoc h2 (fun y hy => by simp at hy; subst hy; decide)
theorem three_count : countF threeS 0 = threeS := by decide +kernel
theorem read_world (w : World) : ∃ w3, ((w.alloc (.cells #[.int .i64 0, .int .i64 1, .int .i64 1, .int .i64 2] 47)).alloc (.cells #[.int .i64 3, .slice none 0 0, .slice (some ⟨w.heap.size, 0, none⟩) 2 2] 24)).alloc (.cells #[.int .i64 0, .int .i64 2, .int .i64 4] 3) = w3 ∧
    Kept w w3 ∧ Pairs w3 (some ⟨w.heap.size, 0, none⟩) threeO.near ∧ Ints w3 (some ⟨w.heap.size + 1 + 1, 0, none⟩) [0, 2, 4] := by
  have k2 : Kept (w.alloc (.cells #[.int .i64 0, .int .i64 1, .int .i64 1, .int .i64 2] 47)) (((w.alloc (.cells #[.int .i64 0, .int .i64 1, .int .i64 1, .int .i64 2] 47)).alloc (.cells #[.int .i64 3, .slice none 0 0, .slice (some ⟨w.heap.size, 0, none⟩) 2 2] 24)).alloc (.cells #[.int .i64 0, .int .i64 2, .int .i64 4] 3)) := ((Kept.refl _).alloc _).alloc _
  have hh := heap_alloc_new w (.cells #[.int .i64 0, .int .i64 1, .int .i64 1, .int .i64 2] 47)
  have h3 := heap_alloc_new ((w.alloc (.cells #[.int .i64 0, .int .i64 1, .int .i64 1, .int .i64 2] 47)).alloc (.cells #[.int .i64 3, .slice none 0 0, .slice (some ⟨w.heap.size, 0, none⟩) 2 2] 24)) (.cells #[.int .i64 0, .int .i64 2, .int .i64 4] 3)
  have hs : ((w.alloc (.cells #[.int .i64 0, .int .i64 1, .int .i64 1, .int .i64 2] 47)).alloc (.cells #[.int .i64 3, .slice none 0 0, .slice (some ⟨w.heap.size, 0, none⟩) 2 2] 24)).heap.size = w.heap.size + 1 + 1 := by simp
  rw [hs] at h3
  refine ⟨_, rfl, (((Kept.refl w).alloc _).alloc _).alloc _, fun i hi => ⟨_, 0, rfl, ?_, ?_⟩, fun i hi => ⟨_, 0, rfl, ?_⟩⟩
  · refine k2.cell ?_
    rw [cell_of_row _ _ _ _ _ _ hh]
    match i, hi with
    | 0, _ => rfl
    | 1, _ => rfl
  · refine k2.cell ?_
    rw [cell_of_row _ _ _ _ _ _ hh]
    match i, hi with
    | 0, _ => rfl
    | 1, _ => rfl
  · rw [cell_of_row _ _ _ _ _ _ h3]
    match i, hi with
    | 0, _ => rfl
    | 1, _ => rfl
    | 2, _ => rfl
set_option maxHeartbeats 1000000 in
theorem read_any (w : World) : Calls Try.prog 5 #[] w (Gives (.bool true) w) := by
  go_enter Try.func5, Try.ntmps5
  go_wp2_with fail
  obtain ⟨w3, e3, hk3, hp3, hd3⟩ := read_world w
  rw [e3]
  clear e3
  have HK3 := Lib.hid hk3
  refine (Shown_any threeO none (some ⟨w.heap.size, 0, none⟩) 0 2 [0, 2, 4] (some ⟨w.heap.size + 1 + 1, 0, none⟩) 3 w3 ⟨Pairs.nil _ _, hp3, by decide, by decide⟩ hd3 three_chk three_days rfl (by decide) (by decide)).mono ?_
  rintro e w4 ⟨v, rfl, hov, hk4⟩
  clear hp3 hd3 hk3
  rw [three_shown] at hov
  obtain ⟨ao, ac, rfl, hob⟩ := hov.obss
  have HOB := Lib.hid hob
  have HK4 := Lib.hid (HK3.out.trans hk4)
  clear hov hob hk4
  go_wp2_with fail
  refine (Read_any 3 threeS ao ac 0 1 3 (fun x => x) w4 (by omega) three_right (by decide) HOB.out (by rw [three_count]; decide) (by omega) (by omega) (by omega)).mono ?_
  rintro e w5 ⟨k, re, st, rfl, hk, hwo, hk5⟩
  rw [three_count] at hwo
  have hst : st 1 3 = true := hwo.two 1 2 3 ⟨_, List.mem_cons_self, rfl, rfl⟩ ⟨_, List.mem_cons_of_mem _ List.mem_cons_self, rfl, rfl⟩
  rw [hst] at hk
  simp at hk
  subst hk
  have HK5 := Lib.hid (HK4.out.trans hk5)
  clear hst hwo hk5
  go_wp2
  go_ret
  exact ⟨rfl, HK5.out⟩
end Go.Proofs.Ytgmodcipbklejaa
