/- plane.Turn, where, Where (of a polygon that is checked). -/
import Derived.Test.YtlglfcdobbocnaaGreatWh
set_option maxRecDepth 100000
namespace Go.Proofs.YtlglfcdobbocnaaGreat
open Go Go.Proofs Go.RowKit
attribute [local go_sem] Oper.semAt_some
set_option maxHeartbeats 1000000 in
theorem Turn_any (p q r : Pt) (w : World) (hp : okB p = true) (hq : okB q = true) (hr : okB r = true) : Calls Tryz.prog 64 #[ptV p, ptV q, ptV r] w (Gives (.int .i64 (turnZ p q r)) w) := by
  have HA : Hid ([p, q, r].all okB = true) := Lib.hid (by simp [hp, hq, hr])
  have HP := Lib.hid hp
  have HQ := Lib.hid hq
  have HR := Lib.hid hr
  clear hp hq hr
  obtain ⟨w0, g0, e0, hg0, hz0, hk0, hb0⟩ := alloc_pt w p
  obtain ⟨w1, g1, e1, hg1, hz1, hk1, hb1⟩ := alloc_pt w0 q
  obtain rfl : g0 + 1 = g1 := by omega
  obtain ⟨w2, g2, e2, hg2, hz2, hk2, hb2⟩ := alloc_pt w1 r
  obtain rfl : g0 + 1 + 1 = g2 := by omega
  have HK0 := Lib.hid ((hk0.trans hk1).trans hk2)
  have HB0 := Lib.hid ((hb0.kept hk1).kept hk2)
  have HB1 := Lib.hid (hb1.kept hk2)
  have HB2 := Lib.hid hb2
  clear hk0 hk1 hk2 hb0 hb1 hb2
  obtain ⟨q0, q1⟩ := HB0.out
  obtain ⟨q2, q3⟩ := HB1.out
  obtain ⟨q4, q5⟩ := HB2.out
  go_enter Tryz.func64, Tryz.ntmps64
  go_wp2_with fail
  clear q0 q1 q2 q3 q4 q5 e0 e1 e2
  have hk3 := (Kept.refl w2).alloc (.cells #[.int .i64 p.1, .int .i64 p.2, .int .i64 q.1, .int .i64 q.2, .int .i64 r.1, .int .i64 r.2] 25)
  refine (rightAll_any [p, q, r] _ 3 _ (by simp) ?_).mono ?_
  · intro i hi
    match i, hi with
    | 0, _ => exact ⟨_, _, rfl, by simp [go_sem, ← hz2], by simp [go_sem, ← hz2]⟩
    | 1, _ => exact ⟨_, _, rfl, by simp [go_sem, ← hz2], by simp [go_sem, ← hz2]⟩
    | 2, _ => exact ⟨_, _, rfl, by simp [go_sem, ← hz2], by simp [go_sem, ← hz2]⟩
  rintro e x1 ⟨rfl, hk⟩
  rw [HA.out]
  have HB3 := Lib.hid ((HB0.out.kept hk3).kept hk)
  have HB4 := Lib.hid ((HB1.out.kept hk3).kept hk)
  have HB5 := Lib.hid ((HB2.out.kept hk3).kept hk)
  have HK1 := Lib.hid ((HK0.out.trans hk3).trans hk)
  clear hk hk3
  obtain ⟨q0, q1⟩ := HB3.out
  obtain ⟨q2, q3⟩ := HB4.out
  obtain ⟨q4, q5⟩ := HB5.out
  go_wp2_with fail
  clear q0 q1 q2 q3 q4 q5
  refine (turn_any p q r _ (Sm.of_ok HP.out) (Sm.of_ok HQ.out) (Sm.of_ok HR.out)).mono ?_
  rintro e x2 ⟨rfl, hk⟩
  have HK2 := Lib.hid (HK1.out.trans hk)
  clear hk
  go_wp2
  go_ret
  exact ⟨rfl, HK2.out⟩
/-- Two points put into two new variables. -/
structure PtsAt (X : World) (p q : Pt) (x y : Nat) (Y : World) : Prop where
  ne : x ≠ y
  hx : X.heap.size ≤ x
  hy : X.heap.size ≤ y
  kept : Kept X Y
  bx : PtBox Y x p
  by_ : PtBox Y y q
  fx : ∀ o, Y.frozen? ⟨x, o, none⟩ = false
  fy : ∀ o, Y.frozen? ⟨y, o, none⟩ = false
theorem pts_one (X : World) (p q : Pt) : (∀ o, ((X.alloc (.cells #[.int .i64 p.1, .int .i64 p.2] 25)).alloc (.cells #[.int .i64 q.1, .int .i64 q.2] 25)).drew.frozen? ⟨X.heap.size, o, none⟩ = false) ∧ (∀ o, ((X.alloc (.cells #[.int .i64 p.1, .int .i64 p.2] 25)).alloc (.cells #[.int .i64 q.1, .int .i64 q.2] 25)).drew.frozen? ⟨X.heap.size + 1, o, none⟩ = false) ∧
    PtBox ((X.alloc (.cells #[.int .i64 p.1, .int .i64 p.2] 25)).alloc (.cells #[.int .i64 q.1, .int .i64 q.2] 25)).drew X.heap.size p ∧ PtBox ((X.alloc (.cells #[.int .i64 p.1, .int .i64 p.2] 25)).alloc (.cells #[.int .i64 q.1, .int .i64 q.2] 25)).drew (X.heap.size + 1) q := by
  have h1 := heap_alloc_new X (.cells #[.int .i64 p.1, .int .i64 p.2] 25)
  have h2 := heap_alloc_new (X.alloc (.cells #[.int .i64 p.1, .int .i64 p.2] 25)) (.cells #[.int .i64 q.1, .int .i64 q.2] 25)
  refine ⟨fun o => ?_, fun o => ?_, ⟨by simp [go_sem], by simp [go_sem]⟩, ⟨by simp [go_sem], by simp [go_sem]⟩⟩
  · exact (((Kept.refl (X.alloc (.cells #[.int .i64 p.1, .int .i64 p.2] 25))).alloc (.cells #[.int .i64 q.1, .int .i64 q.2] 25)).drew.cells.2 _ o (by simp)).trans (frozen_of_row _ _ _ _ _ h1)
  · exact ((Kept.refl _).drew.cells.2 _ o (by simp)).trans (frozen_of_row _ _ _ _ _ (by simpa using h2))
theorem pts_ab (X : World) (p q : Pt) : PtsAt X p q X.heap.size (X.heap.size + 1) ((X.alloc (.cells #[.int .i64 p.1, .int .i64 p.2] 25)).alloc (.cells #[.int .i64 q.1, .int .i64 q.2] 25)).drew := by
  obtain ⟨a, b, c, d⟩ := pts_one X p q
  exact ⟨by omega, Nat.le_refl _, Nat.le_succ _, (((Kept.refl X).alloc _).alloc _).drew, c, d, a, b⟩
theorem pts_ba (X : World) (p q : Pt) : PtsAt X p q (X.heap.size + 1) X.heap.size ((X.alloc (.cells #[.int .i64 q.1, .int .i64 q.2] 25)).alloc (.cells #[.int .i64 p.1, .int .i64 p.2] 25)).drew := by
  obtain ⟨a, b, c, d⟩ := pts_one X q p
  exact ⟨by omega, Nat.le_succ _, Nat.le_refl _, (((Kept.refl X).alloc _).alloc _).drew, d, c, b, a⟩
/-- A segment put into a new variable. -/
theorem new_sg (X : World) (s : Sg) : ∃ w2 w3 g, X.alloc (.cells #[.int .i64 0, .int .i64 0, .int .i64 0, .int .i64 0] 45) = w2 ∧
    (((w2.setCell ⟨g, 0, none⟩ (.int .i64 s.1.1)).setCell ⟨g, 1, none⟩ (.int .i64 s.1.2)).setCell ⟨g, 2, none⟩ (.int .i64 s.2.1)).setCell ⟨g, 3, none⟩ (.int .i64 s.2.2) = w3 ∧ X.heap.size = g ∧ SgBox w2 g ((0, 0), (0, 0)) ∧
    (∀ o, w2.frozen? ⟨g, o, none⟩ = false) ∧ Kept X w3 ∧ SgBox w3 g s ∧ w3.heap.size = g + 1 := by
  obtain ⟨w2, g, e2, hg, hz, hk, hb⟩ := alloc_sg X ((0, 0), (0, 0))
  refine ⟨w2, _, g, e2, rfl, hg, hb, fun o => by rw [← e2, ← hg]; exact frozen_alloc _ _ _ o, ?_, hb.put s, by simp [hz]⟩
  exact (((hk.setCell (p := ⟨g, 0, none⟩) (Nat.le_of_eq hg) _).setCell (p := ⟨g, 1, none⟩) (Nat.le_of_eq hg) _).setCell (p := ⟨g, 2, none⟩) (Nat.le_of_eq hg) _).setCell (p := ⟨g, 3, none⟩) (Nat.le_of_eq hg) _
theorem new_pt (X : World) (s : Pt) : ∃ w2 w3 g, X.alloc (.cells #[.int .i64 0, .int .i64 0] 25) = w2 ∧
    (w2.setCell ⟨g, 0, none⟩ (.int .i64 s.1)).setCell ⟨g, 1, none⟩ (.int .i64 s.2) = w3 ∧ X.heap.size = g ∧ PtBox w2 g (0, 0) ∧
    (∀ o, w2.frozen? ⟨g, o, none⟩ = false) ∧ Kept X w3 ∧ PtBox w3 g s ∧ w3.heap.size = g + 1 := by
  obtain ⟨w2, g, e2, hg, hz, hk, hb⟩ := alloc_pt X (0, 0)
  refine ⟨w2, _, g, e2, rfl, hg, hb, fun o => by rw [← e2, ← hg]; exact frozen_alloc _ _ _ o, ?_, hb.put _ _, by simp [hz]⟩
  exact (hk.setCell (p := ⟨g, 0, none⟩) (Nat.le_of_eq hg) _).setCell (p := ⟨g, 1, none⟩) (Nat.le_of_eq hg) _
/-- Crossed, by the two ends in their order. -/
theorem hcB_order (p a b : Pt) : hcB p a b = (decide ((if b.2 < a.2 then b else a).2 ≤ p.2) && decide (p.2 < (if b.2 < a.2 then a else b).2) && decide (0 < turnZ (if b.2 < a.2 then b else a) (if b.2 < a.2 then a else b) p)) := by
  have e : ∀ x y, (0 < turnZ x y p ↔ 0 < cr x y p) := fun x y => by unfold turnZ; rw [cmpI_gt]
  unfold hcB
  rw [Bool.eq_iff_iff, decide_eq_true_eq]
  simp only [Bool.and_eq_true, decide_eq_true_eq, e]
  unfold Hc
  by_cases h : b.2 < a.2
  · simp only [h, if_true]
    omega
  · simp only [h, if_false]
    omega
theorem inF_succ (l : List Pt) (p : Pt) (k : Nat) : inF l p (k + 1) = if hcB p (edgeF l k).1 (edgeF l k).2 then !inF l p k else inF l p k := by
  unfold inF
  rw [List.range_succ, List.filter_append, List.length_append]
  cases h : hcB p (edgeF l k).1 (edgeF l k).2
  · simp [h]
  · simp [h]
    generalize ((List.range k).filter fun i => hcB p (edgeF l i).1 (edgeF l i).2).length = n
    rcases Nat.mod_two_eq_zero_or_one n with e | e
    · rw [e, show (n + 1) % 2 = 1 by omega]; rfl
    · rw [e, show (n + 1) % 2 = 0 by omega]; rfl
end Go.Proofs.YtlglfcdobbocnaaGreat
