/- plane.ends, between, on, inside, On, Turn. -/
import Derived.Test.YtlglfcdobbocnaaGreatWb
set_option maxRecDepth 100000
namespace Go.Proofs.YtlglfcdobbocnaaGreat
open Go Go.Proofs Go.RowKit
attribute [local go_sem] Oper.semAt_some
theorem results_cell2 {P : Program} {fn : Func} {t u : Tmp} {ty uy : TypeId} (h : fn.results = #[.cell t ty, .cell u uy]) (tmps : Array Value) (w : World) (a b : Addr) (ha : tmps.getD t undef = .pointer (some a)) (hb : tmps.getD u undef = .pointer (some b)) (v v' : Value) (hl : (loadVar ty a).run P w = .ok v w) (hm : (loadVar uy b).run P w = .ok v' w) :
    (results fn tmps).run P w = .ok (.tuple #[v, v']) w := by
  rw [Array.getD_eq_getD_getElem?] at ha hb
  simp [results, h, asAddr, ha, hb, hl, hm]
theorem load25 {w : World} {k : Nat} {p : Pt} (h : PtBox w k p) : (loadVar 25 ⟨k, 0, none⟩).run Tryz.prog w = .ok (ptV p) w := by
  simp [go_sem, h.c0, h.c1]
theorem load45 {w : World} {k : Nat} {s : Sg} (h : SgBox w k s) : (loadVar 45 ⟨k, 0, none⟩).run Tryz.prog w = .ok (sgV s) w := by
  simp [go_sem, h.c0, h.c1, h.c2, h.c3]
/-- Two variables that hold points, one behind the other, and may be written. -/
structure ZzBox (X : World) (g : Nat) (p q : Pt) : Prop where
  a : PtBox X g p
  b : PtBox X (g + 1) q
  fa : ∀ o, X.frozen? ⟨g, o, none⟩ = false
  fb : ∀ o, X.frozen? ⟨g + 1, o, none⟩ = false
theorem ZzBox.kept {X Y : World} {g : Nat} {p q : Pt} (h : ZzBox X g p q) (hk : Kept X Y) : ZzBox Y g p q :=
  ⟨h.a.kept hk, h.b.kept hk, fun o => (hk.cells.2 g o (lt_of_cell h.a.c0)).trans (h.fa o), fun o => (hk.cells.2 (g + 1) o (lt_of_cell h.b.c0)).trans (h.fb o)⟩
theorem PtBox.put {X : World} {g : Nat} {p : Pt} (h : PtBox X g p) (a b : Int) : PtBox ((X.setCell ⟨g, 0, none⟩ (.int .i64 a)).setCell ⟨g, 1, none⟩ (.int .i64 b)) g (a, b) :=
  ⟨cell_set_off (cell_set_same h.c0) (by omega), cell_set_same (cell_set_off h.c1 (by omega))⟩
theorem PtBox.other {X : World} {g k o : Nat} {p : Pt} {v : Value} (h : PtBox X g p) (hn : g ≠ k) : PtBox (X.setCell ⟨k, o, none⟩ v) g p := ⟨cell_set_block h.c0 hn, cell_set_block h.c1 hn⟩
theorem SgBox.other {X : World} {g k o : Nat} {p : Sg} {v : Value} (h : SgBox X g p) (hn : g ≠ k) : SgBox (X.setCell ⟨k, o, none⟩ v) g p := ⟨cell_set_block h.c0 hn, cell_set_block h.c1 hn, cell_set_block h.c2 hn, cell_set_block h.c3 hn⟩
theorem ZzBox.other {X : World} {g k o : Nat} {p q : Pt} {v : Value} (h : ZzBox X g p q) (h1 : g ≠ k) (h2 : g + 1 ≠ k) : ZzBox (X.setCell ⟨k, o, none⟩ v) g p q :=
  ⟨h.a.other h1, h.b.other h2, fun o => by rw [World.frozen?_setCell]; exact h.fa o, fun o => by rw [World.frozen?_setCell]; exact h.fb o⟩
theorem ZzBox.put1 {X : World} {g : Nat} {p q : Pt} (h : ZzBox X g p q) (a b : Int) : ZzBox ((X.setCell ⟨g, 0, none⟩ (.int .i64 a)).setCell ⟨g, 1, none⟩ (.int .i64 b)) g (a, b) q :=
  ⟨h.a.put a b, (h.b.other (by omega)).other (by omega), fun o => by rw [World.frozen?_setCell, World.frozen?_setCell]; exact h.fa o, fun o => by rw [World.frozen?_setCell, World.frozen?_setCell]; exact h.fb o⟩
theorem ZzBox.put2 {X : World} {g : Nat} {p q : Pt} (h : ZzBox X g p q) (a b : Int) : ZzBox ((X.setCell ⟨g + 1, 0, none⟩ (.int .i64 a)).setCell ⟨g + 1, 1, none⟩ (.int .i64 b)) g p (a, b) :=
  ⟨(h.a.other (by omega)).other (by omega), h.b.put a b, fun o => by rw [World.frozen?_setCell, World.frozen?_setCell]; exact h.fa o, fun o => by rw [World.frozen?_setCell, World.frozen?_setCell]; exact h.fb o⟩
theorem ZzBox.put {X : World} {g : Nat} {p q : Pt} (h : ZzBox X g p q) (a b c d : Int) : ZzBox ((((X.setCell ⟨g, 0, none⟩ (.int .i64 a)).setCell ⟨g, 1, none⟩ (.int .i64 b)).setCell ⟨g + 1, 0, none⟩ (.int .i64 c)).setCell ⟨g + 1, 1, none⟩ (.int .i64 d)) g (a, b) (c, d) :=
  (h.put1 a b).put2 c d
/-- A point put into a variable: the world under a new name. -/
theorem put_pt {W X : World} {g : Nat} (hg : W.heap.size ≤ g) (hk : Kept W X) (u : Pt) : ∃ Y, (X.setCell ⟨g, 0, none⟩ (.int .i64 u.1)).setCell ⟨g, 1, none⟩ (.int .i64 u.2) = Y ∧ Kept W Y ∧ (∀ k p, k ≠ g → PtBox X k p → PtBox Y k p) ∧ (∀ k p q, k ≠ g → k + 1 ≠ g → ZzBox X k p q → ZzBox Y k p q) ∧ (∀ k s, k ≠ g → SgBox X k s → SgBox Y k s) ∧ (∀ p q, ZzBox X g p q → ZzBox Y g u q) ∧ (∀ k p q, k + 1 = g → ZzBox X k p q → ZzBox Y k p u) :=
  ⟨_, rfl, (hk.setCell (p := ⟨g, 0, none⟩) hg _).setCell (p := ⟨g, 1, none⟩) hg _, fun _ _ hn h => (h.other hn).other hn, fun _ _ _ h1 h2 h => (h.other h1 h2).other h1 h2, fun _ _ hn h => (h.other hn).other hn, fun _ _ h => h.put1 _ _, fun k p q e h => by subst e; exact h.put2 _ _⟩
/-- The variables made, two points of no value. -/
theorem alloc_zz (w : World) : ∃ w0 g, (w.alloc (.cells #[.int .i64 0, .int .i64 0] 25)).alloc (.cells #[.int .i64 0, .int .i64 0] 25) = w0 ∧ w.heap.size = g ∧ w0.heap.size = g + 2 ∧ Kept w w0 ∧ ZzBox w0 g (0, 0) (0, 0) := by
  have h1 := heap_alloc_new w (.cells #[.int .i64 0, .int .i64 0] 25)
  have h2 := heap_alloc_new (w.alloc (.cells #[.int .i64 0, .int .i64 0] 25)) (.cells #[.int .i64 0, .int .i64 0] 25)
  refine ⟨_, _, rfl, rfl, by simp, ((Kept.refl w).alloc _).alloc _, ⟨⟨by simp [go_sem], by simp [go_sem]⟩, ⟨by simp [go_sem], by simp [go_sem]⟩, fun o => ?_, fun o => ?_⟩⟩
  · exact (((Kept.refl (w.alloc (.cells #[.int .i64 0, .int .i64 0] 25))).alloc (.cells #[.int .i64 0, .int .i64 0] 25)).cells.2 _ o (by simp)).trans (frozen_of_row _ _ _ _ _ h1)
  · exact frozen_of_row _ _ _ _ _ (by simpa using h2)
theorem endsF_cases (s : Sg) : (0 < cmpP s.1 s.2 ∧ endsF s = (s.2, s.1)) ∨ (¬ 0 < cmpP s.1 s.2 ∧ endsF s = s) := by
  unfold endsF
  by_cases h : ltP s.2 s.1
  · exact .inl ⟨(cmpP_gt _ _).2 h, by rw [if_pos h]⟩
  · exact .inr ⟨fun k => h ((cmpP_gt _ _).1 k), by rw [if_neg h]⟩
set_option maxHeartbeats 400000 in
theorem ends_any (s : Sg) (w : World) : Calls Tryz.prog 70 #[sgV s] w (Gives (.tuple #[ptV (endsF s).1, ptV (endsF s).2]) w) := by
  have HC := Lib.hid (endsF_cases s)
  obtain ⟨w0, g0, e0, hg0, hz0, hk0, hb0⟩ := alloc_sg w s
  obtain ⟨w1, g1, e1, hg1, hz1, hk1, hb1⟩ := alloc_zz w0
  have HG : Hid (w.heap.size < g1) := Lib.hid (by omega)
  obtain rfl : g0 + 1 = g1 := by omega
  have HK0 := Lib.hid (hk0.trans hk1)
  have HB0_0 := Lib.hid (hb0.kept hk1)
  have HB1_0 := Lib.hid hb1
  clear hk0 hb0 hk1 hb1
  obtain ⟨q00, q01, q02, q03⟩ := HB0_0.out
  go_enter Tryz.func70, Tryz.ntmps70
  go_wp2_with fail
  clear q00 q01 q02 q03 e0 e1
  refine (order_any s.1 s.2 _).mono ?_
  rintro e x1 ⟨rfl, hk⟩
  have HB0 := Lib.hid (HB0_0.out.kept hk)
  have HB1 := Lib.hid (HB1_0.out.kept hk)
  have HK1 := Lib.hid (Kept.trans HK0.out hk)
  clear hk
  have f1 := HB1.out.fa 0
  have f2 := HB1.out.fa 1
  have f3 := HB1.out.fb 0
  have f4 := HB1.out.fb 1
  obtain ⟨q00, q01, q02, q03⟩ := HB0.out
  obtain ⟨⟨q10, q11⟩, ⟨q12, q13⟩, -, -⟩ := HB1.out
  have hput : ∀ a b c d : Int, ZzBox ((((((x1.setCell ⟨g0 + 1, 0, none⟩ (.int .i64 a)).setCell ⟨g0 + 1, 1, none⟩ (.int .i64 b)).setCell ⟨g0 + 1 + 1, 0, none⟩ (.int .i64 c)).setCell ⟨g0 + 1 + 1, 1, none⟩ (.int .i64 d))).drew) (g0 + 1) (a, b) (c, d) ∧ Kept w (((((x1.setCell ⟨g0 + 1, 0, none⟩ (.int .i64 a)).setCell ⟨g0 + 1, 1, none⟩ (.int .i64 b)).setCell ⟨g0 + 1 + 1, 0, none⟩ (.int .i64 c)).setCell ⟨g0 + 1 + 1, 1, none⟩ (.int .i64 d))).drew := fun a b c d =>
    ⟨(HB1.out.put a b c d).kept (Kept.refl _).drew, ((((HK1.out.setCell (p := ⟨g0 + 1, 0, none⟩) (Nat.le_of_lt HG.out) _).setCell (p := ⟨g0 + 1, 1, none⟩) (Nat.le_of_lt HG.out) _).setCell (p := ⟨g0 + 1 + 1, 0, none⟩) (Nat.le_succ_of_le (Nat.le_of_lt HG.out)) _).setCell (p := ⟨g0 + 1 + 1, 1, none⟩) (Nat.le_succ_of_le (Nat.le_of_lt HG.out)) _).drew⟩
  have HPUT := Lib.hid hput
  clear hput
  rcases HC.out with ⟨hc, he⟩ | ⟨hc, he⟩
  all_goals
    have HE := Lib.hid he
    clear he
    go_wp2
    go_region_with (fail)
    all_goals go_wp2
    all_goals
      refine bodyPost_ret (results_cell2 rfl _ _ ⟨g0 + 1, 0, none⟩ ⟨g0 + 1 + 1, 0, none⟩ rfl rfl _ _ (load25 (HPUT.out _ _ _ _).1.a) (load25 (HPUT.out _ _ _ _).1.b)) rfl ?_
      exact ⟨by rw [HE.out], (HPUT.out _ _ _ _).2⟩

/-- Two variables made, and two points put into them. -/
theorem two_pts (X : World) (p q : Pt) : ∃ w2 w3 g, (X.alloc (.cells #[.int .i64 0, .int .i64 0] 25)).alloc (.cells #[.int .i64 0, .int .i64 0] 25) = w2 ∧
    (((w2.setCell ⟨g, 0, none⟩ (.int .i64 p.1)).setCell ⟨g, 1, none⟩ (.int .i64 p.2)).setCell ⟨g + 1, 0, none⟩ (.int .i64 q.1)).setCell ⟨g + 1, 1, none⟩ (.int .i64 q.2) = w3 ∧ X.heap.size = g ∧ ZzBox w2 g (0, 0) (0, 0) ∧
    (w2.frozen? ⟨g, 0, none⟩ = false ∧ w2.frozen? ⟨g, 1, none⟩ = false ∧ w2.frozen? ⟨g + 1, 0, none⟩ = false ∧ w2.frozen? ⟨g + 1, 1, none⟩ = false) ∧ Kept X w3 ∧ ZzBox w3 g p q ∧ w3.heap.size = g + 2 := by
  obtain ⟨w2, g, e2, hg, hz, hk, hb⟩ := alloc_zz X
  refine ⟨w2, _, g, e2, rfl, hg, hb, ⟨hb.fa _, hb.fa _, hb.fb _, hb.fb _⟩, ?_, hb.put _ _ _ _, by simp [hz]⟩
  exact (((hk.setCell (p := ⟨g, 0, none⟩) (Nat.le_of_eq hg) _).setCell (p := ⟨g, 1, none⟩) (Nat.le_of_eq hg) _).setCell (p := ⟨g + 1, 0, none⟩) (by simp; omega) _).setCell (p := ⟨g + 1, 1, none⟩) (by simp; omega) _
/-- plane.between. -/
def btwB (p : Pt) (s : Sg) : Bool := decide (cmpP (endsF s).1 p ≤ 0) && decide (cmpP p (endsF s).2 ≤ 0)
set_option maxHeartbeats 400000 in
theorem between_any (p : Pt) (s : Sg) (w : World) : Calls Tryz.prog 91 #[ptV p, sgV s] w (Gives (.bool (btwB p s)) w) := by
  obtain ⟨r, hr⟩ : ∃ r, btwB p s = r := ⟨_, rfl⟩
  rw [hr]
  unfold btwB at hr
  obtain ⟨x, hx⟩ : ∃ x, cmpP (endsF s).1 p = x := ⟨_, rfl⟩
  obtain ⟨y, hy⟩ : ∃ y, cmpP p (endsF s).2 = y := ⟨_, rfl⟩
  rw [hx, hy] at hr
  have Hx := Lib.hid hx
  have Hy := Lib.hid hy
  have HR := Lib.hid hr
  clear hx hy hr
  obtain ⟨w0, g0, e0, hg0, hz0, hk0, hb0⟩ := alloc_pt w p
  obtain ⟨w1, g1, e1, hg1, hz1, hk1, hb1⟩ := alloc_sg w0 s
  obtain rfl : g0 + 1 = g1 := by omega
  have HK0 := Lib.hid (hk0.trans hk1)
  have HB0 := Lib.hid (hb0.kept hk1)
  obtain ⟨q0, q1, q2, q3⟩ := hb1
  clear hk0 hb0 hk1
  go_enter Tryz.func91, Tryz.ntmps91
  go_wp2_with fail
  clear q0 q1 q2 q3 e0 e1
  refine (ends_any s _).mono ?_
  rintro e x1 ⟨rfl, hk⟩
  obtain ⟨w2, w3, g, e2, e3, hg, hb2, hf2, hk3, hb3, hz3⟩ := two_pts x1 (endsF s).1 (endsF s).2
  have HK1 := Lib.hid ((HK0.out.trans hk).trans hk3)
  have HB1 := Lib.hid ((HB0.out.kept hk).kept hk3)
  have HB3 := Lib.hid hb3
  obtain ⟨⟨p0, p1⟩, ⟨p2, p3⟩, -, -⟩ := hb2
  obtain ⟨f0, f1, f2, f3⟩ := hf2
  obtain ⟨⟨q0, q1⟩, ⟨q2, q3⟩, -, -⟩ := hb3
  obtain ⟨q4, q5⟩ := HB1.out
  clear hk hk3
  generalize endsF s = E at *
  go_wp2_with fail
  clear q0 q1 q2 q3 q4 q5 e2 e3 p0 p1 p2 p3 f0 f1 f2 f3
  refine (order_any E.1 p _).mono ?_
  rintro e x2 ⟨rfl, hk⟩
  have HB4 := Lib.hid (HB3.out.kept hk)
  have HB5 := Lib.hid (HB1.out.kept hk)
  have HK2 := Lib.hid (HK1.out.trans hk)
  clear hk
  rw [Hx.out]
  obtain ⟨⟨q0, q1⟩, ⟨q2, q3⟩, -, -⟩ := HB4.out
  obtain ⟨q4, q5⟩ := HB5.out
  by_cases c : x ≤ 0
  · go_wp2_with fail
    clear q0 q1 q2 q3 q4 q5
    refine (order_any p E.2 _).mono ?_
    rintro e x3 ⟨rfl, hk⟩
    have HK3 := Lib.hid (HK2.out.trans hk)
    clear hk
    rw [Hy.out]
    go_wp2
    go_ret
    exact ⟨ret_bool (by rw [← HR.out]; simp [c]), HK3.out⟩
  · go_wp2
    go_ret
    exact ⟨ret_bool (by rw [← HR.out]; simp; omega), HK2.out⟩
end Go.Proofs.YtlglfcdobbocnaaGreat
