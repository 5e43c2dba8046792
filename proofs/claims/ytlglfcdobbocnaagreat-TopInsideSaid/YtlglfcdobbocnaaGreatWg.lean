/- faces.partOf; plane.edge. -/
import Derived.Test.YtlglfcdobbocnaaGreatWf
set_option maxRecDepth 100000
namespace Go.Proofs.YtlglfcdobbocnaaGreat
open Go Go.Proofs Go.RowKit
attribute [local go_sem] Oper.semAt_some
/-- A part of a figure: a segment from its lesser end to its greater one, its line, and where it comes from. -/
structure Prt where
  s : Sg
  line : Int
  src : Int
abbrev prtV (p : Prt) : Value := .agg #[.int .i64 p.s.1.1, .int .i64 p.s.1.2, .int .i64 p.s.2.1, .int .i64 p.s.2.2, .int .i64 p.line, .int .i64 p.src]
structure PrtBox (X : World) (g : Nat) (p : Prt) : Prop where
  c0 : X.cell? ⟨g, 0, none⟩ = some (.int .i64 p.s.1.1)
  c1 : X.cell? ⟨g, 1, none⟩ = some (.int .i64 p.s.1.2)
  c2 : X.cell? ⟨g, 2, none⟩ = some (.int .i64 p.s.2.1)
  c3 : X.cell? ⟨g, 3, none⟩ = some (.int .i64 p.s.2.2)
  c4 : X.cell? ⟨g, 4, none⟩ = some (.int .i64 p.line)
  c5 : X.cell? ⟨g, 5, none⟩ = some (.int .i64 p.src)
theorem PrtBox.kept {X Y : World} {g : Nat} {p : Prt} (h : PrtBox X g p) (hk : Kept X Y) : PrtBox Y g p := ⟨hk.cell h.c0, hk.cell h.c1, hk.cell h.c2, hk.cell h.c3, hk.cell h.c4, hk.cell h.c5⟩
theorem load50 {w : World} {k : Nat} {p : Prt} (h : PrtBox w k p) : (loadVar 50 ⟨k, 0, none⟩).run Tryz.prog w = .ok (prtV p) w := by
  simp [go_sem, h.c0, h.c1, h.c2, h.c3, h.c4, h.c5]
theorem PrtBox.put {X : World} {g : Nat} {p : Prt} (h : PrtBox X g p) (u : Prt) : PrtBox ((((((X.setCell ⟨g, 0, none⟩ (.int .i64 u.s.1.1)).setCell ⟨g, 1, none⟩ (.int .i64 u.s.1.2)).setCell ⟨g, 2, none⟩ (.int .i64 u.s.2.1)).setCell ⟨g, 3, none⟩ (.int .i64 u.s.2.2)).setCell ⟨g, 4, none⟩ (.int .i64 u.line)).setCell ⟨g, 5, none⟩ (.int .i64 u.src)) g u := by
  exact ⟨(cell_set_or (cell_set_or (cell_set_or (cell_set_or (cell_set_or (cell_set_or h.c0)))))).trans (by simp), (cell_set_or (cell_set_or (cell_set_or (cell_set_or (cell_set_or (cell_set_or h.c1)))))).trans (by simp), (cell_set_or (cell_set_or (cell_set_or (cell_set_or (cell_set_or (cell_set_or h.c2)))))).trans (by simp), (cell_set_or (cell_set_or (cell_set_or (cell_set_or (cell_set_or (cell_set_or h.c3)))))).trans (by simp), (cell_set_or (cell_set_or (cell_set_or (cell_set_or (cell_set_or (cell_set_or h.c4)))))).trans (by simp), (cell_set_or (cell_set_or (cell_set_or (cell_set_or (cell_set_or (cell_set_or h.c5)))))).trans (by simp)⟩
theorem PrtBox.other {X : World} {g k o : Nat} {p : Prt} {v : Value} (h : PrtBox X g p) (hn : g ≠ k) : PrtBox (X.setCell ⟨k, o, none⟩ v) g p :=
  ⟨cell_set_block h.c0 hn, cell_set_block h.c1 hn, cell_set_block h.c2 hn, cell_set_block h.c3 hn, cell_set_block h.c4 hn, cell_set_block h.c5 hn⟩
theorem SgBox.put {X : World} {g : Nat} {s : Sg} (h : SgBox X g s) (u : Sg) : SgBox ((((X.setCell ⟨g, 0, none⟩ (.int .i64 u.1.1)).setCell ⟨g, 1, none⟩ (.int .i64 u.1.2)).setCell ⟨g, 2, none⟩ (.int .i64 u.2.1)).setCell ⟨g, 3, none⟩ (.int .i64 u.2.2)) g u := by
  exact ⟨(cell_set_or (cell_set_or (cell_set_or (cell_set_or h.c0)))).trans (by simp), (cell_set_or (cell_set_or (cell_set_or (cell_set_or h.c1)))).trans (by simp), (cell_set_or (cell_set_or (cell_set_or (cell_set_or h.c2)))).trans (by simp), (cell_set_or (cell_set_or (cell_set_or (cell_set_or h.c3)))).trans (by simp)⟩
theorem frozen_alloc (w : World) (cs : Array Value) (t : TypeId) (o : Nat) : (w.alloc (.cells cs t)).frozen? ⟨w.heap.size, o, none⟩ = false := frozen_of_row _ _ _ _ _ (heap_alloc_new w _)
/-- faces.partOf. -/
def partF (s : Sg) (line src : Int) : Prt := ⟨endsF s, line, src⟩
set_option maxHeartbeats 1000000 in
theorem partOf_any (s : Sg) (line src : Int) (w : World) : Calls Tryz.prog 15 #[sgV s, .int .i64 line, .int .i64 src] w (Gives (prtV (partF s line src)) w) := by
  have HC := Lib.hid (endsF_cases s)
  obtain ⟨w0, g0, e0, hg0, hz0, hk0, hb0⟩ := alloc_sg w s
  have hf0 : ∀ o, w0.frozen? ⟨g0, o, none⟩ = false := fun o => by rw [← e0, ← hg0]; exact frozen_alloc _ _ _ o
  obtain ⟨w1, e1, hk1, hz1, hb1, hf1⟩ : ∃ w1, w0.alloc (.cells #[.int .i64 0, .int .i64 0, .int .i64 0, .int .i64 0, .int .i64 0, .int .i64 0] 50) = w1 ∧ Kept w0 w1 ∧ w1.heap.size = g0 + 2 ∧ PrtBox w1 (g0 + 1) ⟨((0, 0), (0, 0)), 0, 0⟩ ∧ (∀ o, w1.frozen? ⟨g0 + 1, o, none⟩ = false) :=
    ⟨_, rfl, (Kept.refl _).alloc _, by simp [hz0], by constructor <;> simp [go_sem, ← hz0], fun o => by rw [← hz0]; exact frozen_alloc _ _ _ o⟩
  have HG : Hid (w.heap.size ≤ g0) := Lib.hid (by omega)
  have HK0 := Lib.hid (hk0.trans hk1)
  have HB0_0 := Lib.hid (hb0.kept hk1)
  have HB1_0 := Lib.hid hb1
  have HF0 : Hid (∀ o, w1.frozen? ⟨g0, o, none⟩ = false) := Lib.hid fun o => (hk1.cells.2 g0 o (by omega)).trans (hf0 o)
  have HF1 := Lib.hid hf1
  clear hk0 hb0 hk1 hb1 hf0 hf1
  obtain ⟨q00, q01, q02, q03⟩ := HB0_0.out
  go_enter Tryz.func15, Tryz.ntmps15
  go_wp2_with fail
  clear q00 q01 q02 q03 e0 e1
  refine (comparePoints_any s.1 s.2 _).mono ?_
  rintro e x1 ⟨rfl, hk⟩
  have HB0 := Lib.hid (HB0_0.out.kept hk)
  have HB1 := Lib.hid (HB1_0.out.kept hk)
  have HF2 : Hid (∀ o, x1.frozen? ⟨g0, o, none⟩ = false) := Lib.hid fun o => (hk.cells.2 g0 o (by omega)).trans (HF0.out o)
  have HF3 : Hid (∀ o, x1.frozen? ⟨g0 + 1, o, none⟩ = false) := Lib.hid fun o => (hk.cells.2 (g0 + 1) o (by omega)).trans (HF1.out o)
  have HK1 := Lib.hid (Kept.trans HK0.out hk)
  clear hk
  have f0 := HF2.out
  have f1 := HF3.out
  obtain ⟨q00, q01, q02, q03⟩ := HB0.out
  obtain ⟨q10, q11, q12, q13, q14, q15⟩ := HB1.out
  have hput : ∀ (Y : World) (u : Prt), Kept w Y → PrtBox Y (g0 + 1) ⟨((0, 0), (0, 0)), 0, 0⟩ → PrtBox ((((((Y.setCell ⟨g0 + 1, 0, none⟩ (.int .i64 u.s.1.1)).setCell ⟨g0 + 1, 1, none⟩ (.int .i64 u.s.1.2)).setCell ⟨g0 + 1, 2, none⟩ (.int .i64 u.s.2.1)).setCell ⟨g0 + 1, 3, none⟩ (.int .i64 u.s.2.2)).setCell ⟨g0 + 1, 4, none⟩ (.int .i64 u.line)).setCell ⟨g0 + 1, 5, none⟩ (.int .i64 u.src)) (g0 + 1) u ∧ Kept w ((((((Y.setCell ⟨g0 + 1, 0, none⟩ (.int .i64 u.s.1.1)).setCell ⟨g0 + 1, 1, none⟩ (.int .i64 u.s.1.2)).setCell ⟨g0 + 1, 2, none⟩ (.int .i64 u.s.2.1)).setCell ⟨g0 + 1, 3, none⟩ (.int .i64 u.s.2.2)).setCell ⟨g0 + 1, 4, none⟩ (.int .i64 u.line)).setCell ⟨g0 + 1, 5, none⟩ (.int .i64 u.src)) := fun Y u hk hb => by
    have hg := HG.out
    exact ⟨hb.put u, (((((hk.setCell (p := ⟨g0 + 1, 0, none⟩) (Nat.le_succ_of_le hg) _).setCell (p := ⟨g0 + 1, 1, none⟩) (Nat.le_succ_of_le hg) _).setCell (p := ⟨g0 + 1, 2, none⟩) (Nat.le_succ_of_le hg) _).setCell (p := ⟨g0 + 1, 3, none⟩) (Nat.le_succ_of_le hg) _).setCell (p := ⟨g0 + 1, 4, none⟩) (Nat.le_succ_of_le hg) _).setCell (p := ⟨g0 + 1, 5, none⟩) (Nat.le_succ_of_le hg) _⟩
  have HPUT := Lib.hid hput
  clear hput
  rcases HC.out with ⟨hc, he⟩ | ⟨hc, he⟩
  · have HE := Lib.hid he
    clear he
    go_wp2
    have hs := HPUT.out _ ⟨(s.2, s.1), line, src⟩ ((((HK1.out.setCell (p := ⟨g0, 0, none⟩) HG.out (.int .i64 s.2.1)).setCell (p := ⟨g0, 1, none⟩) HG.out (.int .i64 s.2.2)).setCell (p := ⟨g0, 2, none⟩) HG.out (.int .i64 s.1.1)).setCell (p := ⟨g0, 3, none⟩) HG.out (.int .i64 s.1.2)) ((((HB1.out.other (by omega)).other (by omega)).other (by omega)).other (by omega))
    refine bodyPost_ret (results_cell rfl _ _ ⟨g0 + 1, 0, none⟩ rfl _ (load50 hs.1)) rfl ?_
    exact ⟨by unfold partF; rw [HE.out], hs.2⟩
  · have HE := Lib.hid he
    clear he
    go_wp2
    have hs := HPUT.out _ ⟨s, line, src⟩ HK1.out HB1.out
    refine bodyPost_ret (results_cell rfl _ _ ⟨g0 + 1, 0, none⟩ rfl _ (load50 hs.1)) rfl ?_
    exact ⟨by unfold partF; rw [HE.out], hs.2⟩
end Go.Proofs.YtlglfcdobbocnaaGreat
