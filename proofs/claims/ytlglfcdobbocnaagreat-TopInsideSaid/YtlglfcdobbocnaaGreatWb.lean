/- Variables that hold points and segments; plane's functions on them. -/
import Derived.Test.YtlglfcdobbocnaaGreatWa
set_option maxRecDepth 100000
namespace Go.Proofs.YtlglfcdobbocnaaGreat
open Go Go.Proofs Go.RowKit
attribute [local go_sem] Oper.semAt_some
/-- A variable holds a point, a segment. -/
structure PtBox (X : World) (g : Nat) (p : Pt) : Prop where
  c0 : X.cell? ⟨g, 0, none⟩ = some (.int .i64 p.1)
  c1 : X.cell? ⟨g, 1, none⟩ = some (.int .i64 p.2)
structure SgBox (X : World) (g : Nat) (s : Sg) : Prop where
  c0 : X.cell? ⟨g, 0, none⟩ = some (.int .i64 s.1.1)
  c1 : X.cell? ⟨g, 1, none⟩ = some (.int .i64 s.1.2)
  c2 : X.cell? ⟨g, 2, none⟩ = some (.int .i64 s.2.1)
  c3 : X.cell? ⟨g, 3, none⟩ = some (.int .i64 s.2.2)
theorem PtBox.kept {X Y : World} {g : Nat} {p : Pt} (h : PtBox X g p) (hk : Kept X Y) : PtBox Y g p := ⟨hk.cell h.c0, hk.cell h.c1⟩
theorem SgBox.kept {X Y : World} {g : Nat} {s : Sg} (h : SgBox X g s) (hk : Kept X Y) : SgBox Y g s := ⟨hk.cell h.c0, hk.cell h.c1, hk.cell h.c2, hk.cell h.c3⟩
theorem alloc_pt (w : World) (p : Pt) : ∃ w0 g, w.alloc (.cells #[.int .i64 p.1, .int .i64 p.2] 25) = w0 ∧ w.heap.size = g ∧ w0.heap.size = g + 1 ∧ Kept w w0 ∧ PtBox w0 g p :=
  ⟨_, _, rfl, rfl, by simp, (Kept.refl w).alloc _, by simp [go_sem], by simp [go_sem]⟩
theorem alloc_sg (w : World) (s : Sg) : ∃ w0 g, w.alloc (.cells #[.int .i64 s.1.1, .int .i64 s.1.2, .int .i64 s.2.1, .int .i64 s.2.2] 45) = w0 ∧ w.heap.size = g ∧ w0.heap.size = g + 1 ∧ Kept w w0 ∧ SgBox w0 g s :=
  ⟨_, _, rfl, rfl, by simp, (Kept.refl w).alloc _, by simp [go_sem], by simp [go_sem], by simp [go_sem], by simp [go_sem]⟩
theorem okS_eq (s : Sg) : okS s = (okB s.1 && okB s.2 && decide (s.1 ≠ s.2)) := rfl
/-- plane.CheckPoint. -/
def ckP (p : Pt) : Int := if okB p then 0 else 1
set_option maxHeartbeats 400000 in
theorem rightSeg_any (s : Sg) (w : World) : Calls Tryz.prog 40 #[sgV s] w (Gives (.bool (okS s)) w) := by
  obtain ⟨r, hr⟩ : ∃ r, okS s = r := ⟨_, rfl⟩
  rw [hr]
  rw [okS_eq] at hr
  obtain ⟨x, hx⟩ : ∃ x, okB s.1 = x := ⟨_, rfl⟩
  rw [hx] at hr
  have Hx := Lib.hid hx
  clear hx
  obtain ⟨y, hy⟩ : ∃ y, okB s.2 = y := ⟨_, rfl⟩
  rw [hy] at hr
  have Hy := Lib.hid hy
  clear hy
  have HR := Lib.hid hr
  clear hr
  obtain ⟨w0, g0, e0, hg0, hz0, hk0, hb0⟩ := alloc_sg w s
  have HK0 := Lib.hid (hk0)
  have HB0_0 := Lib.hid hb0
  clear hk0 hb0
  obtain ⟨q00, q01, q02, q03⟩ := HB0_0.out
  go_enter Tryz.func40, Tryz.ntmps40
  go_wp2_with fail
  clear q00 q01 q02 q03
  clear e0
  refine (right_any s.1 _).mono ?_
  rintro e x1 ⟨rfl, hk⟩
  have HB0_1 := Lib.hid (HB0_0.out.kept hk)
  have HK1 := Lib.hid (Kept.trans HK0.out hk)
  clear hk
  rw [Hx.out]
  obtain ⟨q00, q01, q02, q03⟩ := HB0_1.out
  cases x
  ·
    go_wp2
    all_goals (go_ret; exact ⟨ret_bool (by rw [← HR.out]; rfl), HK1.out⟩)
  ·
    go_wp2_with fail
    clear q00 q01 q02 q03
    refine (right_any s.2 _).mono ?_
    rintro e x2 ⟨rfl, hk⟩
    have HB0_2 := Lib.hid (HB0_1.out.kept hk)
    have HK2 := Lib.hid (Kept.trans HK1.out hk)
    clear hk
    rw [Hy.out]
    obtain ⟨q00, q01, q02, q03⟩ := HB0_2.out
    cases y
    ·
      go_wp2
      all_goals (go_ret; exact ⟨ret_bool (by rw [← HR.out]; rfl), HK2.out⟩)
    ·
      go_wp2
      all_goals (go_ret; exact ⟨ret_bool (by rw [← HR.out]; simp [Prod.ext_iff]; omega), HK2.out⟩)
set_option maxHeartbeats 400000 in
theorem checkPoint_any (p : Pt) (w : World) : Calls Tryz.prog 9 #[ptV p] w (Gives (.int .i64 (ckP p)) w) := by
  obtain ⟨r, hr⟩ : ∃ r, ckP p = r := ⟨_, rfl⟩
  rw [hr]
  unfold ckP at hr
  obtain ⟨x, hx⟩ : ∃ x, okB p = x := ⟨_, rfl⟩
  rw [hx] at hr
  have Hx := Lib.hid hx
  have HR := Lib.hid hr
  clear hx hr
  obtain ⟨w0, g0, e0, hg0, hz0, hk0, hb0⟩ := alloc_pt w p
  have HK0 := Lib.hid (hk0)
  have HB0_0 := Lib.hid hb0
  clear hk0 hb0
  obtain ⟨q00, q01⟩ := HB0_0.out
  go_enter Tryz.func9, Tryz.ntmps9
  go_wp2_with fail
  clear q00 q01
  clear e0
  refine (right_any p _).mono ?_
  rintro e x1 ⟨rfl, hk⟩
  have HB0_1 := Lib.hid (HB0_0.out.kept hk)
  have HK1 := Lib.hid (Kept.trans HK0.out hk)
  clear hk
  rw [Hx.out]
  obtain ⟨q00, q01⟩ := HB0_1.out
  cases x
  ·
    go_wp2
    all_goals (go_ret; exact ⟨ret_int (by rw [← HR.out]; rfl), HK1.out⟩)
  ·
    go_wp2
    all_goals (go_ret; exact ⟨ret_int (by rw [← HR.out]; rfl), HK1.out⟩)
end Go.Proofs.YtlglfcdobbocnaaGreat
