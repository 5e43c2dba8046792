/- plane.Meet; faces.far, meet, rightSeg, partOf; plane.edge. -/
import Derived.Test.YtlglfcdobbocnaaGreatWe
set_option maxRecDepth 100000
namespace Go.Proofs.YtlglfcdobbocnaaGreat
open Go Go.Proofs Go.RowKit
attribute [local go_sem] Oper.semAt_some
def farI (a b c d : Int) : Bool := decide (max a b < min c d) || decide (max c d < min a b)
set_option maxHeartbeats 400000 in
theorem far1_any (a b c d : Int) (w : World) : Calls Tryz.prog 78 #[.int .i64 a, .int .i64 b, .int .i64 c, .int .i64 d] w (Tells (.bool (farI a b c d)) w) := by
  obtain ⟨p, hp⟩ : ∃ p, max a b = p := ⟨_, rfl⟩
  obtain ⟨q, hq⟩ : ∃ q, min c d = q := ⟨_, rfl⟩
  obtain ⟨x, hx⟩ : ∃ x, max c d = x := ⟨_, rfl⟩
  obtain ⟨y, hy⟩ : ∃ y, min a b = y := ⟨_, rfl⟩
  have HR : Hid (farI a b c d = (decide (p < q) || decide (x < y))) := Lib.hid (by unfold farI; rw [hp, hq, hx, hy])
  obtain ⟨r, hr⟩ : ∃ r, farI a b c d = r := ⟨_, rfl⟩
  rw [hr] at HR ⊢
  clear hr
  by_cases h : p < q
  all_goals
    go_enter Tryz.func78, Tryz.ntmps78
    go_wp2
    all_goals (go_ret; exact ⟨ret_bool (by rw [HR.out, Bool.eq_iff_iff]; simp; omega), rfl⟩)
theorem farB_eq (s t : Sg) : farB s t = (farI s.1.1 s.2.1 t.1.1 t.2.1 || farI s.1.2 s.2.2 t.1.2 t.2.2) := rfl
set_option maxHeartbeats 400000 in
theorem far_any (s t : Sg) (w : World) : Calls Tryz.prog 45 #[sgV s, sgV t] w (Gives (.bool (farB s t)) w) := by
  obtain ⟨r, hr⟩ : ∃ r, farB s t = r := ⟨_, rfl⟩
  rw [hr]
  rw [farB_eq] at hr
  obtain ⟨x, hx⟩ : ∃ x, farI s.1.1 s.2.1 t.1.1 t.2.1 = x := ⟨_, rfl⟩
  obtain ⟨y, hy⟩ : ∃ y, farI s.1.2 s.2.2 t.1.2 t.2.2 = y := ⟨_, rfl⟩
  rw [hx, hy] at hr
  have Hx := Lib.hid hx
  have Hy := Lib.hid hy
  have HR := Lib.hid hr
  clear hx hy hr
  obtain ⟨w0, g0, e0, hg0, hz0, hk0, hb0⟩ := alloc_sg w s
  obtain ⟨w1, g1, e1, hg1, hz1, hk1, hb1⟩ := alloc_sg w0 t
  obtain rfl : g0 + 1 = g1 := by omega
  have HK0 := Lib.hid (hk0.trans hk1)
  obtain ⟨q00, q01, q02, q03⟩ := hb0.kept hk1
  obtain ⟨q10, q11, q12, q13⟩ := hb1
  clear hk0 hk1 hb0
  go_enter Tryz.func45, Tryz.ntmps45
  go_wp2_with fail
  refine (far1_any _ _ _ _ _).mono ?_
  rintro e x1 ⟨rfl, rfl⟩
  rw [Hx.out]
  cases x
  · go_wp2_with fail
    refine (far1_any _ _ _ _ _).mono ?_
    rintro e x1 ⟨rfl, rfl⟩
    rw [Hy.out]
    go_wp2
    go_ret
    exact ⟨ret_bool (by rw [← HR.out]; rfl), HK0.out⟩
  · go_wp2
    go_ret
    exact ⟨ret_bool (by rw [← HR.out]; rfl), HK0.out⟩
set_option maxHeartbeats 400000 in
theorem Meet_any (s t : Sg) (w : World) : Calls Tryz.prog 46 #[sgV s, sgV t] w (Gives (.int .u8 (MeetF s t)) w) := by
  obtain ⟨r, hr⟩ : ∃ r, MeetF s t = r := ⟨_, rfl⟩
  rw [hr]
  unfold MeetF at hr
  obtain ⟨x, hx⟩ : ∃ x, okS s = x := ⟨_, rfl⟩
  obtain ⟨y, hy⟩ : ∃ y, okS t = y := ⟨_, rfl⟩
  rw [hx, hy] at hr
  have Hx := Lib.hid hx
  have Hy := Lib.hid hy
  have HR := Lib.hid hr
  clear hx hy hr
  obtain ⟨w0, g0, e0, hg0, hz0, hk0, hb0⟩ := alloc_sg w s
  obtain ⟨w1, g1, e1, hg1, hz1, hk1, hb1⟩ := alloc_sg w0 t
  obtain rfl : g0 + 1 = g1 := by omega
  have HK0 := Lib.hid ((hk0.trans hk1))
  have HB0_0 := Lib.hid (hb0.kept hk1)
  have HB1_0 := Lib.hid hb1
  clear hk0 hb0 hk1 hb1
  obtain ⟨q00, q01, q02, q03⟩ := HB0_0.out
  obtain ⟨q10, q11, q12, q13⟩ := HB1_0.out
  go_enter Tryz.func46, Tryz.ntmps46
  go_wp2_with fail
  clear q00 q01 q02 q03 q10 q11 q12 q13
  clear e0 e1
  refine (rightSeg_any s _).mono ?_
  rintro e x1 ⟨rfl, hk⟩
  have HB0_1 := Lib.hid (HB0_0.out.kept hk)
  have HB1_1 := Lib.hid (HB1_0.out.kept hk)
  have HK1 := Lib.hid (Kept.trans HK0.out hk)
  clear hk
  rw [Hx.out]
  obtain ⟨q00, q01, q02, q03⟩ := HB0_1.out
  obtain ⟨q10, q11, q12, q13⟩ := HB1_1.out
  cases x
  ·
    go_wp2
    all_goals (go_ret; exact ⟨ret_int (by rw [← HR.out]; rfl), HK1.out⟩)
  ·
    go_wp2_with fail
    clear q00 q01 q02 q03 q10 q11 q12 q13
    refine (rightSeg_any t _).mono ?_
    rintro e x2 ⟨rfl, hk⟩
    have HB0_2 := Lib.hid (HB0_1.out.kept hk)
    have HB1_2 := Lib.hid (HB1_1.out.kept hk)
    have HK2 := Lib.hid (Kept.trans HK1.out hk)
    clear hk
    rw [Hy.out]
    obtain ⟨q00, q01, q02, q03⟩ := HB0_2.out
    obtain ⟨q10, q11, q12, q13⟩ := HB1_2.out
    cases y
    ·
      go_wp2
      all_goals (go_ret; exact ⟨ret_int (by rw [← HR.out]; rfl), HK2.out⟩)
    ·
      go_wp2_with fail
      clear q00 q01 q02 q03 q10 q11 q12 q13
      refine (meet_any s t _ (okS_sm Hx.out).1 (okS_sm Hx.out).2 (okS_sm Hy.out).1 (okS_sm Hy.out).2).mono ?_
      rintro e x3 ⟨rfl, hk⟩
      have HB0_3 := Lib.hid (HB0_2.out.kept hk)
      have HB1_3 := Lib.hid (HB1_2.out.kept hk)
      have HK3 := Lib.hid (Kept.trans HK2.out hk)
      clear hk
      obtain ⟨q00, q01, q02, q03⟩ := HB0_3.out
      obtain ⟨q10, q11, q12, q13⟩ := HB1_3.out
      go_wp2
      all_goals (go_ret; exact ⟨ret_int (by rw [← HR.out]; rfl), HK3.out⟩)
set_option maxHeartbeats 400000 in
theorem meetG_any (s t : Sg) (w : World) : Calls Tryz.prog 18 #[sgV s, sgV t] w (Gives (.int .u8 (meetG s t)) w) := by
  obtain ⟨r, hr⟩ : ∃ r, meetG s t = r := ⟨_, rfl⟩
  rw [hr]
  unfold meetG at hr
  obtain ⟨x, hx⟩ : ∃ x, farB s t = x := ⟨_, rfl⟩
  rw [hx] at hr
  have Hx := Lib.hid hx
  have HR := Lib.hid hr
  clear hx hr
  obtain ⟨w0, g0, e0, hg0, hz0, hk0, hb0⟩ := alloc_sg w s
  obtain ⟨w1, g1, e1, hg1, hz1, hk1, hb1⟩ := alloc_sg w0 t
  obtain rfl : g0 + 1 = g1 := by omega
  have HK0 := Lib.hid ((hk0.trans hk1))
  have HB0_0 := Lib.hid (hb0.kept hk1)
  have HB1_0 := Lib.hid hb1
  clear hk0 hb0 hk1 hb1
  obtain ⟨q00, q01, q02, q03⟩ := HB0_0.out
  obtain ⟨q10, q11, q12, q13⟩ := HB1_0.out
  go_enter Tryz.func18, Tryz.ntmps18
  go_wp2_with fail
  clear q00 q01 q02 q03 q10 q11 q12 q13
  clear e0 e1
  refine (far_any s t _).mono ?_
  rintro e x1 ⟨rfl, hk⟩
  have HB0_1 := Lib.hid (HB0_0.out.kept hk)
  have HB1_1 := Lib.hid (HB1_0.out.kept hk)
  have HK1 := Lib.hid (Kept.trans HK0.out hk)
  clear hk
  rw [Hx.out]
  obtain ⟨q00, q01, q02, q03⟩ := HB0_1.out
  obtain ⟨q10, q11, q12, q13⟩ := HB1_1.out
  cases x
  ·
    go_wp2_with fail
    clear q00 q01 q02 q03 q10 q11 q12 q13
    refine (Meet_any s t _).mono ?_
    rintro e x2 ⟨rfl, hk⟩
    have HB0_2 := Lib.hid (HB0_1.out.kept hk)
    have HB1_2 := Lib.hid (HB1_1.out.kept hk)
    have HK2 := Lib.hid (Kept.trans HK1.out hk)
    clear hk
    obtain ⟨q00, q01, q02, q03⟩ := HB0_2.out
    obtain ⟨q10, q11, q12, q13⟩ := HB1_2.out
    go_wp2
    all_goals (go_ret; exact ⟨ret_int (by rw [← HR.out]; rfl), HK2.out⟩)
  ·
    go_wp2
    all_goals (go_ret; exact ⟨ret_int (by rw [← HR.out]; rfl), HK1.out⟩)
theorem ckP_cases (p : Pt) : (okB p = true ∧ ckP p = 0) ∨ (okB p = false ∧ ckP p = 1) := by
  unfold ckP
  cases okB p
  · exact .inr ⟨rfl, rfl⟩
  · exact .inl ⟨rfl, rfl⟩
set_option maxHeartbeats 400000 in
theorem rightSegF_any (s : Sg) (w : World) : Calls Tryz.prog 16 #[sgV s] w (Gives (.bool (okS s)) w) := by
  obtain ⟨r, hr⟩ : ∃ r, okS s = r := ⟨_, rfl⟩
  rw [hr]
  rw [okS_eq] at hr
  have HR := Lib.hid hr
  clear hr
  have C1 := Lib.hid (ckP_cases s.1)
  have C2 := Lib.hid (ckP_cases s.2)
  obtain ⟨w0, g0, e0, hg0, hz0, hk0, hb0⟩ := alloc_sg w s
  have HK0 := Lib.hid (hk0)
  have HB0_0 := Lib.hid hb0
  clear hk0 hb0
  obtain ⟨q00, q01, q02, q03⟩ := HB0_0.out
  go_enter Tryz.func16, Tryz.ntmps16
  go_wp2_with fail
  clear q00 q01 q02 q03
  clear e0
  refine (checkPoint_any s.1 _).mono ?_
  rintro e x1 ⟨rfl, hk⟩
  have HB0_1 := Lib.hid (HB0_0.out.kept hk)
  have HK1 := Lib.hid (Kept.trans HK0.out hk)
  clear hk
  obtain ⟨q00, q01, q02, q03⟩ := HB0_1.out
  rcases C1.out with ⟨a, b⟩ | ⟨a, b⟩ <;> rw [b]
  ·
    have A := Lib.hid a
    clear a b
    go_wp2_with fail
    clear q00 q01 q02 q03
    refine (checkPoint_any s.2 _).mono ?_
    rintro e x2 ⟨rfl, hk⟩
    have HB0_2 := Lib.hid (HB0_1.out.kept hk)
    have HK2 := Lib.hid (Kept.trans HK1.out hk)
    clear hk
    obtain ⟨q00, q01, q02, q03⟩ := HB0_2.out
    rcases C2.out with ⟨a, b⟩ | ⟨a, b⟩ <;> rw [b]
    ·
      have B := Lib.hid a
      clear a b
      go_wp2
      all_goals (go_ret; exact ⟨ret_bool (by rw [← HR.out, A.out, B.out]; simp [Prod.ext_iff]; omega), HK2.out⟩)
    ·
      have B := Lib.hid a
      clear a b
      go_wp2
      all_goals (go_ret; exact ⟨ret_bool (by rw [← HR.out, A.out, B.out]; rfl), HK2.out⟩)
  ·
    have A := Lib.hid a
    clear a b
    go_wp2
    all_goals (go_ret; exact ⟨ret_bool (by rw [← HR.out, A.out]; rfl), HK1.out⟩)
end Go.Proofs.YtlglfcdobbocnaaGreat
