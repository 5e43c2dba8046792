/- plane.on, On, inside, rightAll, Turn, Meet; faces.far, meet, rightSeg. -/
import Derived.Test.YtlglfcdobbocnaaGreatWc
set_option maxRecDepth 100000
namespace Go.Proofs.YtlglfcdobbocnaaGreat
open Go Go.Proofs Go.RowKit
attribute [local go_sem] Oper.semAt_some
theorem onB_eq (p : Pt) (s : Sg) : onB p s = (decide (turnZ s.1 s.2 p = 0) && btwB p s) := by
  have e1 : cmpP (endsF s).1 p ≤ 0 ↔ ¬ ltP p (endsF s).1 := by rw [← cmpP_gt]; omega
  have e2 : cmpP p (endsF s).2 ≤ 0 ↔ ¬ ltP (endsF s).2 p := by rw [← cmpP_gt]; omega
  unfold onB btwB turnZ
  rw [Bool.eq_iff_iff, decide_eq_true_eq]
  unfold OnS
  simp only [decide_eq_true_eq, Bool.and_eq_true, cmpI_eq]
  rw [e1, e2]
theorem insideB_eq (p : Pt) (s : Sg) : insideB p s = (decide (p ≠ s.1) && decide (p ≠ s.2) && onB p s) := rfl
/-- plane.On. -/
def OnF (p : Pt) (s : Sg) : Bool := okB p && okS s && onB p s
theorem okS_sm {s : Sg} (h : okS s = true) : Sm s.1 ∧ Sm s.2 := by
  unfold okS at h
  simp only [Bool.and_eq_true] at h
  exact ⟨Sm.of_ok h.1.1, Sm.of_ok h.1.2⟩
set_option maxHeartbeats 400000 in
theorem on_any (p : Pt) (s : Sg) (w : World) (hp : Sm p) (h1 : Sm s.1) (h2 : Sm s.2) : Calls Tryz.prog 65 #[ptV p, sgV s] w (Gives (.bool (onB p s)) w) := by
  obtain ⟨r, hr⟩ : ∃ r, onB p s = r := ⟨_, rfl⟩
  rw [hr]
  rw [onB_eq] at hr
  obtain ⟨t, ht⟩ : ∃ t, turnZ s.1 s.2 p = t := ⟨_, rfl⟩
  obtain ⟨b, hb⟩ : ∃ b, btwB p s = b := ⟨_, rfl⟩
  rw [ht, hb] at hr
  have Ht := Lib.hid ht
  have Hb := Lib.hid hb
  have HR := Lib.hid hr
  clear ht hb hr
  have HP := Lib.hid hp
  have H1 := Lib.hid h1
  have H2 := Lib.hid h2
  clear hp h1 h2
  obtain ⟨w0, g0, e0, hg0, hz0, hk0, hb0⟩ := alloc_pt w p
  obtain ⟨w1, g1, e1, hg1, hz1, hk1, hb1⟩ := alloc_sg w0 s
  obtain rfl : g0 + 1 = g1 := by omega
  have HK0 := Lib.hid ((hk0.trans hk1))
  have HB0_0 := Lib.hid (hb0.kept hk1)
  have HB1_0 := Lib.hid hb1
  clear hk0 hb0 hk1 hb1
  obtain ⟨q00, q01⟩ := HB0_0.out
  obtain ⟨q10, q11, q12, q13⟩ := HB1_0.out
  go_enter Tryz.func65, Tryz.ntmps65
  go_wp2_with fail
  clear q00 q01 q10 q11 q12 q13
  clear e0 e1
  refine (turn_any s.1 s.2 p _ H1.out H2.out HP.out).mono ?_
  rintro e x1 ⟨rfl, hk⟩
  have HB0_1 := Lib.hid (HB0_0.out.kept hk)
  have HB1_1 := Lib.hid (HB1_0.out.kept hk)
  have HK1 := Lib.hid (Kept.trans HK0.out hk)
  clear hk
  rw [Ht.out]
  obtain ⟨q00, q01⟩ := HB0_1.out
  obtain ⟨q10, q11, q12, q13⟩ := HB1_1.out
  by_cases c : t = 0
  ·
    subst c
    go_wp2_with fail
    clear q00 q01 q10 q11 q12 q13
    refine (between_any p s _).mono ?_
    rintro e x2 ⟨rfl, hk⟩
    have HB0_2 := Lib.hid (HB0_1.out.kept hk)
    have HB1_2 := Lib.hid (HB1_1.out.kept hk)
    have HK2 := Lib.hid (Kept.trans HK1.out hk)
    clear hk
    rw [Hb.out]
    obtain ⟨q00, q01⟩ := HB0_2.out
    obtain ⟨q10, q11, q12, q13⟩ := HB1_2.out
    go_wp2
    all_goals (go_ret; exact ⟨ret_bool (by rw [← HR.out]; simp), HK2.out⟩)
  ·
    have c1 : (t == 0) = false := by simp [c]
    go_wp2
    all_goals (go_ret; exact ⟨ret_bool (by rw [← HR.out]; simp [c]), HK1.out⟩)
set_option maxHeartbeats 400000 in
theorem On_any (p : Pt) (s : Sg) (w : World) : Calls Tryz.prog 47 #[ptV p, sgV s] w (Gives (.bool (OnF p s)) w) := by
  obtain ⟨r, hr⟩ : ∃ r, OnF p s = r := ⟨_, rfl⟩
  rw [hr]
  unfold OnF at hr
  obtain ⟨x, hx⟩ : ∃ x, okB p = x := ⟨_, rfl⟩
  rw [hx] at hr
  have Hx := Lib.hid hx
  clear hx
  obtain ⟨y, hy⟩ : ∃ y, okS s = y := ⟨_, rfl⟩
  rw [hy] at hr
  have Hy := Lib.hid hy
  clear hy
  obtain ⟨z, hz⟩ : ∃ z, onB p s = z := ⟨_, rfl⟩
  rw [hz] at hr
  have Hz := Lib.hid hz
  clear hz
  have HR := Lib.hid hr
  clear hr
  obtain ⟨w0, g0, e0, hg0, hz0, hk0, hb0⟩ := alloc_pt w p
  obtain ⟨w1, g1, e1, hg1, hz1, hk1, hb1⟩ := alloc_sg w0 s
  obtain rfl : g0 + 1 = g1 := by omega
  have HK0 := Lib.hid ((hk0.trans hk1))
  have HB0_0 := Lib.hid (hb0.kept hk1)
  have HB1_0 := Lib.hid hb1
  clear hk0 hb0 hk1 hb1
  obtain ⟨q00, q01⟩ := HB0_0.out
  obtain ⟨q10, q11, q12, q13⟩ := HB1_0.out
  go_enter Tryz.func47, Tryz.ntmps47
  go_wp2_with fail
  clear q00 q01 q10 q11 q12 q13
  clear e0 e1
  refine (right_any p _).mono ?_
  rintro e x1 ⟨rfl, hk⟩
  have HB0_1 := Lib.hid (HB0_0.out.kept hk)
  have HB1_1 := Lib.hid (HB1_0.out.kept hk)
  have HK1 := Lib.hid (Kept.trans HK0.out hk)
  clear hk
  rw [Hx.out]
  obtain ⟨q00, q01⟩ := HB0_1.out
  obtain ⟨q10, q11, q12, q13⟩ := HB1_1.out
  cases x
  ·
    go_wp2
    all_goals (go_ret; exact ⟨ret_bool (by rw [← HR.out]; rfl), HK1.out⟩)
  ·
    go_wp2_with fail
    clear q00 q01 q10 q11 q12 q13
    refine (rightSeg_any s _).mono ?_
    rintro e x2 ⟨rfl, hk⟩
    have HB0_2 := Lib.hid (HB0_1.out.kept hk)
    have HB1_2 := Lib.hid (HB1_1.out.kept hk)
    have HK2 := Lib.hid (Kept.trans HK1.out hk)
    clear hk
    rw [Hy.out]
    obtain ⟨q00, q01⟩ := HB0_2.out
    obtain ⟨q10, q11, q12, q13⟩ := HB1_2.out
    cases y
    ·
      go_wp2
      all_goals (go_ret; exact ⟨ret_bool (by rw [← HR.out]; rfl), HK2.out⟩)
    ·
      go_wp2_with fail
      clear q00 q01 q10 q11 q12 q13
      refine (on_any p s _ (Sm.of_ok Hx.out) (okS_sm Hy.out).1 (okS_sm Hy.out).2).mono ?_
      rintro e x3 ⟨rfl, hk⟩
      have HB0_3 := Lib.hid (HB0_2.out.kept hk)
      have HB1_3 := Lib.hid (HB1_2.out.kept hk)
      have HK3 := Lib.hid (Kept.trans HK2.out hk)
      clear hk
      rw [Hz.out]
      obtain ⟨q00, q01⟩ := HB0_3.out
      obtain ⟨q10, q11, q12, q13⟩ := HB1_3.out
      go_wp2
      all_goals (go_ret; exact ⟨ret_bool (by rw [← HR.out]; rfl), HK3.out⟩)
set_option maxHeartbeats 1000000 in
theorem inside_any (p : Pt) (s : Sg) (w : World) (hp : Sm p) (h1 : Sm s.1) (h2 : Sm s.2) : Calls Tryz.prog 41 #[ptV p, sgV s] w (Gives (.bool (insideB p s)) w) := by
  obtain ⟨r, hr⟩ : ∃ r, insideB p s = r := ⟨_, rfl⟩
  rw [hr]
  rw [insideB_eq] at hr
  obtain ⟨z, hz⟩ : ∃ z, onB p s = z := ⟨_, rfl⟩
  rw [hz] at hr
  have Hz := Lib.hid hz
  have HR := Lib.hid hr
  clear hz hr
  have HP := Lib.hid hp
  have H1 := Lib.hid h1
  have H2 := Lib.hid h2
  clear hp h1 h2
  have HF : Hid ((p.1 = s.1.1 ∧ p.2 = s.1.2 ∨ p.1 = s.2.1 ∧ p.2 = s.2.2) → r = false) := Lib.hid fun h => by rw [← HR.out]; rcases h with h | h <;> simp [Prod.ext_iff, h.1, h.2]
  have HT : Hid (¬ (p.1 = s.1.1 ∧ p.2 = s.1.2 ∨ p.1 = s.2.1 ∧ p.2 = s.2.2) → r = z) := Lib.hid fun h => by rw [← HR.out, decide_eq_true (show p ≠ s.1 from fun k => h (.inl (by rw [k]; exact ⟨rfl, rfl⟩))), decide_eq_true (show p ≠ s.2 from fun k => h (.inr (by rw [k]; exact ⟨rfl, rfl⟩)))]; rfl
  clear HR
  obtain ⟨a1, a2⟩ := p
  obtain ⟨⟨b1, b2⟩, ⟨c1, c2⟩⟩ := s
  obtain ⟨w0, g0, e0, hg0, hz0, hk0, hb0⟩ := alloc_pt w (a1, a2)
  obtain ⟨w1, g1, e1, hg1, hz1, hk1, hb1⟩ := alloc_sg w0 ((b1, b2), (c1, c2))
  obtain rfl : g0 + 1 = g1 := by omega
  have HK0 := Lib.hid ((hk0.trans hk1))
  have HB0_0 := Lib.hid (hb0.kept hk1)
  have HB1_0 := Lib.hid hb1
  clear hk0 hb0 hk1 hb1
  obtain ⟨q00, q01⟩ := HB0_0.out
  obtain ⟨q10, q11, q12, q13⟩ := HB1_0.out
  go_enter Tryz.func41, Tryz.ntmps41
  by_cases da1b1 : a1 = b1
  ·
    subst da1b1
    by_cases fa1b1 : a2 = b2
    ·
      subst fa1b1
      go_wp2
      go_ret
      exact ⟨ret_bool (HF.out (by simp)).symm, HK0.out⟩
    ·
      by_cases da1c1 : a1 = c1
      ·
        subst da1c1
        by_cases fa1c1 : a2 = c2
        ·
          subst fa1c1
          go_wp2
          go_ret
          exact ⟨ret_bool (HF.out (by simp)).symm, HK0.out⟩
        ·
          go_wp2_with fail
          refine (on_any (_, _) ((_, _), (_, _)) _ HP.out H1.out H2.out).mono ?_
          rintro e x1 ⟨rfl, hk⟩
          have HK1 := Lib.hid (HK0.out.trans hk)
          clear hk e0 e1
          rw [Hz.out]
          go_wp2
          go_ret
          exact ⟨ret_bool (HT.out (by simp <;> omega)).symm, HK1.out⟩
      ·
        go_wp2_with fail
        refine (on_any (_, _) ((_, _), (_, _)) _ HP.out H1.out H2.out).mono ?_
        rintro e x1 ⟨rfl, hk⟩
        have HK1 := Lib.hid (HK0.out.trans hk)
        clear hk e0 e1
        rw [Hz.out]
        go_wp2
        go_ret
        exact ⟨ret_bool (HT.out (by simp <;> omega)).symm, HK1.out⟩
  ·
    by_cases da1c1 : a1 = c1
    ·
      subst da1c1
      by_cases fa1c1 : a2 = c2
      ·
        subst fa1c1
        go_wp2
        go_ret
        exact ⟨ret_bool (HF.out (by simp)).symm, HK0.out⟩
      ·
        go_wp2_with fail
        refine (on_any (_, _) ((_, _), (_, _)) _ HP.out H1.out H2.out).mono ?_
        rintro e x1 ⟨rfl, hk⟩
        have HK1 := Lib.hid (HK0.out.trans hk)
        clear hk e0 e1
        rw [Hz.out]
        go_wp2
        go_ret
        exact ⟨ret_bool (HT.out (by simp <;> omega)).symm, HK1.out⟩
    ·
      go_wp2_with fail
      refine (on_any (_, _) ((_, _), (_, _)) _ HP.out H1.out H2.out).mono ?_
      rintro e x1 ⟨rfl, hk⟩
      have HK1 := Lib.hid (HK0.out.trans hk)
      clear hk e0 e1
      rw [Hz.out]
      go_wp2
      go_ret
      exact ⟨ret_bool (HT.out (by simp <;> omega)).symm, HK1.out⟩
end Go.Proofs.YtlglfcdobbocnaaGreat
