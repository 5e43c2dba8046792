/- plane.meet. -/
import Derived.Test.YtlglfcdobbocnaaGreatWd
set_option maxRecDepth 100000
namespace Go.Proofs.YtlglfcdobbocnaaGreat
open Go Go.Proofs Go.RowKit
attribute [local go_sem] Oper.semAt_some
theorem turnZ_cases (a b c : Pt) : (cr a b c < 0 ∧ turnZ a b c = -1) ∨ (cr a b c = 0 ∧ turnZ a b c = 0) ∨ (0 < cr a b c ∧ turnZ a b c = 1) := by
  unfold turnZ
  rcases cmpI_cases (cr a b c) 0 with h | h | h
  · exact .inl h
  · exact .inr (.inl h)
  · exact .inr (.inr h)
@[go_sem] theorem idx105_0 (X : World) : (Instr.index 105 (.agg #[.int .u8 4, .int .u8 1, .int .u8 0]) (.int .i64 0)).run Tryz.prog X = .ok (.int .u8 4) X := by kernel_rfl
@[go_sem] theorem idx105_1 (X : World) : (Instr.index 105 (.agg #[.int .u8 4, .int .u8 1, .int .u8 0]) (.int .i64 1)).run Tryz.prog X = .ok (.int .u8 1) X := by kernel_rfl
@[go_sem] theorem idx105_2 (X : World) : (Instr.index 105 (.agg #[.int .u8 4, .int .u8 1, .int .u8 0]) (.int .i64 2)).run Tryz.prog X = .ok (.int .u8 0) X := by kernel_rfl
/-- How two segments meet, by the four turns. -/
theorem meet_turns (s t : Sg) (a b c d : Int) (ha : turnZ s.1 s.2 t.1 = a) (hb : turnZ s.1 s.2 t.2 = b) (hc : turnZ t.1 t.2 s.1 = c) (hd : turnZ t.1 t.2 s.2 = d) :
    ((a = 0 ∧ b = 0) ∧ meetF s t = (if ltP (lowP s t) (highP s t) then 4 else if lowP s t = highP s t then 1 else 0)) ∨
    (¬ (a = 0 ∧ b = 0) ∧ (0 < a * b ∨ 0 < c * d) ∧ meetF s t = 0) ∨
    (¬ (a = 0 ∧ b = 0) ∧ ¬ (0 < a * b ∨ 0 < c * d) ∧ (c = 0 ∨ d = 0) ∧ (a = 0 ∨ b = 0) ∧ meetF s t = 1) ∨
    (¬ (a = 0 ∧ b = 0) ∧ ¬ (0 < a * b ∨ 0 < c * d) ∧ (c = 0 ∨ d = 0) ∧ ¬ (a = 0 ∨ b = 0) ∧ meetF s t = 2) ∨
    (¬ (a = 0 ∧ b = 0) ∧ ¬ (0 < a * b ∨ 0 < c * d) ∧ ¬ (c = 0 ∨ d = 0) ∧ (a = 0 ∨ b = 0) ∧ meetF s t = 2) ∨
    (¬ (a = 0 ∧ b = 0) ∧ ¬ (0 < a * b ∨ 0 < c * d) ∧ ¬ (c = 0 ∨ d = 0) ∧ ¬ (a = 0 ∨ b = 0) ∧ meetF s t = 3) := by
  have A := turnZ_cases s.1 s.2 t.1
  have B := turnZ_cases s.1 s.2 t.2
  have C := turnZ_cases t.1 t.2 s.1
  have D := turnZ_cases t.1 t.2 s.2
  rw [ha] at A
  rw [hb] at B
  rw [hc] at C
  rw [hd] at D
  clear ha hb hc hd
  unfold meetF Same
  generalize (if ltP (lowP s t) (highP s t) then (4 : Int) else if lowP s t = highP s t then 1 else 0) = M
  generalize cr s.1 s.2 t.1 = p at *
  generalize cr s.1 s.2 t.2 = q at *
  generalize cr t.1 t.2 s.1 = x at *
  generalize cr t.1 t.2 s.2 = y at *
  rcases A with ⟨A, rfl⟩ | ⟨A, rfl⟩ | ⟨A, rfl⟩ <;> rcases B with ⟨B, rfl⟩ | ⟨B, rfl⟩ | ⟨B, rfl⟩ <;> rcases C with ⟨C, rfl⟩ | ⟨C, rfl⟩ | ⟨C, rfl⟩ <;> rcases D with ⟨D, rfl⟩ | ⟨D, rfl⟩ | ⟨D, rfl⟩ <;> simp <;> omega
set_option maxHeartbeats 2000000 in
theorem meet_any (s t : Sg) (w : World) (h1 : Sm s.1) (h2 : Sm s.2) (h3 : Sm t.1) (h4 : Sm t.2) : Calls Tryz.prog 31 #[sgV s, sgV t] w (Gives (.int .u8 (meetF s t)) w) := by
  have H1 := Lib.hid h1
  have H2 := Lib.hid h2
  have H3 := Lib.hid h3
  have H4 := Lib.hid h4
  clear h1 h2 h3 h4
  obtain ⟨a, ha⟩ : ∃ a, turnZ s.1 s.2 t.1 = a := ⟨_, rfl⟩
  obtain ⟨b, hb⟩ : ∃ b, turnZ s.1 s.2 t.2 = b := ⟨_, rfl⟩
  obtain ⟨c, hc⟩ : ∃ c, turnZ t.1 t.2 s.1 = c := ⟨_, rfl⟩
  obtain ⟨d, hd⟩ : ∃ d, turnZ t.1 t.2 s.2 = d := ⟨_, rfl⟩
  have HM := meet_turns s t a b c d ha hb hc hd
  have Ha := Lib.hid ha
  have Hb := Lib.hid hb
  have Hc := Lib.hid hc
  have Hd := Lib.hid hd
  have ra : -1 ≤ a ∧ a ≤ 1 := by rw [← ha]; have := turnZ_cases s.1 s.2 t.1; omega
  have rb : -1 ≤ b ∧ b ≤ 1 := by rw [← hb]; have := turnZ_cases s.1 s.2 t.2; omega
  have rc : -1 ≤ c ∧ c ≤ 1 := by rw [← hc]; have := turnZ_cases t.1 t.2 s.1; omega
  have rd : -1 ≤ d ∧ d ≤ 1 := by rw [← hd]; have := turnZ_cases t.1 t.2 s.2; omega
  clear ha hb hc hd
  obtain ⟨r, hr⟩ : ∃ r, meetF s t = r := ⟨_, rfl⟩
  rw [hr] at HM ⊢
  clear hr
  have HM := Lib.hid HM
  have HRA := Lib.hid ra
  have HRB := Lib.hid rb
  have HRC := Lib.hid rc
  have HRD := Lib.hid rd
  clear ra rb rc rd
  obtain ⟨w0, g0, e0, hg0, hz0, hk0, hb0⟩ := alloc_sg w s
  obtain ⟨w1, g1, e1, hg1, hz1, hk1, hb1⟩ := alloc_sg w0 t
  obtain rfl : g0 + 1 = g1 := by omega
  have HK0 := Lib.hid ((hk0.trans hk1))
  have HB0_0 := Lib.hid (hb0.kept hk1)
  have HB1_0 := Lib.hid hb1
  clear hk0 hb0 hk1 hb1
  obtain ⟨q00, q01, q02, q03⟩ := HB0_0.out
  obtain ⟨q10, q11, q12, q13⟩ := HB1_0.out
  go_enter Tryz.func31, Tryz.ntmps31
  go_wp2
  refine region_class (fun Z => Kept w1 Z) 14 (by kernel_rfl) (by kernel_rfl) (Kept.refl _).drew ?_
  simp only [List.take_succ_cons, List.take_zero, List.drop_succ_cons, List.drop_zero]
  refine wpQuiet_yield (.pointer (some ⟨g0, 0, none⟩)) (by rfl) (fun Z hZ => ?_) ?_
  ·
    go_simp
  simp only [Act.put, List.setIfInBounds_toArray, List.set_cons_zero, List.set_cons_succ]
  refine wpQuiet_yield (ptV s.1) (by rfl) (fun Z hZ => ?_) ?_
  ·
    obtain ⟨r00, r01, r02, r03⟩ := HB0_0.out.kept hZ
    have rb0 := lt_of_cell r00
    obtain ⟨r10, r11, r12, r13⟩ := HB1_0.out.kept hZ
    have rb1 := lt_of_cell r10
    go_simp
  simp only [Act.put, List.setIfInBounds_toArray, List.set_cons_zero, List.set_cons_succ]
  refine wpQuiet_yield (.pointer (some ⟨g0, 2, none⟩)) (by rfl) (fun Z hZ => ?_) ?_
  ·
    go_simp
  simp only [Act.put, List.setIfInBounds_toArray, List.set_cons_zero, List.set_cons_succ]
  refine wpQuiet_yield (ptV s.2) (by rfl) (fun Z hZ => ?_) ?_
  ·
    obtain ⟨r00, r01, r02, r03⟩ := HB0_0.out.kept hZ
    have rb0 := lt_of_cell r00
    obtain ⟨r10, r11, r12, r13⟩ := HB1_0.out.kept hZ
    have rb1 := lt_of_cell r10
    go_simp
  simp only [Act.put, List.setIfInBounds_toArray, List.set_cons_zero, List.set_cons_succ]
  refine wpQuiet_yield (.pointer (some ⟨g0 + 1, 0, none⟩)) (by rfl) (fun Z hZ => ?_) ?_
  ·
    go_simp
  simp only [Act.put, List.setIfInBounds_toArray, List.set_cons_zero, List.set_cons_succ]
  refine wpQuiet_yield (ptV t.1) (by rfl) (fun Z hZ => ?_) ?_
  ·
    obtain ⟨r00, r01, r02, r03⟩ := HB0_0.out.kept hZ
    have rb0 := lt_of_cell r00
    obtain ⟨r10, r11, r12, r13⟩ := HB1_0.out.kept hZ
    have rb1 := lt_of_cell r10
    go_simp
  simp only [Act.put, List.setIfInBounds_toArray, List.set_cons_zero, List.set_cons_succ]
  refine wpQuiet_yield (.int .i64 a) (by rfl) (fun Z hZ => ?_) ?_
  ·
    go_simp
    have hF := turn_any s.1 s.2 t.1 Z H1.out H2.out H3.out
    rw [Ha.out] at hF
    exact hF.mono fun e Z' h => ⟨h.1, hZ.trans h.2⟩
  simp only [Act.put, List.setIfInBounds_toArray, List.set_cons_zero, List.set_cons_succ]
  refine wpQuiet_yield (.pointer (some ⟨g0, 0, none⟩)) (by rfl) (fun Z hZ => ?_) ?_
  ·
    go_simp
  simp only [Act.put, List.setIfInBounds_toArray, List.set_cons_zero, List.set_cons_succ]
  refine wpQuiet_yield (ptV s.1) (by rfl) (fun Z hZ => ?_) ?_
  ·
    obtain ⟨r00, r01, r02, r03⟩ := HB0_0.out.kept hZ
    have rb0 := lt_of_cell r00
    obtain ⟨r10, r11, r12, r13⟩ := HB1_0.out.kept hZ
    have rb1 := lt_of_cell r10
    go_simp
  simp only [Act.put, List.setIfInBounds_toArray, List.set_cons_zero, List.set_cons_succ]
  refine wpQuiet_yield (.pointer (some ⟨g0, 2, none⟩)) (by rfl) (fun Z hZ => ?_) ?_
  ·
    go_simp
  simp only [Act.put, List.setIfInBounds_toArray, List.set_cons_zero, List.set_cons_succ]
  refine wpQuiet_yield (ptV s.2) (by rfl) (fun Z hZ => ?_) ?_
  ·
    obtain ⟨r00, r01, r02, r03⟩ := HB0_0.out.kept hZ
    have rb0 := lt_of_cell r00
    obtain ⟨r10, r11, r12, r13⟩ := HB1_0.out.kept hZ
    have rb1 := lt_of_cell r10
    go_simp
  simp only [Act.put, List.setIfInBounds_toArray, List.set_cons_zero, List.set_cons_succ]
  refine wpQuiet_yield (.pointer (some ⟨g0 + 1, 2, none⟩)) (by rfl) (fun Z hZ => ?_) ?_
  ·
    go_simp
  simp only [Act.put, List.setIfInBounds_toArray, List.set_cons_zero, List.set_cons_succ]
  refine wpQuiet_yield (ptV t.2) (by rfl) (fun Z hZ => ?_) ?_
  ·
    obtain ⟨r00, r01, r02, r03⟩ := HB0_0.out.kept hZ
    have rb0 := lt_of_cell r00
    obtain ⟨r10, r11, r12, r13⟩ := HB1_0.out.kept hZ
    have rb1 := lt_of_cell r10
    go_simp
  simp only [Act.put, List.setIfInBounds_toArray, List.set_cons_zero, List.set_cons_succ]
  refine wpQuiet_yield (.int .i64 b) (by rfl) (fun Z hZ => ?_) ?_
  ·
    go_simp
    have hF := turn_any s.1 s.2 t.2 Z H1.out H2.out H4.out
    rw [Hb.out] at hF
    exact hF.mono fun e Z' h => ⟨h.1, hZ.trans h.2⟩
  simp only [Act.put, List.setIfInBounds_toArray, List.set_cons_zero, List.set_cons_succ]
  refine wpQuiet_nil ?_
  intro x1 hk
  clear q00 q01 q02 q03 q10 q11 q12 q13
  clear e0 e1
  have HB0_1 := Lib.hid (HB0_0.out.kept hk)
  have HB1_1 := Lib.hid (HB1_0.out.kept hk)
  have HK1 := Lib.hid (Kept.trans HK0.out hk)
  clear hk
  obtain ⟨q00, q01, q02, q03⟩ := HB0_1.out
  obtain ⟨q10, q11, q12, q13⟩ := HB1_1.out
  by_cases c0 : a = 0 ∧ b = 0
  ·
    obtain ⟨rfl, rfl⟩ := c0
    have HM2 : Hid (r = (if ltP (lowP s t) (highP s t) then 4 else if lowP s t = highP s t then 1 else 0)) := Lib.hid (by have := HM.out; rcases this with h | h | h | h | h | h <;> first | exact h.2 | exact absurd ⟨rfl, rfl⟩ h.1)
    clear HM HRA HRB HRC HRD Hc Hd
    go_wp2_with fail
    clear q00 q01 q02 q03 q10 q11 q12 q13
    refine (ends_any s _).mono ?_
    rintro e x2 ⟨rfl, hk⟩
    have HKe2 := Lib.hid (Kept.trans HK1.out hk)
    have hsz2 := hk.size
    obtain ⟨y2, z2, k2, e22, e32, hg2k, hb2a, hf2, hk2b, hb2b, hz2b⟩ := two_pts x2 (endsF s).1 (endsF s).2
    have HB0_2 := Lib.hid ((HB0_1.out.kept hk).kept hk2b)
    have HB1_2 := Lib.hid ((HB1_1.out.kept hk).kept hk2b)
    have HB2_2 := Lib.hid hb2b
    have HK2 := Lib.hid (Kept.trans (Kept.trans HK1.out hk) hk2b)
    obtain ⟨⟨p20, p21⟩, ⟨p22, p23⟩, -, -⟩ := hb2a
    obtain ⟨f20, f21, f22, f23⟩ := hf2
    clear hk hk2b hb2b
    obtain ⟨q00, q01, q02, q03⟩ := HB0_2.out
    obtain ⟨q10, q11, q12, q13⟩ := HB1_2.out
    obtain ⟨⟨q20, q21⟩, ⟨q22, q23⟩, -, -⟩ := HB2_2.out
    have HKX2 := Lib.hid HKe2.out
    go_wp2_with fail
    clear q00 q01 q02 q03 q10 q11 q12 q13 q20 q21 q22 q23
    clear e22 e32 p20 p21 p22 p23 f20 f21 f22 f23
    refine (ends_any t _).mono ?_
    rintro e x3 ⟨rfl, hk⟩
    have HKe3 := Lib.hid (Kept.trans HK2.out hk)
    have hsz3 := hk.size
    obtain ⟨y3, z3, k3, e23, e33, hg3k, hb3a, hf3, hk3b, hb3b, hz3b⟩ := two_pts x3 (endsF t).1 (endsF t).2
    have HB0_3 := Lib.hid ((HB0_2.out.kept hk).kept hk3b)
    have HB1_3 := Lib.hid ((HB1_2.out.kept hk).kept hk3b)
    have HB2_3 := Lib.hid ((HB2_2.out.kept hk).kept hk3b)
    have HB3_3 := Lib.hid hb3b
    have HK3 := Lib.hid (Kept.trans (Kept.trans HK2.out hk) hk3b)
    obtain ⟨⟨p30, p31⟩, ⟨p32, p33⟩, -, -⟩ := hb3a
    obtain ⟨f30, f31, f32, f33⟩ := hf3
    clear hk hk3b hb3b
    obtain ⟨q00, q01, q02, q03⟩ := HB0_3.out
    obtain ⟨q10, q11, q12, q13⟩ := HB1_3.out
    obtain ⟨⟨q20, q21⟩, ⟨q22, q23⟩, -, -⟩ := HB2_3.out
    obtain ⟨⟨q30, q31⟩, ⟨q32, q33⟩, -, -⟩ := HB3_3.out
    go_wp2_with fail
    clear q00 q01 q02 q03 q10 q11 q12 q13 q20 q21 q22 q23 q30 q31 q32 q33
    clear e23 e33 p30 p31 p32 p33 f30 f31 f32 f33
    refine (order_any (endsF s).1 (endsF t).1 _).mono ?_
    rintro e x4 ⟨rfl, hk⟩
    have HB0_4 := Lib.hid (HB0_3.out.kept hk)
    have HB1_4 := Lib.hid (HB1_3.out.kept hk)
    have HB2_4 := Lib.hid (HB2_3.out.kept hk)
    have HB3_4 := Lib.hid (HB3_3.out.kept hk)
    have HK4 := Lib.hid (Kept.trans HK3.out hk)
    clear hk
    obtain ⟨q00, q01, q02, q03⟩ := HB0_4.out
    obtain ⟨q10, q11, q12, q13⟩ := HB1_4.out
    obtain ⟨⟨q20, q21⟩, ⟨q22, q23⟩, -, -⟩ := HB2_4.out
    obtain ⟨⟨q30, q31⟩, ⟨q32, q33⟩, -, -⟩ := HB3_4.out
    clear q00 q01 q02 q03 q10 q11 q12 q13 q20 q21 q22 q23 q30 q31 q32 q33
    have HS2 : w.heap.size ≤ k2 := by have := (HKX2.out.size); omega
    obtain ⟨⟨q00, q01⟩, ⟨q02, q03⟩, -, -⟩ := HB2_4.out
    obtain ⟨⟨q10, q11⟩, ⟨q12, q13⟩, -, -⟩ := HB3_4.out
    by_cases hl : ltP (endsF s).1 (endsF t).1
    ·
      have HL0 := Lib.hid hl
      have hc1 := (cmpP_lt _ _).2 hl
      obtain ⟨v5, ev5, hkv, -, hzz, hsg, hp1, hp2⟩ := put_pt (g := k2) HS2 HK4.out (endsF t).1
      have fz50 := HB2_4.out.fa 0
      have fz51 := HB2_4.out.fa 1
      have HB0_5 := Lib.hid (hp1 _ _ HB2_4.out)
      have HB1_5 := Lib.hid (hzz _ _ _ (by omega) (by omega) HB3_4.out)
      have HK5 := Lib.hid hkv
      clear hkv hzz hsg hp1 hp2
      obtain ⟨⟨s500, s501⟩, ⟨s502, s503⟩, -, -⟩ := HB0_5.out
      obtain ⟨⟨s510, s511⟩, ⟨s512, s513⟩, -, -⟩ := HB1_5.out
      clear hl
      go_wp2_with fail
      clear s500 s501 s502 s503 s510 s511 s512 s513
      clear ev5 fz50 fz51 q00 q01 q02 q03 q10 q11 q12 q13
      refine (order_any (endsF t).2 (endsF s).2 _).mono ?_
      rintro e x6 ⟨rfl, hk⟩
      have HB0_6 := Lib.hid (HB0_5.out.kept hk)
      have HB1_6 := Lib.hid (HB1_5.out.kept hk)
      have HK6 := Lib.hid (Kept.trans HK5.out hk)
      clear hk
      obtain ⟨⟨q00, q01⟩, ⟨q02, q03⟩, -, -⟩ := HB0_6.out
      obtain ⟨⟨q10, q11⟩, ⟨q12, q13⟩, -, -⟩ := HB1_6.out
      clear hc1
      by_cases hh : ltP (endsF t).2 (endsF s).2
      ·
        have hc2 := (cmpP_lt _ _).2 hh
        obtain ⟨v7, ev7, hkv, -, hzz, hsg, hp1, hp2⟩ := put_pt (g := k2 + 1) (Nat.le_succ_of_le HS2) HK6.out (endsF t).2
        have fz70 := HB0_6.out.fb 0
        have fz71 := HB0_6.out.fb 1
        have HB0_7 := Lib.hid (hp2 _ _ _ rfl HB0_6.out)
        have HB1_7 := Lib.hid (hzz _ _ _ (by omega) (by omega) HB1_6.out)
        have HK7 := Lib.hid hkv
        clear hkv hzz hsg hp1 hp2
        obtain ⟨⟨s700, s701⟩, ⟨s702, s703⟩, -, -⟩ := HB0_7.out
        obtain ⟨⟨s710, s711⟩, ⟨s712, s713⟩, -, -⟩ := HB1_7.out
        go_wp2_with fail
        clear s700 s701 s702 s703 s710 s711 s712 s713
        clear ev7 fz70 fz71 q00 q01 q02 q03 q10 q11 q12 q13
        refine (order_any (endsF t).1 (endsF t).2 _).mono ?_
        rintro e x8 ⟨rfl, hk⟩
        have HB0_8 := Lib.hid (HB0_7.out.kept hk)
        have HB1_8 := Lib.hid (HB1_7.out.kept hk)
        have HK8 := Lib.hid (Kept.trans HK7.out hk)
        clear hk
        obtain ⟨⟨q00, q01⟩, ⟨q02, q03⟩, -, -⟩ := HB0_8.out
        obtain ⟨⟨q10, q11⟩, ⟨q12, q13⟩, -, -⟩ := HB1_8.out
        have HL : Hid (lowP s t = (endsF t).1) := Lib.hid (by unfold lowP; rw [if_pos HL0.out])
        have HH : Hid (highP s t = (endsF t).2) := Lib.hid (by unfold highP; rw [if_pos hh])
        clear hc2
        rcases cmpP_cases (endsF t).1 (endsF t).2 with ⟨h, e⟩ | ⟨h, e⟩ | ⟨h, e⟩ <;> rw [e]
        · have hr : r = 4 := by rw [HM2.out, HL.out, HH.out, if_pos h]
          clear h e hh
          subst hr
          go_wp2
          go_ret
          exact ⟨rfl, HK8.out⟩
        · have hr : r = 1 := by rw [HM2.out, HL.out, HH.out, if_neg (by rw [h]; exact ltP_irrefl _), if_pos h]
          clear h e hh
          subst hr
          go_wp2
          go_ret
          exact ⟨rfl, HK8.out⟩
        · have hr : r = 0 := by rw [HM2.out, HL.out, HH.out, if_neg (ltP_asymm h), if_neg (fun k => by rw [k] at h; exact ltP_irrefl _ h)]
          clear h e hh
          subst hr
          go_wp2
          go_ret
          exact ⟨rfl, HK8.out⟩
      ·
        have hc2 : ¬ cmpP (endsF t).2 (endsF s).2 < 0 := fun h => hh ((cmpP_lt _ _).1 h)
        go_wp2_with fail
        clear q00 q01 q02 q03 q10 q11 q12 q13
        refine (order_any (endsF t).1 (endsF s).2 _).mono ?_
        rintro e x7 ⟨rfl, hk⟩
        have HB0_7 := Lib.hid (HB0_6.out.kept hk)
        have HB1_7 := Lib.hid (HB1_6.out.kept hk)
        have HK7 := Lib.hid (Kept.trans HK6.out hk)
        clear hk
        obtain ⟨⟨q00, q01⟩, ⟨q02, q03⟩, -, -⟩ := HB0_7.out
        obtain ⟨⟨q10, q11⟩, ⟨q12, q13⟩, -, -⟩ := HB1_7.out
        have HL : Hid (lowP s t = (endsF t).1) := Lib.hid (by unfold lowP; rw [if_pos HL0.out])
        have HH : Hid (highP s t = (endsF s).2) := Lib.hid (by unfold highP; rw [if_neg hh])
        clear hc2
        rcases cmpP_cases (endsF t).1 (endsF s).2 with ⟨h, e⟩ | ⟨h, e⟩ | ⟨h, e⟩ <;> rw [e]
        · have hr : r = 4 := by rw [HM2.out, HL.out, HH.out, if_pos h]
          clear h e hh
          subst hr
          go_wp2
          go_ret
          exact ⟨rfl, HK7.out⟩
        · have hr : r = 1 := by rw [HM2.out, HL.out, HH.out, if_neg (by rw [h]; exact ltP_irrefl _), if_pos h]
          clear h e hh
          subst hr
          go_wp2
          go_ret
          exact ⟨rfl, HK7.out⟩
        · have hr : r = 0 := by rw [HM2.out, HL.out, HH.out, if_neg (ltP_asymm h), if_neg (fun k => by rw [k] at h; exact ltP_irrefl _ h)]
          clear h e hh
          subst hr
          go_wp2
          go_ret
          exact ⟨rfl, HK7.out⟩
    ·
      have HL0 := Lib.hid hl
      have hc1 : ¬ cmpP (endsF s).1 (endsF t).1 < 0 := fun h => hl ((cmpP_lt _ _).1 h)
      clear hl
      go_wp2_with fail
      clear q00 q01 q02 q03 q10 q11 q12 q13
      refine (order_any (endsF t).2 (endsF s).2 _).mono ?_
      rintro e x5 ⟨rfl, hk⟩
      have HB0_5 := Lib.hid (HB2_4.out.kept hk)
      have HB1_5 := Lib.hid (HB3_4.out.kept hk)
      have HK5 := Lib.hid (Kept.trans HK4.out hk)
      clear hk
      obtain ⟨⟨q00, q01⟩, ⟨q02, q03⟩, -, -⟩ := HB0_5.out
      obtain ⟨⟨q10, q11⟩, ⟨q12, q13⟩, -, -⟩ := HB1_5.out
      clear hc1
      by_cases hh : ltP (endsF t).2 (endsF s).2
      ·
        have hc2 := (cmpP_lt _ _).2 hh
        obtain ⟨v6, ev6, hkv, -, hzz, hsg, hp1, hp2⟩ := put_pt (g := k2 + 1) (Nat.le_succ_of_le HS2) HK5.out (endsF t).2
        have fz60 := HB0_5.out.fb 0
        have fz61 := HB0_5.out.fb 1
        have HB0_6 := Lib.hid (hp2 _ _ _ rfl HB0_5.out)
        have HB1_6 := Lib.hid (hzz _ _ _ (by omega) (by omega) HB1_5.out)
        have HK6 := Lib.hid hkv
        clear hkv hzz hsg hp1 hp2
        obtain ⟨⟨s600, s601⟩, ⟨s602, s603⟩, -, -⟩ := HB0_6.out
        obtain ⟨⟨s610, s611⟩, ⟨s612, s613⟩, -, -⟩ := HB1_6.out
        go_wp2_with fail
        clear s600 s601 s602 s603 s610 s611 s612 s613
        clear ev6 fz60 fz61 q00 q01 q02 q03 q10 q11 q12 q13
        refine (order_any (endsF s).1 (endsF t).2 _).mono ?_
        rintro e x7 ⟨rfl, hk⟩
        have HB0_7 := Lib.hid (HB0_6.out.kept hk)
        have HB1_7 := Lib.hid (HB1_6.out.kept hk)
        have HK7 := Lib.hid (Kept.trans HK6.out hk)
        clear hk
        obtain ⟨⟨q00, q01⟩, ⟨q02, q03⟩, -, -⟩ := HB0_7.out
        obtain ⟨⟨q10, q11⟩, ⟨q12, q13⟩, -, -⟩ := HB1_7.out
        have HL : Hid (lowP s t = (endsF s).1) := Lib.hid (by unfold lowP; rw [if_neg HL0.out])
        have HH : Hid (highP s t = (endsF t).2) := Lib.hid (by unfold highP; rw [if_pos hh])
        clear hc2
        rcases cmpP_cases (endsF s).1 (endsF t).2 with ⟨h, e⟩ | ⟨h, e⟩ | ⟨h, e⟩ <;> rw [e]
        · have hr : r = 4 := by rw [HM2.out, HL.out, HH.out, if_pos h]
          clear h e hh
          subst hr
          go_wp2
          go_ret
          exact ⟨rfl, HK7.out⟩
        · have hr : r = 1 := by rw [HM2.out, HL.out, HH.out, if_neg (by rw [h]; exact ltP_irrefl _), if_pos h]
          clear h e hh
          subst hr
          go_wp2
          go_ret
          exact ⟨rfl, HK7.out⟩
        · have hr : r = 0 := by rw [HM2.out, HL.out, HH.out, if_neg (ltP_asymm h), if_neg (fun k => by rw [k] at h; exact ltP_irrefl _ h)]
          clear h e hh
          subst hr
          go_wp2
          go_ret
          exact ⟨rfl, HK7.out⟩
      ·
        have hc2 : ¬ cmpP (endsF t).2 (endsF s).2 < 0 := fun h => hh ((cmpP_lt _ _).1 h)
        go_wp2_with fail
        clear q00 q01 q02 q03 q10 q11 q12 q13
        refine (order_any (endsF s).1 (endsF s).2 _).mono ?_
        rintro e x6 ⟨rfl, hk⟩
        have HB0_6 := Lib.hid (HB0_5.out.kept hk)
        have HB1_6 := Lib.hid (HB1_5.out.kept hk)
        have HK6 := Lib.hid (Kept.trans HK5.out hk)
        clear hk
        obtain ⟨⟨q00, q01⟩, ⟨q02, q03⟩, -, -⟩ := HB0_6.out
        obtain ⟨⟨q10, q11⟩, ⟨q12, q13⟩, -, -⟩ := HB1_6.out
        have HL : Hid (lowP s t = (endsF s).1) := Lib.hid (by unfold lowP; rw [if_neg HL0.out])
        have HH : Hid (highP s t = (endsF s).2) := Lib.hid (by unfold highP; rw [if_neg hh])
        clear hc2
        rcases cmpP_cases (endsF s).1 (endsF s).2 with ⟨h, e⟩ | ⟨h, e⟩ | ⟨h, e⟩ <;> rw [e]
        · have hr : r = 4 := by rw [HM2.out, HL.out, HH.out, if_pos h]
          clear h e hh
          subst hr
          go_wp2
          go_ret
          exact ⟨rfl, HK6.out⟩
        · have hr : r = 1 := by rw [HM2.out, HL.out, HH.out, if_neg (by rw [h]; exact ltP_irrefl _), if_pos h]
          clear h e hh
          subst hr
          go_wp2
          go_ret
          exact ⟨rfl, HK6.out⟩
        · have hr : r = 0 := by rw [HM2.out, HL.out, HH.out, if_neg (ltP_asymm h), if_neg (fun k => by rw [k] at h; exact ltP_irrefl _ h)]
          clear h e hh
          subst hr
          go_wp2
          go_ret
          exact ⟨rfl, HK6.out⟩
  ·
    have C0 := Lib.hid c0
    by_cases ha0 : a = 0
    ·
      subst ha0
      have hb0 : ¬ b = 0 := fun h => C0.out ⟨rfl, h⟩
      have hb1 : (b == 0) = false := by simp [hb0]
      clear c0
      go_wp2
      refine region_class (fun Z => Kept x1 Z) 14 (by kernel_rfl) (by kernel_rfl) (Kept.refl _).drew ?_
      simp only [List.take_succ_cons, List.take_zero, List.drop_succ_cons, List.drop_zero]
      refine wpQuiet_yield (.pointer (some ⟨g0 + 1, 0, none⟩)) (by rfl) (fun Z hZ => ?_) ?_
      ·
        go_simp
      simp only [Act.put, List.setIfInBounds_toArray, List.set_cons_zero, List.set_cons_succ]
      refine wpQuiet_yield (ptV t.1) (by rfl) (fun Z hZ => ?_) ?_
      ·
        obtain ⟨r00, r01, r02, r03⟩ := HB0_1.out.kept hZ
        have rb0 := lt_of_cell r00
        obtain ⟨r10, r11, r12, r13⟩ := HB1_1.out.kept hZ
        have rb1 := lt_of_cell r10
        go_simp
      simp only [Act.put, List.setIfInBounds_toArray, List.set_cons_zero, List.set_cons_succ]
      refine wpQuiet_yield (.pointer (some ⟨g0 + 1, 2, none⟩)) (by rfl) (fun Z hZ => ?_) ?_
      ·
        go_simp
      simp only [Act.put, List.setIfInBounds_toArray, List.set_cons_zero, List.set_cons_succ]
      refine wpQuiet_yield (ptV t.2) (by rfl) (fun Z hZ => ?_) ?_
      ·
        obtain ⟨r00, r01, r02, r03⟩ := HB0_1.out.kept hZ
        have rb0 := lt_of_cell r00
        obtain ⟨r10, r11, r12, r13⟩ := HB1_1.out.kept hZ
        have rb1 := lt_of_cell r10
        go_simp
      simp only [Act.put, List.setIfInBounds_toArray, List.set_cons_zero, List.set_cons_succ]
      refine wpQuiet_yield (.pointer (some ⟨g0, 0, none⟩)) (by rfl) (fun Z hZ => ?_) ?_
      ·
        go_simp
      simp only [Act.put, List.setIfInBounds_toArray, List.set_cons_zero, List.set_cons_succ]
      refine wpQuiet_yield (ptV s.1) (by rfl) (fun Z hZ => ?_) ?_
      ·
        obtain ⟨r00, r01, r02, r03⟩ := HB0_1.out.kept hZ
        have rb0 := lt_of_cell r00
        obtain ⟨r10, r11, r12, r13⟩ := HB1_1.out.kept hZ
        have rb1 := lt_of_cell r10
        go_simp
      simp only [Act.put, List.setIfInBounds_toArray, List.set_cons_zero, List.set_cons_succ]
      refine wpQuiet_yield (.int .i64 c) (by rfl) (fun Z hZ => ?_) ?_
      ·
        go_simp
        have hF := turn_any t.1 t.2 s.1 Z H3.out H4.out H1.out
        rw [Hc.out] at hF
        exact hF.mono fun e Z' h => ⟨h.1, hZ.trans h.2⟩
      simp only [Act.put, List.setIfInBounds_toArray, List.set_cons_zero, List.set_cons_succ]
      refine wpQuiet_yield (.pointer (some ⟨g0 + 1, 0, none⟩)) (by rfl) (fun Z hZ => ?_) ?_
      ·
        go_simp
      simp only [Act.put, List.setIfInBounds_toArray, List.set_cons_zero, List.set_cons_succ]
      refine wpQuiet_yield (ptV t.1) (by rfl) (fun Z hZ => ?_) ?_
      ·
        obtain ⟨r00, r01, r02, r03⟩ := HB0_1.out.kept hZ
        have rb0 := lt_of_cell r00
        obtain ⟨r10, r11, r12, r13⟩ := HB1_1.out.kept hZ
        have rb1 := lt_of_cell r10
        go_simp
      simp only [Act.put, List.setIfInBounds_toArray, List.set_cons_zero, List.set_cons_succ]
      refine wpQuiet_yield (.pointer (some ⟨g0 + 1, 2, none⟩)) (by rfl) (fun Z hZ => ?_) ?_
      ·
        go_simp
      simp only [Act.put, List.setIfInBounds_toArray, List.set_cons_zero, List.set_cons_succ]
      refine wpQuiet_yield (ptV t.2) (by rfl) (fun Z hZ => ?_) ?_
      ·
        obtain ⟨r00, r01, r02, r03⟩ := HB0_1.out.kept hZ
        have rb0 := lt_of_cell r00
        obtain ⟨r10, r11, r12, r13⟩ := HB1_1.out.kept hZ
        have rb1 := lt_of_cell r10
        go_simp
      simp only [Act.put, List.setIfInBounds_toArray, List.set_cons_zero, List.set_cons_succ]
      refine wpQuiet_yield (.pointer (some ⟨g0, 2, none⟩)) (by rfl) (fun Z hZ => ?_) ?_
      ·
        go_simp
      simp only [Act.put, List.setIfInBounds_toArray, List.set_cons_zero, List.set_cons_succ]
      refine wpQuiet_yield (ptV s.2) (by rfl) (fun Z hZ => ?_) ?_
      ·
        obtain ⟨r00, r01, r02, r03⟩ := HB0_1.out.kept hZ
        have rb0 := lt_of_cell r00
        obtain ⟨r10, r11, r12, r13⟩ := HB1_1.out.kept hZ
        have rb1 := lt_of_cell r10
        go_simp
      simp only [Act.put, List.setIfInBounds_toArray, List.set_cons_zero, List.set_cons_succ]
      refine wpQuiet_yield (.int .i64 d) (by rfl) (fun Z hZ => ?_) ?_
      ·
        go_simp
        have hF := turn_any t.1 t.2 s.2 Z H3.out H4.out H2.out
        rw [Hd.out] at hF
        exact hF.mono fun e Z' h => ⟨h.1, hZ.trans h.2⟩
      simp only [Act.put, List.setIfInBounds_toArray, List.set_cons_zero, List.set_cons_succ]
      refine wpQuiet_nil ?_
      intro x2 hk
      clear q00 q01 q02 q03 q10 q11 q12 q13
      have HB0_2 := Lib.hid (HB0_1.out.kept hk)
      have HB1_2 := Lib.hid (HB1_1.out.kept hk)
      have HK2 := Lib.hid (Kept.trans HK1.out hk)
      clear hk
      obtain ⟨q00, q01, q02, q03⟩ := HB0_2.out
      obtain ⟨q10, q11, q12, q13⟩ := HB1_2.out
      have m1 := mul_bound (x := 0) (y := b) (A := 1) (B := 1) (by have := HRA.out; omega) (by have := HRA.out; omega) HRB.out.1 HRB.out.2
      have m2 := mul_bound (x := c) (y := d) (A := 1) (B := 1) HRC.out.1 HRC.out.2 HRD.out.1 HRD.out.2
      have HM3 := HM.out
      clear HM
      rcases HM3 with h | ⟨-, h, rfl⟩ | ⟨-, n, hcd, hab, rfl⟩ | ⟨-, n, hcd, hab, rfl⟩ | ⟨-, n, hcd, hab, rfl⟩ | ⟨-, n, hcd, hab, rfl⟩
      ·
        exact absurd h.1 C0.out
      ·
        have h := h.resolve_left (by simp)
        go_wp2
        go_ret
        exact ⟨rfl, HK2.out⟩
      ·
        have n1 : ¬ 0 < 0 * b := fun k => n (.inl k)
        have n2 : ¬ 0 < c * d := fun k => n (.inr k)
        clear n
        by_cases hc0 : c = 0
        ·
          subst hc0
          clear hab
          go_wp2
          go_ret
          exact ⟨rfl, HK2.out⟩
        ·
          have hd0 := hcd.resolve_left hc0
          have hc1 : (c == 0) = false := by simp [hc0]
          subst hd0
          clear hab
          go_wp2
          go_ret
          exact ⟨rfl, HK2.out⟩
      ·
        have n1 : ¬ 0 < 0 * b := fun k => n (.inl k)
        have n2 : ¬ 0 < c * d := fun k => n (.inr k)
        clear n
        by_cases hc0 : c = 0
        ·
          subst hc0
          exact absurd (by simp) hab
        ·
          have hd0 := hcd.resolve_left hc0
          have hc1 : (c == 0) = false := by simp [hc0]
          subst hd0
          exact absurd (by simp) hab
      ·
        have n1 : ¬ 0 < 0 * b := fun k => n (.inl k)
        have n2 : ¬ 0 < c * d := fun k => n (.inr k)
        clear n
        have hc1 : (c == 0) = false := by simp; exact fun k => hcd (.inl k)
        have hd1 : (d == 0) = false := by simp; exact fun k => hcd (.inr k)
        clear hab
        go_wp2
        go_ret
        exact ⟨rfl, HK2.out⟩
      ·
        have n1 : ¬ 0 < 0 * b := fun k => n (.inl k)
        have n2 : ¬ 0 < c * d := fun k => n (.inr k)
        clear n
        have hc1 : (c == 0) = false := by simp; exact fun k => hcd (.inl k)
        have hd1 : (d == 0) = false := by simp; exact fun k => hcd (.inr k)
        exact absurd (by simp) hab
    ·
      have ha1 : (a == 0) = false := by simp [ha0]
      clear c0
      go_wp2
      refine region_class (fun Z => Kept x1 Z) 14 (by kernel_rfl) (by kernel_rfl) (Kept.refl _).drew ?_
      simp only [List.take_succ_cons, List.take_zero, List.drop_succ_cons, List.drop_zero]
      refine wpQuiet_yield (.pointer (some ⟨g0 + 1, 0, none⟩)) (by rfl) (fun Z hZ => ?_) ?_
      ·
        go_simp
      simp only [Act.put, List.setIfInBounds_toArray, List.set_cons_zero, List.set_cons_succ]
      refine wpQuiet_yield (ptV t.1) (by rfl) (fun Z hZ => ?_) ?_
      ·
        obtain ⟨r00, r01, r02, r03⟩ := HB0_1.out.kept hZ
        have rb0 := lt_of_cell r00
        obtain ⟨r10, r11, r12, r13⟩ := HB1_1.out.kept hZ
        have rb1 := lt_of_cell r10
        go_simp
      simp only [Act.put, List.setIfInBounds_toArray, List.set_cons_zero, List.set_cons_succ]
      refine wpQuiet_yield (.pointer (some ⟨g0 + 1, 2, none⟩)) (by rfl) (fun Z hZ => ?_) ?_
      ·
        go_simp
      simp only [Act.put, List.setIfInBounds_toArray, List.set_cons_zero, List.set_cons_succ]
      refine wpQuiet_yield (ptV t.2) (by rfl) (fun Z hZ => ?_) ?_
      ·
        obtain ⟨r00, r01, r02, r03⟩ := HB0_1.out.kept hZ
        have rb0 := lt_of_cell r00
        obtain ⟨r10, r11, r12, r13⟩ := HB1_1.out.kept hZ
        have rb1 := lt_of_cell r10
        go_simp
      simp only [Act.put, List.setIfInBounds_toArray, List.set_cons_zero, List.set_cons_succ]
      refine wpQuiet_yield (.pointer (some ⟨g0, 0, none⟩)) (by rfl) (fun Z hZ => ?_) ?_
      ·
        go_simp
      simp only [Act.put, List.setIfInBounds_toArray, List.set_cons_zero, List.set_cons_succ]
      refine wpQuiet_yield (ptV s.1) (by rfl) (fun Z hZ => ?_) ?_
      ·
        obtain ⟨r00, r01, r02, r03⟩ := HB0_1.out.kept hZ
        have rb0 := lt_of_cell r00
        obtain ⟨r10, r11, r12, r13⟩ := HB1_1.out.kept hZ
        have rb1 := lt_of_cell r10
        go_simp
      simp only [Act.put, List.setIfInBounds_toArray, List.set_cons_zero, List.set_cons_succ]
      refine wpQuiet_yield (.int .i64 c) (by rfl) (fun Z hZ => ?_) ?_
      ·
        go_simp
        have hF := turn_any t.1 t.2 s.1 Z H3.out H4.out H1.out
        rw [Hc.out] at hF
        exact hF.mono fun e Z' h => ⟨h.1, hZ.trans h.2⟩
      simp only [Act.put, List.setIfInBounds_toArray, List.set_cons_zero, List.set_cons_succ]
      refine wpQuiet_yield (.pointer (some ⟨g0 + 1, 0, none⟩)) (by rfl) (fun Z hZ => ?_) ?_
      ·
        go_simp
      simp only [Act.put, List.setIfInBounds_toArray, List.set_cons_zero, List.set_cons_succ]
      refine wpQuiet_yield (ptV t.1) (by rfl) (fun Z hZ => ?_) ?_
      ·
        obtain ⟨r00, r01, r02, r03⟩ := HB0_1.out.kept hZ
        have rb0 := lt_of_cell r00
        obtain ⟨r10, r11, r12, r13⟩ := HB1_1.out.kept hZ
        have rb1 := lt_of_cell r10
        go_simp
      simp only [Act.put, List.setIfInBounds_toArray, List.set_cons_zero, List.set_cons_succ]
      refine wpQuiet_yield (.pointer (some ⟨g0 + 1, 2, none⟩)) (by rfl) (fun Z hZ => ?_) ?_
      ·
        go_simp
      simp only [Act.put, List.setIfInBounds_toArray, List.set_cons_zero, List.set_cons_succ]
      refine wpQuiet_yield (ptV t.2) (by rfl) (fun Z hZ => ?_) ?_
      ·
        obtain ⟨r00, r01, r02, r03⟩ := HB0_1.out.kept hZ
        have rb0 := lt_of_cell r00
        obtain ⟨r10, r11, r12, r13⟩ := HB1_1.out.kept hZ
        have rb1 := lt_of_cell r10
        go_simp
      simp only [Act.put, List.setIfInBounds_toArray, List.set_cons_zero, List.set_cons_succ]
      refine wpQuiet_yield (.pointer (some ⟨g0, 2, none⟩)) (by rfl) (fun Z hZ => ?_) ?_
      ·
        go_simp
      simp only [Act.put, List.setIfInBounds_toArray, List.set_cons_zero, List.set_cons_succ]
      refine wpQuiet_yield (ptV s.2) (by rfl) (fun Z hZ => ?_) ?_
      ·
        obtain ⟨r00, r01, r02, r03⟩ := HB0_1.out.kept hZ
        have rb0 := lt_of_cell r00
        obtain ⟨r10, r11, r12, r13⟩ := HB1_1.out.kept hZ
        have rb1 := lt_of_cell r10
        go_simp
      simp only [Act.put, List.setIfInBounds_toArray, List.set_cons_zero, List.set_cons_succ]
      refine wpQuiet_yield (.int .i64 d) (by rfl) (fun Z hZ => ?_) ?_
      ·
        go_simp
        have hF := turn_any t.1 t.2 s.2 Z H3.out H4.out H2.out
        rw [Hd.out] at hF
        exact hF.mono fun e Z' h => ⟨h.1, hZ.trans h.2⟩
      simp only [Act.put, List.setIfInBounds_toArray, List.set_cons_zero, List.set_cons_succ]
      refine wpQuiet_nil ?_
      intro x2 hk
      clear q00 q01 q02 q03 q10 q11 q12 q13
      have HB0_2 := Lib.hid (HB0_1.out.kept hk)
      have HB1_2 := Lib.hid (HB1_1.out.kept hk)
      have HK2 := Lib.hid (Kept.trans HK1.out hk)
      clear hk
      obtain ⟨q00, q01, q02, q03⟩ := HB0_2.out
      obtain ⟨q10, q11, q12, q13⟩ := HB1_2.out
      have m1 := mul_bound (x := a) (y := b) (A := 1) (B := 1) (by have := HRA.out; omega) (by have := HRA.out; omega) HRB.out.1 HRB.out.2
      have m2 := mul_bound (x := c) (y := d) (A := 1) (B := 1) HRC.out.1 HRC.out.2 HRD.out.1 HRD.out.2
      have HM3 := HM.out
      clear HM
      rcases HM3 with h | ⟨-, h, rfl⟩ | ⟨-, n, hcd, hab, rfl⟩ | ⟨-, n, hcd, hab, rfl⟩ | ⟨-, n, hcd, hab, rfl⟩ | ⟨-, n, hcd, hab, rfl⟩
      ·
        exact absurd h.1 C0.out
      ·
        by_cases p : 0 < a * b
        ·
          go_wp2
          go_ret
          exact ⟨rfl, HK2.out⟩
        ·
          have h := h.resolve_left p
          go_wp2
          go_ret
          exact ⟨rfl, HK2.out⟩
      ·
        have n1 : ¬ 0 < a * b := fun k => n (.inl k)
        have n2 : ¬ 0 < c * d := fun k => n (.inr k)
        clear n
        by_cases hc0 : c = 0
        ·
          subst hc0
          have hb0 := hab.resolve_left ha0
          subst hb0
          go_wp2
          go_ret
          exact ⟨rfl, HK2.out⟩
        ·
          have hd0 := hcd.resolve_left hc0
          have hc1 : (c == 0) = false := by simp [hc0]
          subst hd0
          have hb0 := hab.resolve_left ha0
          subst hb0
          go_wp2
          go_ret
          exact ⟨rfl, HK2.out⟩
      ·
        have n1 : ¬ 0 < a * b := fun k => n (.inl k)
        have n2 : ¬ 0 < c * d := fun k => n (.inr k)
        clear n
        by_cases hc0 : c = 0
        ·
          subst hc0
          have hb1 : (b == 0) = false := by simp; exact fun k => hab (.inr k)
          go_wp2
          go_ret
          exact ⟨rfl, HK2.out⟩
        ·
          have hd0 := hcd.resolve_left hc0
          have hc1 : (c == 0) = false := by simp [hc0]
          subst hd0
          have hb1 : (b == 0) = false := by simp; exact fun k => hab (.inr k)
          go_wp2
          go_ret
          exact ⟨rfl, HK2.out⟩
      ·
        have n1 : ¬ 0 < a * b := fun k => n (.inl k)
        have n2 : ¬ 0 < c * d := fun k => n (.inr k)
        clear n
        have hc1 : (c == 0) = false := by simp; exact fun k => hcd (.inl k)
        have hd1 : (d == 0) = false := by simp; exact fun k => hcd (.inr k)
        have hb0 := hab.resolve_left ha0
        subst hb0
        go_wp2
        go_ret
        exact ⟨rfl, HK2.out⟩
      ·
        have n1 : ¬ 0 < a * b := fun k => n (.inl k)
        have n2 : ¬ 0 < c * d := fun k => n (.inr k)
        clear n
        have hc1 : (c == 0) = false := by simp; exact fun k => hcd (.inl k)
        have hd1 : (d == 0) = false := by simp; exact fun k => hcd (.inr k)
        have hb1 : (b == 0) = false := by simp; exact fun k => hab (.inr k)
        go_wp2
        go_ret
        exact ⟨rfl, HK2.out⟩
end Go.Proofs.YtlglfcdobbocnaaGreat
