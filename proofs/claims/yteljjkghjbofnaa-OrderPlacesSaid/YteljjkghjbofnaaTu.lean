/- OrderWaits. -/
import Derived.Test.YteljjkghjbofnaaTt
import Derived.Test.YteljjkghjbofnaaXh
set_option maxRecDepth 100000
namespace Go.Proofs.Yteljjkghjbofnaa
open Go Go.Proofs Go.RowKit
attribute [local go_sem] Oper.semAt_some

theorem wait_len (o : Prob) (dry : Int) : (WaitR o dry).1.1.length ≤ 24 ∧ (WaitR o dry).1.2.length ≤ 24 := by
  unfold WaitR
  by_cases hc : chk o = 0
  · rw [if_pos hc]
    by_cases hd : 0 ≤ dry ∧ dry ≤ 30
    · rw [if_pos hd]
      by_cases h8 : 8 < (webOf o).n
      · rw [if_pos h8]; exact ⟨by simp, by simp⟩
      · rw [if_neg h8]
        by_cases hcb : circB (webOf o) = true
        · rw [if_pos hcb]; exact ⟨by simp, by simp⟩
        · rw [if_neg hcb]
          cases hl : ordersL (webOf o) with
          | nil => exact ⟨by simp [bestOf, bestPair], by simp [bestOf, bestPair]⟩
          | cons l t =>
            obtain ⟨x, h1, h2⟩ := best_some (W := webOf o) (dry := dry) t none l
            have hx : x ∈ ordersL (webOf o) := by rw [hl]; exact h2.resolve_right (by simp)
            have ho := ordersL_sound (webOf_n hc) hx
            have e : bestOf (webOf o) dry (l :: t) = some x := h1
            rw [e]
            have h3 := (orderedB_iff.1 ho).1
            have h4 : (daysOf (webOf o) dry x).length = (webOf o).n := daysPart_length _ _ _ _
            have h5 := webOf_n hc
            exact ⟨by show x.length ≤ 24; omega, by show (daysOf (webOf o) dry x).length ≤ 24; omega⟩
    · rw [if_neg hd]; exact ⟨by simp, by simp⟩
  · rw [if_neg hc]; exact ⟨by simp, by simp⟩

set_option maxHeartbeats 2000000 in
theorem OrderWaits_any (o : Prob) (ao bo : Option Addr) (ca cb : Nat) (dry : Int) (w : World) (hA : Pairs w ao o.arcs) (hB : Pairs w bo o.near) :
    Calls Try.prog 4 #[probV o ao ca bo cb, .int .i64 dry] w (Gives (.bool true) w) := by
  have HO : Hid (slimB o = true → IsProb w o ao bo) := Lib.hid fun h => by
    unfold slimB at h
    simp at h
    exact ⟨hA, hB, by omega, by omega⟩
  clear hA hB
  go_enter Try.func4, Try.ntmps4
  go_wp2_with fail
  obtain ⟨w0, e0, hk0, hb0, -⟩ := alloc_prob w o.N o.arcs o.near ao ca bo cb
  rw [e0]
  clear e0
  have HK0 := Lib.hid hk0
  have HB0 := Lib.hid hb0
  clear hk0
  obtain ⟨q0, q1, q2⟩ := hb0
  have qb := lt_of_cell q0
  go_wp2_with fail
  clear q0 q1 q2 qb
  refine (slim_any o ao bo ca cb w0).mono ?_
  rintro e w1 ⟨rfl, hk⟩
  have HK1 := Lib.hid (HK0.out.trans hk)
  have HB1 := Lib.hid (HB0.out.kept hk)
  clear hk HK0 HB0
  cases hs : slimB o
  · clear hs
    go_wp2_with fail
    refine (alive_any w1).mono ?_
    rintro e w1z ⟨rfl, hk⟩
    have HKZ := Lib.hid (HK1.out.trans hk)
    clear hk
    go_wp2
    go_ret
    exact ⟨rfl, HKZ.out⟩
  · have HOK := Lib.hid (HO.out hs)
    clear hs
    by_cases h6 : 6 < o.N
    · have e6 : decide (o.N > 6) = true := decide_eq_true h6
      by_cases h8 : o.N ≤ 8
      · have e8 : decide (o.N ≤ 8) = true := decide_eq_true h8
        clear h6 h8
        obtain ⟨q0, q1, q2⟩ := HB1.out
        have qb := lt_of_cell q0
        go_wp2_with fail
        refine (alive_any w1).mono ?_
        rintro e w1z ⟨rfl, hk⟩
        have HKZ := Lib.hid (HK1.out.trans hk)
        clear hk
        go_wp2
        go_ret
        exact ⟨rfl, HKZ.out⟩
      · have e8 : decide (o.N ≤ 8) = false := decide_eq_false h8
        clear h6 h8
        have B1 : Hid (Bag w w1 w.heap.size o ao ca bo cb none []) := Lib.hid ⟨HOK.out.kept HK1.out, HB1.out, fun i hi => absurd hi (Nat.not_lt_zero _), HK1.out⟩
        have HLN := Lib.hid (wait_len o dry)
        clear HO HOK HK1 HB1
        obtain ⟨R, hR⟩ : ∃ R, WaitR o dry = R := ⟨_, rfl⟩
        have HR := Lib.hid hR
        clear hR
        obtain ⟨q0, q1, q2⟩ := B1.out.b
        have qb := lt_of_cell q0
        go_wp2_with fail
        clear q0 q1 q2 qb
        have hF := Wait_any o ao bo ca cb dry w1 B1.out.p
        rw [HR.out] at hF HLN
        refine hF.mono ?_
        clear hF
        obtain ⟨⟨L1, L2⟩, er⟩ := R
        rintro e w2 ⟨a1, c1, a2, c2, rfl, hi1, hi2, hk⟩
        have B2 := Lib.hid (B1.out.kept hk)
        have HI1 := Lib.hid hi1
        have HI2 := Lib.hid hi2
        clear hk B1 hi1 hi2
        obtain ⟨q0, q1, q2⟩ := B2.out.b
        have qb := lt_of_cell q0
        go_wp2_with fail
        clear q0 q1 q2 qb
        have hK : Kept w2 (w2.alloc (.cells #[.slice a1 L1.length c1, .slice a2 L2.length c2] 33)) := (Kept.refl _).alloc _
        have hX := SBox.new w2 (.slice a1 L1.length c1) (.slice a2 L2.length c2)
        obtain ⟨tb, htb⟩ : ∃ tb, w2.heap.size = tb := ⟨_, rfl⟩
        rw [htb] at hX ⊢
        generalize w2.alloc (.cells #[.slice a1 L1.length c1, .slice a2 L2.length c2] 33) = w3 at *
        have B3 := Lib.hid (B2.out.kept hK)
        have HI13 := Lib.hid (HI1.out.kept hK)
        have HI23 := Lib.hid (HI2.out.kept hK)
        have HX3 := Lib.hid hX
        clear hK hX htb B2 HI1 HI2
        have hF := RWait_any o ao bo ca cb dry w3 B3.out.p
        rw [HR.out] at hF
        refine hF.mono ?_
        clear hF
        rintro e w4 ⟨b1, d1, b2, d2, rfl, hj1, hj2, hk⟩
        have B4 := Lib.hid (B3.out.kept hk)
        have HI14 := Lib.hid (HI13.out.kept hk)
        have HI24 := Lib.hid (HI23.out.kept hk)
        have HX4 := Lib.hid (HX3.out.kept hk)
        have HJ1 := Lib.hid hj1
        have HJ2 := Lib.hid hj2
        clear hk B3 HI13 HI23 HX3 hj1 hj2
        go_wp2_with fail
        have hK : Kept w4 (w4.alloc (.cells #[.slice b1 L1.length d1, .slice b2 L2.length d2] 33)) := (Kept.refl _).alloc _
        have hX := SBox.new w4 (.slice b1 L1.length d1) (.slice b2 L2.length d2)
        obtain ⟨tc, htc⟩ : ∃ tb, w4.heap.size = tb := ⟨_, rfl⟩
        rw [htc] at hX ⊢
        generalize w4.alloc (.cells #[.slice b1 L1.length d1, .slice b2 L2.length d2] 33) = w5 at *
        refine (alive_any w5).mono ?_
        rintro e w6 ⟨rfl, hk⟩
        have hK6 := hK.trans hk
        have B6 := Lib.hid (B4.out.kept hK6)
        have HI16 := Lib.hid (HI14.out.kept hK6)
        have HI26 := Lib.hid (HI24.out.kept hK6)
        have HJ16 := Lib.hid (HJ1.out.kept hK6)
        have HJ26 := Lib.hid (HJ2.out.kept hK6)
        have HX6 := Lib.hid (HX4.out.kept hK6)
        have HY6 := Lib.hid (hX.kept hk)
        clear hK hX htc hk hK6 B4 HI14 HI24 HJ1 HJ2 HX4
        have ee : (er == er) = true := by simp
        have x0 := HX6.out.c0
        have x1 := HX6.out.c1
        have y0 := HY6.out.c0
        have y1 := HY6.out.c1
        have xl := lt_of_cell x0
        have yl := lt_of_cell y0
        go_wp2_with fail
        clear x0 x1 y0 y1 xl yl
        refine (same_any L1 a1 b1 c1 d1 _ w6 HI16.out HJ16.out rfl (by have h : L1.length ≤ 24 := HLN.out.1; omega)).mono ?_
        rintro e w7 ⟨rfl, hk⟩
        have B7 := Lib.hid (B6.out.kept hk)
        have HI27 := Lib.hid (HI26.out.kept hk)
        have HJ27 := Lib.hid (HJ26.out.kept hk)
        have x0 := hk.cell HX6.out.c0
        have x1 := hk.cell HX6.out.c1
        have y0 := hk.cell HY6.out.c0
        have y1 := hk.cell HY6.out.c1
        have xl := lt_of_cell x0
        have yl := lt_of_cell y0
        clear hk
        go_wp2_with fail
        clear x0 x1 y0 y1 xl yl
        refine (same_any L2 a2 b2 c2 d2 _ w7 HI27.out HJ27.out rfl (by have h : L2.length ≤ 24 := HLN.out.2; omega)).mono ?_
        rintro e w8 ⟨rfl, hk⟩
        have B8 := Lib.hid (B7.out.kept hk)
        clear hk
        go_wp2
        go_ret
        exact ⟨rfl, B8.out.k⟩
    · have e6 : decide (o.N > 6) = false := decide_eq_false h6
      clear h6
      have B1 : Hid (Bag w w1 w.heap.size o ao ca bo cb none []) := Lib.hid ⟨HOK.out.kept HK1.out, HB1.out, fun i hi => absurd hi (Nat.not_lt_zero _), HK1.out⟩
      have HLN := Lib.hid (wait_len o dry)
      clear HO HOK HK1 HB1
      obtain ⟨R, hR⟩ : ∃ R, WaitR o dry = R := ⟨_, rfl⟩
      have HR := Lib.hid hR
      clear hR
      obtain ⟨q0, q1, q2⟩ := B1.out.b
      have qb := lt_of_cell q0
      go_wp2_with fail
      clear q0 q1 q2 qb
      have hF := Wait_any o ao bo ca cb dry w1 B1.out.p
      rw [HR.out] at hF HLN
      refine hF.mono ?_
      clear hF
      obtain ⟨⟨L1, L2⟩, er⟩ := R
      rintro e w2 ⟨a1, c1, a2, c2, rfl, hi1, hi2, hk⟩
      have B2 := Lib.hid (B1.out.kept hk)
      have HI1 := Lib.hid hi1
      have HI2 := Lib.hid hi2
      clear hk B1 hi1 hi2
      obtain ⟨q0, q1, q2⟩ := B2.out.b
      have qb := lt_of_cell q0
      go_wp2_with fail
      clear q0 q1 q2 qb
      have hK : Kept w2 (w2.alloc (.cells #[.slice a1 L1.length c1, .slice a2 L2.length c2] 33)) := (Kept.refl _).alloc _
      have hX := SBox.new w2 (.slice a1 L1.length c1) (.slice a2 L2.length c2)
      obtain ⟨tb, htb⟩ : ∃ tb, w2.heap.size = tb := ⟨_, rfl⟩
      rw [htb] at hX ⊢
      generalize w2.alloc (.cells #[.slice a1 L1.length c1, .slice a2 L2.length c2] 33) = w3 at *
      have B3 := Lib.hid (B2.out.kept hK)
      have HI13 := Lib.hid (HI1.out.kept hK)
      have HI23 := Lib.hid (HI2.out.kept hK)
      have HX3 := Lib.hid hX
      clear hK hX htb B2 HI1 HI2
      have hF := RWait_any o ao bo ca cb dry w3 B3.out.p
      rw [HR.out] at hF
      refine hF.mono ?_
      clear hF
      rintro e w4 ⟨b1, d1, b2, d2, rfl, hj1, hj2, hk⟩
      have B4 := Lib.hid (B3.out.kept hk)
      have HI14 := Lib.hid (HI13.out.kept hk)
      have HI24 := Lib.hid (HI23.out.kept hk)
      have HX4 := Lib.hid (HX3.out.kept hk)
      have HJ1 := Lib.hid hj1
      have HJ2 := Lib.hid hj2
      clear hk B3 HI13 HI23 HX3 hj1 hj2
      go_wp2_with fail
      have hK : Kept w4 (w4.alloc (.cells #[.slice b1 L1.length d1, .slice b2 L2.length d2] 33)) := (Kept.refl _).alloc _
      have hX := SBox.new w4 (.slice b1 L1.length d1) (.slice b2 L2.length d2)
      obtain ⟨tc, htc⟩ : ∃ tb, w4.heap.size = tb := ⟨_, rfl⟩
      rw [htc] at hX ⊢
      generalize w4.alloc (.cells #[.slice b1 L1.length d1, .slice b2 L2.length d2] 33) = w5 at *
      refine (alive_any w5).mono ?_
      rintro e w6 ⟨rfl, hk⟩
      have hK6 := hK.trans hk
      have B6 := Lib.hid (B4.out.kept hK6)
      have HI16 := Lib.hid (HI14.out.kept hK6)
      have HI26 := Lib.hid (HI24.out.kept hK6)
      have HJ16 := Lib.hid (HJ1.out.kept hK6)
      have HJ26 := Lib.hid (HJ2.out.kept hK6)
      have HX6 := Lib.hid (HX4.out.kept hK6)
      have HY6 := Lib.hid (hX.kept hk)
      clear hK hX htc hk hK6 B4 HI14 HI24 HJ1 HJ2 HX4
      have ee : (er == er) = true := by simp
      have x0 := HX6.out.c0
      have x1 := HX6.out.c1
      have y0 := HY6.out.c0
      have y1 := HY6.out.c1
      have xl := lt_of_cell x0
      have yl := lt_of_cell y0
      go_wp2_with fail
      clear x0 x1 y0 y1 xl yl
      refine (same_any L1 a1 b1 c1 d1 _ w6 HI16.out HJ16.out rfl (by have h : L1.length ≤ 24 := HLN.out.1; omega)).mono ?_
      rintro e w7 ⟨rfl, hk⟩
      have B7 := Lib.hid (B6.out.kept hk)
      have HI27 := Lib.hid (HI26.out.kept hk)
      have HJ27 := Lib.hid (HJ26.out.kept hk)
      have x0 := hk.cell HX6.out.c0
      have x1 := hk.cell HX6.out.c1
      have y0 := hk.cell HY6.out.c0
      have y1 := hk.cell HY6.out.c1
      have xl := lt_of_cell x0
      have yl := lt_of_cell y0
      clear hk
      go_wp2_with fail
      clear x0 x1 y0 y1 xl yl
      refine (same_any L2 a2 b2 c2 d2 _ w7 HI27.out HJ27.out rfl (by have h : L2.length ≤ 24 := HLN.out.2; omega)).mono ?_
      rintro e w8 ⟨rfl, hk⟩
      have B8 := Lib.hid (B7.out.kept hk)
      clear hk
      go_wp2
      go_ret
      exact ⟨rfl, B8.out.k⟩
end Go.Proofs.Yteljjkghjbofnaa
