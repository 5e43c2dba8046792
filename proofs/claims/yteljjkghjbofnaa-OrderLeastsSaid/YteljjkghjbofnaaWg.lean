/- OrderLeasts. -/
import Derived.Test.YteljjkghjbofnaaWf
import Derived.Test.YteljjkghjbofnaaXh
import Derived.Test.YteljjkghjbofnaaTc
set_option maxRecDepth 100000
namespace Go.Proofs.Yteljjkghjbofnaa
open Go Go.Proofs Go.RowKit
attribute [local go_sem] Oper.semAt_some

theorem least_len (o : Prob) : (LeastR o).1.length ≤ 16 := by
  unfold LeastR
  by_cases hc : chk o = 0
  · rw [if_pos hc]
    by_cases h : 8 < o.N ∨ 16 < o.arcs.length
    · rw [if_pos h]; simp
    · rw [if_neg h]
      have := pickT_len o.arcs (leastOf (okC o) o.arcs.length) o.arcs.length
      show (pickT o.arcs (leastOf (okC o) o.arcs.length) o.arcs.length).length ≤ 16
      omega
  · rw [if_neg hc]; simp

set_option maxHeartbeats 2000000 in
theorem OrderLeasts_any (o : Prob) (ao bo : Option Addr) (ca cb : Nat) (w : World) (hA : Pairs w ao o.arcs) (hB : Pairs w bo o.near) :
    Calls Try.prog 14 #[probV o ao ca bo cb] w (Gives (.bool true) w) := by
  have HO : Hid (slimB o = true → IsProb w o ao bo) := Lib.hid fun h => by
    unfold slimB at h
    simp at h
    exact ⟨hA, hB, by omega, by omega⟩
  clear hA hB
  go_enter Try.func14, Try.ntmps14
  go_wp2_with fail
  obtain ⟨w0, e0, hk0, hb0, -⟩ := alloc_prob w o.N o.arcs o.near ao ca bo cb
  rw [e0]
  clear e0
  have HK0 := Lib.hid hk0
  have HB0 := Lib.hid hb0
  clear hk0
  obtain ⟨q0, q1, q2⟩ := hb0
  have qb := lt_of_cell q0
  go_wp2_with fail
  clear q0 q1 q2 qb
  refine (slim_any o ao bo ca cb w0).mono ?_
  rintro e w1 ⟨rfl, hk⟩
  have HK1 := Lib.hid (HK0.out.trans hk)
  have HB1 := Lib.hid (HB0.out.kept hk)
  clear hk HK0 HB0
  cases hs : slimB o
  · clear hs
    go_wp2_with fail
    refine (alive_any w1).mono ?_
    rintro e w1z ⟨rfl, hk⟩
    have HKZ := Lib.hid (HK1.out.trans hk)
    clear hk
    go_wp2
    go_ret
    exact ⟨rfl, HKZ.out⟩
  · have HOK := Lib.hid (HO.out hs)
    clear hs
    by_cases h6 : 10 < o.arcs.length
    · have e6 : decide ((o.arcs.length : Int) > 10) = true := decide_eq_true (by omega)
      have e7 : decide (10 < o.arcs.length) = true := decide_eq_true h6
      by_cases h8 : o.arcs.length ≤ 16
      · have e8 : decide ((o.arcs.length : Int) ≤ 16) = true := decide_eq_true (by omega)
        have e9 : decide (o.arcs.length ≤ 16) = true := decide_eq_true h8
        clear h6 h8
        obtain ⟨q0, q1, q2⟩ := HB1.out
        have qb := lt_of_cell q0
        go_wp2_with fail
        refine (alive_any w1).mono ?_
        rintro e w1z ⟨rfl, hk⟩
        have HKZ := Lib.hid (HK1.out.trans hk)
        clear hk
        go_wp2
        go_ret
        exact ⟨rfl, HKZ.out⟩
      · have e8 : decide ((o.arcs.length : Int) ≤ 16) = false := decide_eq_false (by omega)
        have e9 : decide (o.arcs.length ≤ 16) = false := decide_eq_false h8
        have HSM : Hid (o.arcs.length ≤ 12 ∨ 16 < o.arcs.length) := Lib.hid (.inr (by omega))
        clear h6 h8
        have B1 : Hid (Bag w w1 w.heap.size o ao ca bo cb none []) := Lib.hid ⟨HOK.out.kept HK1.out, HB1.out, fun i hi => absurd hi (Nat.not_lt_zero _), HK1.out⟩
        have HLN := Lib.hid (least_len o)
        clear HO HOK HK1 HB1
        obtain ⟨L1, hL1⟩ : ∃ r, (LeastR o).1 = r := ⟨_, rfl⟩
        obtain ⟨L2, hL2⟩ : ∃ r, (LeastR o).2 = r := ⟨_, rfl⟩
        rw [hL1] at HLN
        have HL1 := Lib.hid hL1
        have HL2 := Lib.hid hL2
        clear hL1 hL2
        obtain ⟨q0, q1, q2⟩ := B1.out.b
        have qb := lt_of_cell q0
        go_wp2_with fail
        clear q0 q1 q2 qb
        have hF := Least_any o ao bo ca cb w1 B1.out.p
        rw [HL1.out, HL2.out] at hF
        refine hF.mono ?_
        clear hF
        rintro e w2 ⟨pa, pc, rfl, hi, hk⟩
        have B2 := Lib.hid (B1.out.kept hk)
        have HI2 := Lib.hid hi
        clear hk B1 hi
        obtain ⟨q0, q1, q2⟩ := B2.out.b
        have qb := lt_of_cell q0
        go_wp2_with fail
        clear q0 q1 q2 qb
        have hF := RLeast_any o ao bo ca cb w2 B2.out.p HSM.out
        rw [HL1.out, HL2.out] at hF
        refine hF.mono ?_
        clear hF
        rintro e w3 ⟨sa, sc, rfl, hj, hk⟩
        have B3 := Lib.hid (B2.out.kept hk)
        have HI3 := Lib.hid (HI2.out.kept hk)
        have HJ3 := Lib.hid hj
        clear hk B2 HI2 hj
        go_wp2_with fail
        refine (alive_any w3).mono ?_
        rintro e w4 ⟨rfl, hk⟩
        have B4 := Lib.hid (B3.out.kept hk)
        have HI4 := Lib.hid (HI3.out.kept hk)
        have HJ4 := Lib.hid (HJ3.out.kept hk)
        clear hk B3 HI3 HJ3
        have ee : (L2 == L2) = true := by simp
        go_wp2_with fail
        refine (sameP_any L1 pa sa pc sc w4 HI4.out HJ4.out (by have h := HLN.out; omega)).mono ?_
        rintro e w5 ⟨rfl, hk⟩
        have B5 := Lib.hid (B4.out.kept hk)
        clear hk
        go_wp2
        go_ret
        exact ⟨rfl, B5.out.k⟩
    · have e6 : decide ((o.arcs.length : Int) > 10) = false := decide_eq_false (by omega)
      have e7 : decide (10 < o.arcs.length) = false := decide_eq_false h6
      have HSM : Hid (o.arcs.length ≤ 12 ∨ 16 < o.arcs.length) := Lib.hid (.inl (by omega))
      clear h6
      have B1 : Hid (Bag w w1 w.heap.size o ao ca bo cb none []) := Lib.hid ⟨HOK.out.kept HK1.out, HB1.out, fun i hi => absurd hi (Nat.not_lt_zero _), HK1.out⟩
      have HLN := Lib.hid (least_len o)
      clear HO HOK HK1 HB1
      obtain ⟨L1, hL1⟩ : ∃ r, (LeastR o).1 = r := ⟨_, rfl⟩
      obtain ⟨L2, hL2⟩ : ∃ r, (LeastR o).2 = r := ⟨_, rfl⟩
      rw [hL1] at HLN
      have HL1 := Lib.hid hL1
      have HL2 := Lib.hid hL2
      clear hL1 hL2
      obtain ⟨q0, q1, q2⟩ := B1.out.b
      have qb := lt_of_cell q0
      go_wp2_with fail
      clear q0 q1 q2 qb
      have hF := Least_any o ao bo ca cb w1 B1.out.p
      rw [HL1.out, HL2.out] at hF
      refine hF.mono ?_
      clear hF
      rintro e w2 ⟨pa, pc, rfl, hi, hk⟩
      have B2 := Lib.hid (B1.out.kept hk)
      have HI2 := Lib.hid hi
      clear hk B1 hi
      obtain ⟨q0, q1, q2⟩ := B2.out.b
      have qb := lt_of_cell q0
      go_wp2_with fail
      clear q0 q1 q2 qb
      have hF := RLeast_any o ao bo ca cb w2 B2.out.p HSM.out
      rw [HL1.out, HL2.out] at hF
      refine hF.mono ?_
      clear hF
      rintro e w3 ⟨sa, sc, rfl, hj, hk⟩
      have B3 := Lib.hid (B2.out.kept hk)
      have HI3 := Lib.hid (HI2.out.kept hk)
      have HJ3 := Lib.hid hj
      clear hk B2 HI2 hj
      go_wp2_with fail
      refine (alive_any w3).mono ?_
      rintro e w4 ⟨rfl, hk⟩
      have B4 := Lib.hid (B3.out.kept hk)
      have HI4 := Lib.hid (HI3.out.kept hk)
      have HJ4 := Lib.hid (HJ3.out.kept hk)
      clear hk B3 HI3 HJ3
      have ee : (L2 == L2) = true := by simp
      go_wp2_with fail
      refine (sameP_any L1 pa sa pc sc w4 HI4.out HJ4.out (by have h := HLN.out; omega)).mono ?_
      rintro e w5 ⟨rfl, hk⟩
      have B5 := Lib.hid (B4.out.kept hk)
      clear hk
      go_wp2
      go_ret
      exact ⟨rfl, B5.out.k⟩
end Go.Proofs.Yteljjkghjbofnaa

