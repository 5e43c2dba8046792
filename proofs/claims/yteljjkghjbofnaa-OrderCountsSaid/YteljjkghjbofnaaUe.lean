/- OrderCounts. -/
import Derived.Test.YteljjkghjbofnaaUc
import Derived.Test.YteljjkghjbofnaaUd
import Derived.Test.YteljjkghjbofnaaXh
set_option maxRecDepth 100000
namespace Go.Proofs.Yteljjkghjbofnaa
open Go Go.Proofs Go.RowKit
attribute [local go_sem] Oper.semAt_some

theorem nthSt_len (W : Web) (k : Int) : ∀ j, (nthSt W k j).1.length ≤ j
  | 0 => Nat.le_refl _
  | j + 1 => by
    have h := nthSt_len W k j
    have e : nthSt W k (j + 1) = nthStep W (nthSt W k j) := rfl
    rw [e]
    unfold nthStep
    split
    · simp; omega
    · simp; omega
theorem nth_len (o : Prob) (k : Int) : (NthR o k).1.length ≤ 24 := by
  unfold NthR
  by_cases he : errC o = 0
  · rw [if_pos he]
    split
    · simp
    · have h1 := nthSt_len (webOf o) k (webOf o).n
      have h2 := (errC_ok he).2
      show (nthOf (webOf o) k).length ≤ 24
      unfold nthOf
      omega
  · rw [if_neg he]; simp

set_option maxHeartbeats 2000000 in
theorem OrderCounts_any (o : Prob) (ao bo : Option Addr) (ca cb : Nat) (l : List Int) (lo : Option Addr) (c : Nat) (k : Int) (w : World) (hA : Pairs w ao o.arcs) (hB : Pairs w bo o.near) (hl : Ints w lo l) (hlc : l.length ≤ c) :
    Calls Try.prog 11 #[probV o ao ca bo cb, .slice lo l.length c, .int .i64 k] w (Gives (.bool true) w) := by
  have HO : Hid (slimB o = true → IsProb w o ao bo) := Lib.hid fun h => by
    unfold slimB at h
    simp at h
    exact ⟨hA, hB, by omega, by omega⟩
  have HL := Lib.hid hl
  clear hA hB hl
  go_enter Try.func11, Try.ntmps11
  go_wp2_with fail
  obtain ⟨w0, e0, hk0, hb0, -⟩ := alloc_prob w o.N o.arcs o.near ao ca bo cb
  rw [e0]
  clear e0
  have HK0 := Lib.hid hk0
  have HB0 := Lib.hid hb0
  clear hk0
  obtain ⟨q0, q1, q2⟩ := hb0
  have qb := lt_of_cell q0
  go_wp2_with fail
  clear q0 q1 q2 qb
  refine (slim_any o ao bo ca cb w0).mono ?_
  rintro e w1 ⟨rfl, hk⟩
  have HK1 := Lib.hid (HK0.out.trans hk)
  have HB1 := Lib.hid (HB0.out.kept hk)
  clear hk HK0 HB0
  cases hs : slimB o
  · clear hs
    go_wp2_with fail
    refine (alive_any w1).mono ?_
    rintro e w1z ⟨rfl, hk⟩
    have HKZ := Lib.hid (HK1.out.trans hk)
    clear hk
    go_wp2
    go_ret
    exact ⟨rfl, HKZ.out⟩
  · have HOK := Lib.hid (HO.out hs)
    clear hs
    by_cases h6 : 9 < o.N
    · have e6 : decide (o.N > 9) = true := decide_eq_true h6
      by_cases h8 : o.N ≤ 12
      · have e8 : decide (o.N ≤ 12) = true := decide_eq_true h8
        clear h6 h8
        obtain ⟨q0, q1, q2⟩ := HB1.out
        have qb := lt_of_cell q0
        go_wp2_with fail
        refine (alive_any w1).mono ?_
        rintro e w1z ⟨rfl, hk⟩
        have HKZ := Lib.hid (HK1.out.trans hk)
        clear hk
        go_wp2
        go_ret
        exact ⟨rfl, HKZ.out⟩
      · have e8 : decide (o.N ≤ 12) = false := decide_eq_false h8
        clear h6 h8
        by_cases hll : l.length ≤ 30
        · have e7 : decide ((l.length : Int) > 30) = false := decide_eq_false (by omega)
          have B1 : Hid (Bag w w1 w.heap.size o ao ca bo cb lo l) := Lib.hid ⟨HOK.out.kept HK1.out, HB1.out, HL.out.kept HK1.out, HK1.out⟩
          have HLN := Lib.hid (nth_len o k)
          clear HO HOK HK1 HB1 HL
          obtain ⟨C1, hC1⟩ : ∃ r, (CountR o).1 = r := ⟨_, rfl⟩
          obtain ⟨C2, hC2⟩ : ∃ r, (CountR o).2 = r := ⟨_, rfl⟩
          obtain ⟨R1, hR1⟩ : ∃ r, (RankR o l).1 = r := ⟨_, rfl⟩
          obtain ⟨R2, hR2⟩ : ∃ r, (RankR o l).2 = r := ⟨_, rfl⟩
          obtain ⟨N1, hN1⟩ : ∃ r, (NthR o k).1 = r := ⟨_, rfl⟩
          obtain ⟨N2, hN2⟩ : ∃ r, (NthR o k).2 = r := ⟨_, rfl⟩
          rw [hN1] at HLN
          have HC1 := Lib.hid hC1
          have HC2 := Lib.hid hC2
          have HR1 := Lib.hid hR1
          have HR2 := Lib.hid hR2
          have HN1 := Lib.hid hN1
          have HN2 := Lib.hid hN2
          clear hC1 hC2 hR1 hR2 hN1 hN2
          obtain ⟨q0, q1, q2⟩ := B1.out.b
          have qb := lt_of_cell q0
          go_wp2_with fail
          clear q0 q1 q2 qb
          have hF := Count_any o ao bo ca cb  w1 B1.out.p
          rw [HC1.out, HC2.out] at hF
          refine hF.mono ?_
          clear hF
          rintro e w2 ⟨rfl, hk⟩
          have B2 := Lib.hid (B1.out.kept hk)
          clear hk B1
          obtain ⟨q0, q1, q2⟩ := B2.out.b
          have qb := lt_of_cell q0
          go_wp2_with fail
          clear q0 q1 q2 qb
          have hF := RCount_any o ao bo ca cb  w2 B2.out.p
          rw [HC1.out, HC2.out] at hF
          refine hF.mono ?_
          clear hF
          rintro e w3 ⟨rfl, hk⟩
          have B3 := Lib.hid (B2.out.kept hk)
          clear hk B2
          obtain ⟨q0, q1, q2⟩ := B3.out.b
          have qb := lt_of_cell q0
          go_wp2_with fail
          clear q0 q1 q2 qb
          have hF := Rank_any o ao bo ca cb l lo c w3 B3.out.p B3.out.l (by omega)
          rw [HR1.out, HR2.out] at hF
          refine hF.mono ?_
          clear hF
          rintro e w4 ⟨rfl, hk⟩
          have B4 := Lib.hid (B3.out.kept hk)
          clear hk B3
          obtain ⟨q0, q1, q2⟩ := B4.out.b
          have qb := lt_of_cell q0
          go_wp2_with fail
          clear q0 q1 q2 qb
          have hF := RRank_any o ao bo ca cb l lo c w4 B4.out.p B4.out.l (by omega) hlc
          rw [HR1.out, HR2.out] at hF
          refine hF.mono ?_
          clear hF
          rintro e w5 ⟨rfl, hk⟩
          have B5 := Lib.hid (B4.out.kept hk)
          clear hk B4
          obtain ⟨q0, q1, q2⟩ := B5.out.b
          have qb := lt_of_cell q0
          go_wp2_with fail
          clear q0 q1 q2 qb
          have hF := Nth_any o ao bo ca cb k w5 B5.out.p
          rw [HN1.out, HN2.out] at hF
          refine hF.mono ?_
          clear hF
          rintro e w6 ⟨_, rfl, ⟨ta, tc, rfl, -, hi, -⟩, hk⟩
          have B6 := Lib.hid (B5.out.kept hk)
          have HI6 := Lib.hid hi
          clear hi
          clear hk B5
          obtain ⟨q0, q1, q2⟩ := B6.out.b
          have qb := lt_of_cell q0
          go_wp2_with fail
          clear q0 q1 q2 qb
          have hF := RNth_any o ao bo ca cb k w6 B6.out.p
          rw [HN1.out, HN2.out] at hF
          refine hF.mono ?_
          clear hF
          rintro e w7 ⟨_, rfl, ⟨sa, sc, rfl, -, hj, -⟩, hk⟩
          have B7 := Lib.hid (B6.out.kept hk)
          have HI7 := Lib.hid (HI6.out.kept hk)
          have HJ7 := Lib.hid hj
          clear hj HI6
          clear hk B6
          go_wp2_with fail
          refine (alive_any w7).mono ?_
          rintro e w8 ⟨rfl, hk⟩
          have B8 := Lib.hid (B7.out.kept hk)
          have HI8 := Lib.hid (HI7.out.kept hk)
          have HJ8 := Lib.hid (HJ7.out.kept hk)
          clear hk B7 HI7 HJ7
          have e1 : (C1 == C1) = true := by simp
          have e2 : (C2 == C2) = true := by simp
          have e3 : (R1 == R1) = true := by simp
          have e4 : (R2 == R2) = true := by simp
          have e5 : (N2 == N2) = true := by simp
          go_wp2_with fail
          refine (same_any N1 ta sa tc sc _ w8 HI8.out HJ8.out rfl (by have h : N1.length ≤ 24 := HLN.out; omega)).mono ?_
          rintro e w9 ⟨rfl, hk⟩
          have B9 := Lib.hid (B8.out.kept hk)
          clear hk
          go_wp2
          go_ret
          exact ⟨rfl, B9.out.k⟩
        · have e7 : decide ((l.length : Int) > 30) = true := decide_eq_true (by omega)
          clear hll
          obtain ⟨q0, q1, q2⟩ := HB1.out
          have qb := lt_of_cell q0
          go_wp2_with fail
          refine (alive_any w1).mono ?_
          rintro e w1z ⟨rfl, hk⟩
          have HKZ := Lib.hid (HK1.out.trans hk)
          clear hk
          go_wp2
          go_ret
          exact ⟨rfl, HKZ.out⟩
    · have e6 : decide (o.N > 9) = false := decide_eq_false h6
      clear h6
      by_cases hll : l.length ≤ 30
      · have e7 : decide ((l.length : Int) > 30) = false := decide_eq_false (by omega)
        have B1 : Hid (Bag w w1 w.heap.size o ao ca bo cb lo l) := Lib.hid ⟨HOK.out.kept HK1.out, HB1.out, HL.out.kept HK1.out, HK1.out⟩
        have HLN := Lib.hid (nth_len o k)
        clear HO HOK HK1 HB1 HL
        obtain ⟨C1, hC1⟩ : ∃ r, (CountR o).1 = r := ⟨_, rfl⟩
        obtain ⟨C2, hC2⟩ : ∃ r, (CountR o).2 = r := ⟨_, rfl⟩
        obtain ⟨R1, hR1⟩ : ∃ r, (RankR o l).1 = r := ⟨_, rfl⟩
        obtain ⟨R2, hR2⟩ : ∃ r, (RankR o l).2 = r := ⟨_, rfl⟩
        obtain ⟨N1, hN1⟩ : ∃ r, (NthR o k).1 = r := ⟨_, rfl⟩
        obtain ⟨N2, hN2⟩ : ∃ r, (NthR o k).2 = r := ⟨_, rfl⟩
        rw [hN1] at HLN
        have HC1 := Lib.hid hC1
        have HC2 := Lib.hid hC2
        have HR1 := Lib.hid hR1
        have HR2 := Lib.hid hR2
        have HN1 := Lib.hid hN1
        have HN2 := Lib.hid hN2
        clear hC1 hC2 hR1 hR2 hN1 hN2
        obtain ⟨q0, q1, q2⟩ := B1.out.b
        have qb := lt_of_cell q0
        go_wp2_with fail
        clear q0 q1 q2 qb
        have hF := Count_any o ao bo ca cb  w1 B1.out.p
        rw [HC1.out, HC2.out] at hF
        refine hF.mono ?_
        clear hF
        rintro e w2 ⟨rfl, hk⟩
        have B2 := Lib.hid (B1.out.kept hk)
        clear hk B1
        obtain ⟨q0, q1, q2⟩ := B2.out.b
        have qb := lt_of_cell q0
        go_wp2_with fail
        clear q0 q1 q2 qb
        have hF := RCount_any o ao bo ca cb  w2 B2.out.p
        rw [HC1.out, HC2.out] at hF
        refine hF.mono ?_
        clear hF
        rintro e w3 ⟨rfl, hk⟩
        have B3 := Lib.hid (B2.out.kept hk)
        clear hk B2
        obtain ⟨q0, q1, q2⟩ := B3.out.b
        have qb := lt_of_cell q0
        go_wp2_with fail
        clear q0 q1 q2 qb
        have hF := Rank_any o ao bo ca cb l lo c w3 B3.out.p B3.out.l (by omega)
        rw [HR1.out, HR2.out] at hF
        refine hF.mono ?_
        clear hF
        rintro e w4 ⟨rfl, hk⟩
        have B4 := Lib.hid (B3.out.kept hk)
        clear hk B3
        obtain ⟨q0, q1, q2⟩ := B4.out.b
        have qb := lt_of_cell q0
        go_wp2_with fail
        clear q0 q1 q2 qb
        have hF := RRank_any o ao bo ca cb l lo c w4 B4.out.p B4.out.l (by omega) hlc
        rw [HR1.out, HR2.out] at hF
        refine hF.mono ?_
        clear hF
        rintro e w5 ⟨rfl, hk⟩
        have B5 := Lib.hid (B4.out.kept hk)
        clear hk B4
        obtain ⟨q0, q1, q2⟩ := B5.out.b
        have qb := lt_of_cell q0
        go_wp2_with fail
        clear q0 q1 q2 qb
        have hF := Nth_any o ao bo ca cb k w5 B5.out.p
        rw [HN1.out, HN2.out] at hF
        refine hF.mono ?_
        clear hF
        rintro e w6 ⟨_, rfl, ⟨ta, tc, rfl, -, hi, -⟩, hk⟩
        have B6 := Lib.hid (B5.out.kept hk)
        have HI6 := Lib.hid hi
        clear hi
        clear hk B5
        obtain ⟨q0, q1, q2⟩ := B6.out.b
        have qb := lt_of_cell q0
        go_wp2_with fail
        clear q0 q1 q2 qb
        have hF := RNth_any o ao bo ca cb k w6 B6.out.p
        rw [HN1.out, HN2.out] at hF
        refine hF.mono ?_
        clear hF
        rintro e w7 ⟨_, rfl, ⟨sa, sc, rfl, -, hj, -⟩, hk⟩
        have B7 := Lib.hid (B6.out.kept hk)
        have HI7 := Lib.hid (HI6.out.kept hk)
        have HJ7 := Lib.hid hj
        clear hj HI6
        clear hk B6
        go_wp2_with fail
        refine (alive_any w7).mono ?_
        rintro e w8 ⟨rfl, hk⟩
        have B8 := Lib.hid (B7.out.kept hk)
        have HI8 := Lib.hid (HI7.out.kept hk)
        have HJ8 := Lib.hid (HJ7.out.kept hk)
        clear hk B7 HI7 HJ7
        have e1 : (C1 == C1) = true := by simp
        have e2 : (C2 == C2) = true := by simp
        have e3 : (R1 == R1) = true := by simp
        have e4 : (R2 == R2) = true := by simp
        have e5 : (N2 == N2) = true := by simp
        go_wp2_with fail
        refine (same_any N1 ta sa tc sc _ w8 HI8.out HJ8.out rfl (by have h : N1.length ≤ 24 := HLN.out; omega)).mono ?_
        rintro e w9 ⟨rfl, hk⟩
        have B9 := Lib.hid (B8.out.kept hk)
        clear hk
        go_wp2
        go_ret
        exact ⟨rfl, B9.out.k⟩
      · have e7 : decide ((l.length : Int) > 30) = true := decide_eq_true (by omega)
        clear hll
        obtain ⟨q0, q1, q2⟩ := HB1.out
        have qb := lt_of_cell q0
        go_wp2_with fail
        refine (alive_any w1).mono ?_
        rintro e w1z ⟨rfl, hk⟩
        have HKZ := Lib.hid (HK1.out.trans hk)
        clear hk
        go_wp2
        go_ret
        exact ⟨rfl, HKZ.out⟩
end Go.Proofs.Yteljjkghjbofnaa

