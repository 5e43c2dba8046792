/- OrderCloses. -/
import Derived.Test.YteljjkghjbofnaaTf
import Derived.Test.YteljjkghjbofnaaTc
set_option maxRecDepth 100000
namespace Go.Proofs.Yteljjkghjbofnaa
open Go Go.Proofs Go.RowKit
attribute [local go_sem] Oper.semAt_some

theorem closeR_len (o : Prob) : (CloseR o).1.arcs.length ≤ 576 ∧ (CloseR o).1.near.length ≤ o.near.length := by
  unfold CloseR
  by_cases hc : chk o = 0
  · rw [if_pos hc]; exact ⟨prob_len hc _, Nat.le_refl _⟩
  · rw [if_neg hc]; exact ⟨by simp, by simp⟩
theorem reduceR_len (o : Prob) : (ReduceR o).1.arcs.length ≤ 576 ∧ (ReduceR o).1.near.length ≤ o.near.length := by
  unfold ReduceR
  by_cases hc : errS o = 0
  · rw [if_pos hc]; exact ⟨prob_len (errS_ok hc).1 _, Nat.le_refl _⟩
  · rw [if_neg hc]; exact ⟨by simp, by simp⟩

set_option maxHeartbeats 2000000 in
theorem OrderCloses_any (o : Prob) (ao bo : Option Addr) (ca cb : Nat) (w : World) (hA : Pairs w ao o.arcs) (hB : Pairs w bo o.near) (hnil : bo = none → cb = 0) :
    Calls Try.prog 12 #[probV o ao ca bo cb] w (Gives (.bool true) w) := by
  have HO : Hid (slimB o = true → IsProb w o ao bo) := Lib.hid fun h => by
    unfold slimB at h
    simp at h
    exact ⟨hA, hB, by omega, by omega⟩
  have HNIL := Lib.hid hnil
  clear hA hB hnil
  go_enter Try.func12, Try.ntmps12
  go_wp2_with fail
  obtain ⟨w0, e0, hk0, hb0, -⟩ := alloc_prob w o.N o.arcs o.near ao ca bo cb
  rw [e0]
  clear e0
  have HK0 := Lib.hid hk0
  have HB0 := Lib.hid hb0
  clear hk0
  obtain ⟨q0, q1, q2⟩ := hb0
  have qb := lt_of_cell q0
  go_wp2_with fail
  clear q0 q1 q2 qb
  refine (slim_any o ao bo ca cb w0).mono ?_
  rintro e w1 ⟨rfl, hk⟩
  have HK1 := Lib.hid (HK0.out.trans hk)
  have HB1 := Lib.hid (HB0.out.kept hk)
  clear hk HK0 HB0
  cases hs : slimB o
  · clear hs
    go_wp2_with fail
    refine (alive_any w1).mono ?_
    rintro e w2 ⟨rfl, hk⟩
    have HK2 := Lib.hid (HK1.out.trans hk)
    clear hk HK1
    go_wp2
    go_ret
    exact ⟨rfl, HK2.out⟩
  · have HOK := Lib.hid (HO.out hs)
    have HN : Hid (o.arcs.length < 1099511627776 ∧ o.near.length < 1099511627776) := Lib.hid (by
      unfold slimB at hs
      simp at hs
      omega)
    clear hs
    have B1 : Hid (Bag w w1 w.heap.size o ao ca bo cb none []) := Lib.hid ⟨HOK.out.kept HK1.out, HB1.out, fun i hi => absurd hi (Nat.not_lt_zero _), HK1.out⟩
    clear HO HOK HK1 HB1
    obtain ⟨C, hC⟩ : ∃ C, (CloseR o).1 = C := ⟨_, rfl⟩
    obtain ⟨fc, hfc⟩ : ∃ C, (CloseR o).2 = C := ⟨_, rfl⟩
    obtain ⟨R, hR⟩ : ∃ C, (ReduceR o).1 = C := ⟨_, rfl⟩
    obtain ⟨fr, hfr⟩ : ∃ C, (ReduceR o).2 = C := ⟨_, rfl⟩
    have HLC : Hid (C.arcs.length < 1152921504606846976 ∧ C.near.length < 1152921504606846976) := Lib.hid (by have := closeR_len o; have := HN.out; rw [← hC]; omega)
    have HLR : Hid (R.arcs.length < 1152921504606846976 ∧ R.near.length < 1152921504606846976) := Lib.hid (by have := reduceR_len o; have := HN.out; rw [← hR]; omega)
    have HC := Lib.hid hC
    have HFC := Lib.hid hfc
    have HR := Lib.hid hR
    have HFR := Lib.hid hfr
    clear hC hfc hR hfr
    obtain ⟨q0, q1, q2⟩ := B1.out.b
    have qb := lt_of_cell q0
    go_wp2_with fail
    clear q0 q1 q2 qb
    have hF := Close_any o ao bo ca cb w1 B1.out.p HN.out.2
    rw [HC.out] at hF
    rw [HFC.out] at hF
    refine hF.mono ?_
    clear hF
    rintro e w2 ⟨xaA, xcA, yaA, ycA, rfl, hva, hvb, hk⟩
    have IA : Hid (IsProb w2 C xaA yaA) := Lib.hid ⟨ownPairs hva, ownPairs hvb, HLC.out.1, HLC.out.2⟩
    clear hva hvb
    have B2 := Lib.hid (B1.out.kept hk)
    clear hk B1
    obtain ⟨w2b, e2, hk, hbA, -⟩ := alloc_prob w2 (C.N) (C.arcs) (C.near) xaA xcA yaA ycA
    have XA := Lib.hid hbA
    have BN := Lib.hid (B2.out.kept hk)
    have IA := Lib.hid (IA.out.kept hk)
    clear hk B2
    have B2 := BN
    clear BN
    obtain ⟨p0, p1, p2⟩ := hbA
    have pb := lt_of_cell p0
    obtain ⟨q0, q1, q2⟩ := B2.out.b
    have qb := lt_of_cell q0
    go_wp2_with fail
    clear q0 q1 q2 qb p0 p1 p2 pb e2
    have hF := RClose_any o ao bo ca cb w2b B2.out.p HN.out.2 HNIL.out
    rw [HC.out] at hF
    rw [HFC.out] at hF
    refine hF.mono ?_
    clear hF
    rintro e w3 ⟨xaB, xcB, yaB, ycB, rfl, hva, hvb, hk⟩
    have IB : Hid (IsProb w3 C xaB yaB) := Lib.hid ⟨ownPairs hva, ownPairs hvb, HLC.out.1, HLC.out.2⟩
    clear hva hvb
    have B3 := Lib.hid (B2.out.kept hk)
    have IA := Lib.hid (IA.out.kept hk)
    have XA := Lib.hid (XA.out.kept hk)
    clear hk B2
    obtain ⟨w3b, e3, hk, hbB, -⟩ := alloc_prob w3 (C.N) (C.arcs) (C.near) xaB xcB yaB ycB
    have XB := Lib.hid hbB
    have BN := Lib.hid (B3.out.kept hk)
    have IA := Lib.hid (IA.out.kept hk)
    have XA := Lib.hid (XA.out.kept hk)
    have IB := Lib.hid (IB.out.kept hk)
    clear hk B3
    have B3 := BN
    clear BN
    obtain ⟨p0, p1, p2⟩ := hbB
    have pb := lt_of_cell p0
    obtain ⟨q0, q1, q2⟩ := B3.out.b
    have qb := lt_of_cell q0
    go_wp2_with fail
    clear q0 q1 q2 qb p0 p1 p2 pb e3
    have hF := Reduce_any o ao bo ca cb w3b B3.out.p HN.out.2
    rw [HR.out] at hF
    rw [HFR.out] at hF
    refine hF.mono ?_
    clear hF
    rintro e w4 ⟨xaD, xcD, yaD, ycD, rfl, hva, hvb, hk⟩
    have ID : Hid (IsProb w4 R xaD yaD) := Lib.hid ⟨ownPairs hva, ownPairs hvb, HLR.out.1, HLR.out.2⟩
    clear hva hvb
    have B4 := Lib.hid (B3.out.kept hk)
    have IA := Lib.hid (IA.out.kept hk)
    have XA := Lib.hid (XA.out.kept hk)
    have IB := Lib.hid (IB.out.kept hk)
    have XB := Lib.hid (XB.out.kept hk)
    clear hk B3
    obtain ⟨w4b, e4, hk, hbD, -⟩ := alloc_prob w4 (R.N) (R.arcs) (R.near) xaD xcD yaD ycD
    have XD := Lib.hid hbD
    have BN := Lib.hid (B4.out.kept hk)
    have IA := Lib.hid (IA.out.kept hk)
    have XA := Lib.hid (XA.out.kept hk)
    have IB := Lib.hid (IB.out.kept hk)
    have XB := Lib.hid (XB.out.kept hk)
    have ID := Lib.hid (ID.out.kept hk)
    clear hk B4
    have B4 := BN
    clear BN
    obtain ⟨p0, p1, p2⟩ := hbD
    have pb := lt_of_cell p0
    obtain ⟨q0, q1, q2⟩ := B4.out.b
    have qb := lt_of_cell q0
    go_wp2_with fail
    clear q0 q1 q2 qb p0 p1 p2 pb e4
    have hF := RReduce_any o ao bo ca cb w4b B4.out.p HN.out.2 HN.out.1 HNIL.out
    rw [HR.out] at hF
    rw [HFR.out] at hF
    refine hF.mono ?_
    clear hF
    rintro e w5 ⟨xaE, xcE, yaE, ycE, rfl, hva, hvb, hk⟩
    have IE : Hid (IsProb w5 R xaE yaE) := Lib.hid ⟨ownPairs hva, ownPairs hvb, HLR.out.1, HLR.out.2⟩
    clear hva hvb
    have B5 := Lib.hid (B4.out.kept hk)
    have IA := Lib.hid (IA.out.kept hk)
    have XA := Lib.hid (XA.out.kept hk)
    have IB := Lib.hid (IB.out.kept hk)
    have XB := Lib.hid (XB.out.kept hk)
    have ID := Lib.hid (ID.out.kept hk)
    have XD := Lib.hid (XD.out.kept hk)
    clear hk B4
    obtain ⟨w5b, e5, hk, hbE, -⟩ := alloc_prob w5 (R.N) (R.arcs) (R.near) xaE xcE yaE ycE
    have XE := Lib.hid hbE
    have BN := Lib.hid (B5.out.kept hk)
    have IA := Lib.hid (IA.out.kept hk)
    have XA := Lib.hid (XA.out.kept hk)
    have IB := Lib.hid (IB.out.kept hk)
    have XB := Lib.hid (XB.out.kept hk)
    have ID := Lib.hid (ID.out.kept hk)
    have XD := Lib.hid (XD.out.kept hk)
    have IE := Lib.hid (IE.out.kept hk)
    clear hk B5
    have B5 := BN
    clear BN
    obtain ⟨p0, p1, p2⟩ := hbE
    have pb := lt_of_cell p0
    obtain ⟨q0, q1, q2⟩ := B5.out.b
    have qb := lt_of_cell q0
    go_wp2_with fail
    clear q0 q1 q2 qb p0 p1 p2 pb e5
    have hF := alive_any w5b
    refine hF.mono ?_
    clear hF
    rintro e w6 ⟨rfl, hk⟩
    have B6 := Lib.hid (B5.out.kept hk)
    have IA := Lib.hid (IA.out.kept hk)
    have XA := Lib.hid (XA.out.kept hk)
    have IB := Lib.hid (IB.out.kept hk)
    have XB := Lib.hid (XB.out.kept hk)
    have ID := Lib.hid (ID.out.kept hk)
    have XD := Lib.hid (XD.out.kept hk)
    have IE := Lib.hid (IE.out.kept hk)
    have XE := Lib.hid (XE.out.kept hk)
    clear hk B5
    have ec : (fc == fc) = true := by simp
    have er : (fr == fr) = true := by simp
    obtain ⟨q0, q1, q2⟩ := XA.out
    have qb := lt_of_cell q0
    obtain ⟨p0, p1, p2⟩ := XB.out
    have pb := lt_of_cell p0
    go_wp2_with fail
    clear q0 q1 q2 qb p0 p1 p2 pb
    have hF := Same_any C xaA yaA xaB yaB xcA ycA xcB ycB w6 IA.out IB.out
    refine hF.mono ?_
    clear hF
    rintro e w7 ⟨rfl, hk⟩
    have B7 := Lib.hid (B6.out.kept hk)
    have IA := Lib.hid (IA.out.kept hk)
    have XA := Lib.hid (XA.out.kept hk)
    have IB := Lib.hid (IB.out.kept hk)
    have XB := Lib.hid (XB.out.kept hk)
    have ID := Lib.hid (ID.out.kept hk)
    have XD := Lib.hid (XD.out.kept hk)
    have IE := Lib.hid (IE.out.kept hk)
    have XE := Lib.hid (XE.out.kept hk)
    clear hk B6
    obtain ⟨q0, q1, q2⟩ := XD.out
    have qb := lt_of_cell q0
    obtain ⟨p0, p1, p2⟩ := XE.out
    have pb := lt_of_cell p0
    go_wp2_with fail
    clear q0 q1 q2 qb p0 p1 p2 pb
    have hF := Same_any R xaD yaD xaE yaE xcD ycD xcE ycE w7 ID.out IE.out
    refine hF.mono ?_
    clear hF
    rintro e w8 ⟨rfl, hk⟩
    have B8 := Lib.hid (B7.out.kept hk)
    clear hk B7
    go_wp2
    go_ret
    exact ⟨rfl, B8.out.k⟩
end Go.Proofs.Yteljjkghjbofnaa
