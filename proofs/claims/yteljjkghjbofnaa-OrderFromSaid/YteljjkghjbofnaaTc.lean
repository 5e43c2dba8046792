/- ref.Same; OrderStands. -/
import Derived.Test.YteljjkghjbofnaaTb
import Derived.Test.YteljjkghjbofnaaXh
set_option maxRecDepth 100000
namespace Go.Proofs.Yteljjkghjbofnaa
open Go Go.Proofs Go.RowKit
attribute [local go_sem] Oper.semAt_some

theorem ownPairs {X : World} {base n c : Nat} {ao : Option Addr} {l : List (Int × Int)} (h : OwnG X base 83 2 pairC (.slice ao n c) l) : Pairs X ao l := by
  obtain ⟨ao', c', e, hp, -⟩ := h.prs
  simp only [Value.slice.injEq] at e
  rw [e.1]; exact hp

set_option maxHeartbeats 800000 in
theorem sameP_any (l : List (Int × Int)) (ao bo : Option Addr) (ca cb : Nat) (w : World) (ha : Pairs w ao l) (hb : Pairs w bo l) (hl : l.length < 1152921504606846976) : Calls Try.prog 62 #[.slice ao l.length ca, .slice bo l.length cb] w (Gives (.bool true) w) := by
  have HA := Lib.hid ha
  have HB := Lib.hid hb
  clear ha hb
  have hne : ((l.length : Int) != (l.length : Int)) = false := by simp
  go_enter Try.func62, Try.ntmps62
  go_wp2
  go_loopw [5] (fun i wr => ∃ k : Nat, k ≤ l.length ∧ i = .int .i64 k ∧ Kept w wr) (fun i _ => l.length - (intOf i).toNat)
  case atStart => exact ⟨0, Nat.zero_le _, rfl, Kept.refl _⟩
  case round =>
    obtain ⟨k, hk, rfl, hkw⟩ := hrel
    have HKW := Lib.hid hkw
    clear hkw
    by_cases hlt : k < l.length
    · obtain ⟨g1, o1, rfl, a0, a1⟩ := (HA.out.kept HKW.out) k hlt
      obtain ⟨g2, o2, rfl, b0, b1⟩ := (HB.out.kept HKW.out) k hlt
      generalize l[k] = x at *
      obtain ⟨x0, x1⟩ := x
      simp only [] at a0 a1 b0 b1
      go_wp2
      refine region_tail 8 (by kernel_rfl) (by kernel_rfl) ?_
      simp only [List.take_succ_cons, List.take_zero, List.drop_succ_cons, List.drop_zero]
      iterate 8
        with_reducible refine wpStill_want ?_ (fun K hK => ?_)
        · rfl
        go_simp
        refine hK _ ?_
        clear hK K
      with_reducible refine wpStill_nil ?_
      go_wp2
      go_roundw
      case measure => simp [intOf] <;> omega
      case rel => exact ⟨k + 1, by omega, by go_num, HKW.out.drew⟩
    · go_wp2
      go_ret
      exact ⟨rfl, HKW.out⟩

set_option maxHeartbeats 800000 in
theorem Same_any (P : Prob) (ao bo ao' bo' : Option Addr) (ca cb ca' cb' : Nat) (w : World) (h1 : IsProb w P ao bo) (h2 : IsProb w P ao' bo') :
    Calls Try.prog 59 #[probV P ao ca bo cb, probV P ao' ca' bo' cb'] w (Gives (.bool true) w) := by
  have H1 := Lib.hid h1
  have H2 := Lib.hid h2
  clear h1 h2
  go_enter Try.func59, Try.ntmps59
  go_wp2_with fail
  obtain ⟨w0, e0, hk0, hb0, e5⟩ := alloc_prob w P.N P.arcs P.near ao ca bo cb
  rw [e0]
  clear e0
  obtain ⟨w1, e1, hk1, hb1, -⟩ := alloc_prob w0 P.N P.arcs P.near ao' ca' bo' cb'
  rw [e1]
  clear e1
  rw [← e5] at hb1
  have HK1 := Lib.hid (hk0.trans hk1)
  have HA := Lib.hid (hb0.kept hk1)
  have HB := Lib.hid hb1
  clear hk0 hk1 hb0 hb1 e5
  refine (sameP_any P.arcs ao ao' ca ca' w1 (H1.out.kept HK1.out).arcs (H2.out.kept HK1.out).arcs H1.out.la).mono ?_
  rintro e w2 ⟨rfl, hk⟩
  have HK2 := Lib.hid (HK1.out.trans hk)
  have HA2 := Lib.hid (HA.out.kept hk)
  have HB2 := Lib.hid (HB.out.kept hk)
  clear hk HA HB
  obtain ⟨p0, p1, p2⟩ := HA2.out
  have pb := lt_of_cell p0
  obtain ⟨q0, q1, q2⟩ := HB2.out
  have qb := lt_of_cell q0
  go_wp2_with fail
  clear p0 p1 p2 pb q0 q1 q2 qb
  refine (sameP_any P.near bo bo' cb cb' w2 (H1.out.kept HK2.out).near (H2.out.kept HK2.out).near H1.out.lb).mono ?_
  rintro e w3 ⟨rfl, hk⟩
  have HK3 := Lib.hid (HK2.out.trans hk)
  obtain ⟨p0, p1, p2⟩ := HA2.out.kept hk
  have pb := lt_of_cell p0
  obtain ⟨q0, q1, q2⟩ := HB2.out.kept hk
  have qb := lt_of_cell q0
  have hee : (P.N == P.N) = true := by simp
  clear hk
  go_wp2
  go_ret
  exact ⟨rfl, HK3.out⟩

theorem prob_len {o : Prob} (hc : chk o = 0) (want : Mx) : (keptK want (webOf o).n (webOf o).n).length ≤ 576 :=
  Nat.le_trans (keptK_len _ _ _) (Nat.mul_le_mul (webOf_n hc) (webOf_n hc))
theorem stand1 {o : Prob} {a b : Int} (h : standP o a b = 1) : chk o = 0 ∧ (0 ≤ a ∧ a < o.N) ∧ (0 ≤ b ∧ b < o.N) ∧ hasS ((webOf o).reach a.toNat) b.toNat = true := by
  unfold standP at h
  by_cases hc : chk o = 0 ∧ (0 ≤ a ∧ a < o.N) ∧ (0 ≤ b ∧ b < o.N) ∧ a ≠ b
  · rw [if_pos hc] at h
    refine ⟨hc.1, hc.2.1, hc.2.2.1, ?_⟩
    unfold standW at h
    cases hr : hasS ((webOf o).reach a.toNat) b.toNat
    · rw [hr] at h
      cases hr2 : hasS ((webOf o).reach b.toNat) a.toNat <;> rw [hr2] at h <;> simp at h
    · rfl
  · rw [if_neg hc] at h; cases h
theorem stand_before {o : Prob} {a b : Int} {l : List Int} (h : standP o a b = 1) (ho : orderedB (webOf o) l = true) : l.idxOf a < l.idxOf b ∧ l.idxOf a < l.length := by
  obtain ⟨hc, ha, hb, hr⟩ := stand1 h
  have hn := webOf_nI hc
  have hw := woven_of o
  have hp := hw.path a.toNat b.toNat (by omega) hr
  have h2 := ordered_before (webOf_n hc) (fun p => webOf_irr hc p) ho hp (by omega) (by omega)
  rw [show ((a.toNat : Nat) : Int) = a by omega, show ((b.toNat : Nat) : Int) = b by omega] at h2
  obtain ⟨h1, h3, h4, _⟩ := orderedB_iff.1 ho
  have hm := mem_full h1 h3 h4 (q := a.toNat) (by omega)
  rw [show ((a.toNat : Nat) : Int) = a by omega] at hm
  exact ⟨h2, List.idxOf_lt_length_iff.2 hm⟩

set_option maxHeartbeats 400000 in
theorem OrderStands_wide (o : Prob) (ao bo : Option Addr) (ca cb : Nat) (l : List Int) (lo : Option Addr) (c : Nat) (a b : Int) (w : World) (ho : slimB o = true → IsProb w o ao bo) (h : slimB o = false ∨ 30 < l.length ∨ chk o ≠ 0) :
    Calls Try.prog 13 #[probV o ao ca bo cb, .slice lo l.length c, .int .i64 a, .int .i64 b] w (Gives (.bool true) w) := by
  have HO := Lib.hid ho
  clear ho
  go_enter Try.func13, Try.ntmps13
  go_wp2_with fail
  obtain ⟨w0, e0, hk0, hb0, -⟩ := alloc_prob w o.N o.arcs o.near ao ca bo cb
  rw [e0]
  clear e0
  have HK0 := Lib.hid hk0
  have HB0 := Lib.hid hb0
  clear hk0
  obtain ⟨q0, q1, q2⟩ := hb0
  have qb := lt_of_cell q0
  go_wp2_with fail
  clear q0 q1 q2 qb
  refine (slim_any o ao bo ca cb w0).mono ?_
  rintro e w1 ⟨rfl, hk⟩
  have HK1 := Lib.hid (HK0.out.trans hk)
  have HB1 := Lib.hid (HB0.out.kept hk)
  clear hk HK0 HB0
  cases hs : slimB o
  · clear h hs
    go_wp2_with fail
    refine (alive_any w1).mono ?_
    rintro e w2 ⟨rfl, hk⟩
    have HK2 := Lib.hid (HK1.out.trans hk)
    clear hk HK1
    go_wp2
    go_ret
    exact ⟨rfl, HK2.out⟩
  · have HOK := Lib.hid (HO.out hs)
    have h2 : 30 < l.length ∨ chk o ≠ 0 := h.resolve_left (by rw [hs]; simp)
    clear h hs
    by_cases h30 : 30 < l.length
    · have hd : decide ((30 : Int) < l.length) = true := decide_eq_true (by omega)
      clear h2 h30
      go_wp2_with fail
      refine (alive_any w1).mono ?_
      rintro e w2 ⟨rfl, hk⟩
      have HK2 := Lib.hid (HK1.out.trans hk)
      clear hk HK1
      go_wp2
      go_ret
      exact ⟨rfl, HK2.out⟩
    · have hd : decide ((30 : Int) < l.length) = false := decide_eq_false (by omega)
      have hc := h2.resolve_left h30
      have hcb : (chk o != 0) = true := by simp [hc]
      clear h2 h30 hc
      obtain ⟨q0, q1, q2⟩ := HB1.out
      have qb := lt_of_cell q0
      go_wp2_with fail
      clear q0 q1 q2 qb
      refine (Check_any o ao bo ca cb w1 (HOK.out.kept HK1.out)).mono ?_
      rintro e w2 ⟨rfl, hk⟩
      have HK2 := Lib.hid (HK1.out.trans hk)
      clear hk HK1
      go_wp2_with fail
      refine (alive_any w2).mono ?_
      rintro e w3 ⟨rfl, hk⟩
      have HK3 := Lib.hid (HK2.out.trans hk)
      clear hk HK2
      go_wp2
      go_ret
      exact ⟨rfl, HK3.out⟩

set_option maxHeartbeats 4000000 in
theorem OrderStands_main (o : Prob) (ao bo : Option Addr) (ca cb : Nat) (l : List Int) (lo : Option Addr) (c : Nat) (a b : Int) (w : World) (ho : IsProb w o ao bo) (hl : Ints w lo l) (hs : slimB o = true) (h30 : l.length ≤ 30) (hc : chk o = 0) :
    Calls Try.prog 13 #[probV o ao ca bo cb, .slice lo l.length c, .int .i64 a, .int .i64 b] w (Gives (.bool true) w) := by
  obtain ⟨s, hss⟩ : ∃ s, standP o a b = s := ⟨_, rfl⟩
  obtain ⟨C, hC⟩ : ∃ C, closeP o = C := ⟨_, rfl⟩
  obtain ⟨R, hR⟩ : ∃ R, reduceP o = R := ⟨_, rfl⟩
  obtain ⟨f, hf⟩ : ∃ f, errS o = f := ⟨_, rfl⟩
  obtain ⟨ob, hob⟩ : ∃ x, orderedB (webOf o) l = x := ⟨_, rfl⟩
  have hnl : o.near.length ≤ 300 := by unfold slimB at hs; simp at hs; exact hs.2
  have HNL : Hid (o.near.length < 1099511627776) := Lib.hid (by omega)
  have HCR : Hid (CloseR o = (C, 0)) := Lib.hid (by unfold CloseR; rw [if_pos hc, hC])
  have HCC : Hid (chk C = 0) := Lib.hid (by rw [← hC]; exact chk_close hc)
  have HCS : Hid (standP C a b = s) := Lib.hid (by rw [← hC, stand_close hc, hss])
  have HLC : Hid (C.arcs.length < 1152921504606846976 ∧ C.near.length < 1152921504606846976) := Lib.hid (by
    have h1 : C.arcs.length ≤ 576 := by rw [← hC]; exact prob_len hc _
    have h2 : C.near = o.near := by rw [← hC]; rfl
    rw [h2]; omega)
  have HLR : Hid (R.arcs.length < 1152921504606846976 ∧ R.near.length < 1152921504606846976) := Lib.hid (by
    have h1 : R.arcs.length ≤ 576 := by rw [← hR]; exact prob_len hc _
    have h2 : R.near = o.near := by rw [← hR]; rfl
    rw [h2]; omega)
  have HRR : Hid (ReduceR o = if f = 0 then (R, 0) else (⟨0, [], []⟩, f)) := Lib.hid (by unfold ReduceR; rw [hf, hR])
  have HRN : Hid (R.near.length < 1099511627776) := Lib.hid (by rw [← hR]; show o.near.length < _; omega)
  have HRC : Hid (f = 0 → CloseR R = (C, 0)) := Lib.hid fun h => by
    obtain ⟨_, h2⟩ := errS_ok (hf.trans h)
    unfold CloseR
    rw [← hR, if_pos (chk_reduce hc), close_reduce hc h2, hC]
  have HRS : Hid (f = 0 → standP R a b = s) := Lib.hid fun h => by rw [← hR, stand_reduce hc (errS_ok (hf.trans h)).2, hss]
  have HRL : Hid (R.arcs.length ≤ o.arcs.length) := Lib.hid (by rw [← hR]; exact reduceL_len hc)
  have HOF : Hid (ob = true → f = 0) := Lib.hid fun h => by
    rw [← hf]
    have := ordered_circ (webOf_n hc) (woven_of o) (fun p _ => webOf_irr hc p) (hob.trans h)
    unfold errS
    rw [if_pos hc, this]; rfl
  have HBE : Hid (s = 1 → ob = true → l.idxOf a < l.idxOf b ∧ l.idxOf a < l.length) := Lib.hid fun h1 h2 => stand_before (hss.trans h1) (hob.trans h2)
  have HCO : Hid (CheckOrderR o l = (ob, 0)) := Lib.hid (by unfold CheckOrderR; rw [if_pos hc, hob])
  have HSS := Lib.hid hss
  have HC := Lib.hid hc
  have HLL : Hid (l.length < 1152921504606846976) := Lib.hid (by omega)
  have hd : decide ((30 : Int) < l.length) = false := decide_eq_false (by omega)
  clear hss hC hR hf hob hnl hc h30
  go_enter Try.func13, Try.ntmps13
  go_wp2_with fail
  obtain ⟨w0, e0, hk0, hb0, -⟩ := alloc_prob w o.N o.arcs o.near ao ca bo cb
  rw [e0]
  clear e0
  have B0 : Hid (Bag w w0 w.heap.size o ao ca bo cb lo l) := Lib.hid ⟨ho.kept hk0, hb0, hl.kept hk0, hk0⟩
  clear ho hl hk0
  obtain ⟨q0, q1, q2⟩ := hb0
  have qb := lt_of_cell q0
  go_wp2_with fail
  clear q0 q1 q2 qb
  refine (slim_any o ao bo ca cb w0).mono ?_
  rw [hs]
  rintro e w1 ⟨rfl, hk⟩
  have B1 := Lib.hid (B0.out.kept hk)
  clear hk B0
  obtain ⟨q0, q1, q2⟩ := B1.out.b
  have qb := lt_of_cell q0
  go_wp2_with fail
  clear q0 q1 q2 qb
  have hF := Check_any o ao bo ca cb w1 B1.out.p
  rw [HC.out] at hF
  refine hF.mono ?_
  clear hF
  rintro e w2 ⟨rfl, hk⟩
  have B2 := Lib.hid (B1.out.kept hk)
  clear hk B1
  obtain ⟨q0, q1, q2⟩ := B2.out.b
  have qb := lt_of_cell q0
  go_wp2_with fail
  clear q0 q1 q2 qb
  have hF := Standing_any o ao bo ca cb a b w2 B2.out.p
  rw [HSS.out] at hF
  refine hF.mono ?_
  clear hF
  rintro e w3 ⟨rfl, hk⟩
  have B3 := Lib.hid (B2.out.kept hk)
  clear hk B2
  obtain ⟨q0, q1, q2⟩ := B3.out.b
  have qb := lt_of_cell q0
  go_wp2_with fail
  clear q0 q1 q2 qb
  have hF := Close_any o ao bo ca cb w3 B3.out.p HNL.out
  rw [HCR.out] at hF
  refine hF.mono ?_
  clear hF
  rintro e w4 ⟨xaC, xcC, yaC, ycC, rfl, hva, hvb, hk⟩
  have IC : Hid (IsProb w4 C xaC yaC) := Lib.hid ⟨ownPairs hva, ownPairs hvb, HLC.out.1, HLC.out.2⟩
  clear hva hvb
  have B4 := Lib.hid (B3.out.kept hk)
  clear hk B3
  obtain ⟨w4b, e4, hk, hbC, -⟩ := alloc_prob w4 (C.N) (C.arcs) (C.near) xaC xcC yaC ycC
  have XC := Lib.hid hbC
  have BN := Lib.hid (B4.out.kept hk)
  have IC := Lib.hid (IC.out.kept hk)
  clear hk B4
  have B4 := BN
  clear BN
  obtain ⟨p0, p1, p2⟩ := hbC
  have pb := lt_of_cell p0
  obtain ⟨q0, q1, q2⟩ := B4.out.b
  have qb := lt_of_cell q0
  have ess : (s != s) = false := by simp
  go_wp2_with fail
  clear q0 q1 q2 qb p0 p1 p2 pb e4
  have hF := Standing_any C xaC yaC xcC ycC a b w4b IC.out
  rw [HCS.out] at hF
  refine hF.mono ?_
  clear hF
  rintro e w5 ⟨rfl, hk⟩
  have B5 := Lib.hid (B4.out.kept hk)
  have IC := Lib.hid (IC.out.kept hk)
  have XC := Lib.hid (XC.out.kept hk)
  clear hk B4
  obtain ⟨q0, q1, q2⟩ := B5.out.b
  have qb := lt_of_cell q0
  go_wp2_with fail
  clear q0 q1 q2 qb
  have hF := Reduce_any o ao bo ca cb w5 B5.out.p HNL.out
  rw [HRR.out] at hF
  by_cases hf0 : f = 0
  · subst hf0
    rw [if_pos rfl] at hF
    have HRC0 := Lib.hid (HRC.out rfl)
    have HRS0 := Lib.hid (HRS.out rfl)
    refine hF.mono ?_
    clear hF
    rintro e w6 ⟨xaR, xcR, yaR, ycR, rfl, hva, hvb, hk⟩
    have IR : Hid (IsProb w6 R xaR yaR) := Lib.hid ⟨ownPairs hva, ownPairs hvb, HLR.out.1, HLR.out.2⟩
    clear hva hvb
    have B6 := Lib.hid (B5.out.kept hk)
    have IC := Lib.hid (IC.out.kept hk)
    have XC := Lib.hid (XC.out.kept hk)
    clear hk B5
    obtain ⟨w6b, e6, hk, hbR, -⟩ := alloc_prob w6 (R.N) (R.arcs) (R.near) xaR xcR yaR ycR
    have XR := Lib.hid hbR
    have BN := Lib.hid (B6.out.kept hk)
    have IC := Lib.hid (IC.out.kept hk)
    have XC := Lib.hid (XC.out.kept hk)
    have IR := Lib.hid (IR.out.kept hk)
    clear hk B6
    have B6 := BN
    clear BN
    obtain ⟨p0, p1, p2⟩ := hbR
    have pb := lt_of_cell p0
    obtain ⟨q0, q1, q2⟩ := B6.out.b
    have qb := lt_of_cell q0
    go_wp2_with fail
    clear q0 q1 q2 qb p0 p1 p2 pb e6
    have hF := Close_any R xaR yaR xcR ycR w6b IR.out HRN.out
    rw [HRC0.out] at hF
    refine hF.mono ?_
    clear hF
    rintro e w7 ⟨xaD, xcD, yaD, ycD, rfl, hva, hvb, hk⟩
    have ID : Hid (IsProb w7 C xaD yaD) := Lib.hid ⟨ownPairs hva, ownPairs hvb, HLC.out.1, HLC.out.2⟩
    clear hva hvb
    have B7 := Lib.hid (B6.out.kept hk)
    have IC := Lib.hid (IC.out.kept hk)
    have XC := Lib.hid (XC.out.kept hk)
    have IR := Lib.hid (IR.out.kept hk)
    have XR := Lib.hid (XR.out.kept hk)
    clear hk B6
    obtain ⟨w7b, e7, hk, hbD, -⟩ := alloc_prob w7 (C.N) (C.arcs) (C.near) xaD xcD yaD ycD
    have XD := Lib.hid hbD
    have BN := Lib.hid (B7.out.kept hk)
    have IC := Lib.hid (IC.out.kept hk)
    have XC := Lib.hid (XC.out.kept hk)
    have IR := Lib.hid (IR.out.kept hk)
    have XR := Lib.hid (XR.out.kept hk)
    have ID := Lib.hid (ID.out.kept hk)
    clear hk B7
    have B7 := BN
    clear BN
    obtain ⟨p0, p1, p2⟩ := hbD
    have pb := lt_of_cell p0
    obtain ⟨q0, q1, q2⟩ := B7.out.b
    have qb := lt_of_cell q0
    obtain ⟨r0, r1, r2⟩ := XC.out
    have rb := lt_of_cell r0
    go_wp2_with fail
    clear r0 r1 r2 rb
    clear q0 q1 q2 qb p0 p1 p2 pb e7
    have hF := Same_any C xaD yaD xaC yaC xcD ycD xcC ycC w7b ID.out IC.out
    refine hF.mono ?_
    clear hF
    rintro e w8 ⟨rfl, hk⟩
    have B8 := Lib.hid (B7.out.kept hk)
    have IR := Lib.hid (IR.out.kept hk)
    have XR := Lib.hid (XR.out.kept hk)
    clear hk B7
    obtain ⟨p0, p1, p2⟩ := XR.out
    have pb := lt_of_cell p0
    go_wp2_with fail
    clear p0 p1 p2 pb
    have hF := Standing_any R xaR yaR xcR ycR a b w8 IR.out
    rw [HRS0.out] at hF
    refine hF.mono ?_
    clear hF
    rintro e w9 ⟨rfl, hk⟩
    have B9 := Lib.hid (B8.out.kept hk)
    have XR := Lib.hid (XR.out.kept hk)
    clear hk B8
    obtain ⟨p0, p1, p2⟩ := XR.out
    have pb := lt_of_cell p0
    obtain ⟨q0, q1, q2⟩ := B9.out.b
    have qb := lt_of_cell q0
    have hgt : decide ((o.arcs.length : Int) < (R.arcs.length : Int)) = false := decide_eq_false (by have := HRL.out; omega)
    have hgt2 : decide (o.arcs.length < R.arcs.length) = false := decide_eq_false (by have := HRL.out; omega)
    go_wp2_with fail
    clear p0 p1 p2 pb q0 q1 q2 qb hgt hgt2
    have hF := CheckOrder_any o ao bo ca cb l lo c w9 B9.out.p B9.out.l HLL.out
    rw [HCO.out] at hF
    refine hF.mono ?_
    clear hF
    rintro e wt ⟨rfl, hk⟩
    have BT := Lib.hid (B9.out.kept hk)
    clear hk B9
    cases ob
    · go_wp2_with fail
      refine (alive_any wt).mono ?_
      rintro e wz ⟨rfl, hk⟩
      have BZ := Lib.hid (BT.out.kept hk)
      clear hk
      go_wp2
      go_ret
      exact ⟨rfl, BZ.out.k⟩
    · by_cases hs1 : s = 1
      · subst hs1
        obtain ⟨hb1, hb2⟩ := HBE.out rfl rfl
        have HB1 := Lib.hid hb1
        have HB2 := Lib.hid hb2
        have HI := BT.out.l
        have HII := Lib.hid HI
        have hll := HLL.out
        clear hb1 hb2 HI
        go_wp2
        go_loop [121] (fun i => ∃ k : Nat, k ≤ l.idxOf a ∧ i = .int .i64 k) (fun i => l.length - (intOf i).toNat)
        case atStart => exact ⟨0, Nat.zero_le _, rfl⟩
        case round =>
          obtain ⟨k, hk, rfl⟩ := hrel
          have hkl : k < l.length := by have := HB2.out; omega
          obtain ⟨B, off, rfl, hcx⟩ := HII.out k hkl
          have hle := idxOf_getElem_le l k hkl
          have HLE : Hid (∀ x, l[k] = x → l.idxOf x ≤ k) := Lib.hid fun x h => by rw [← h]; exact hle
          have HGE : Hid (k = l.idxOf a → l[k] = a) := Lib.hid fun h => by
            have h2 := List.getElem_idxOf HB2.out
            simp only [← h] at h2
            exact h2
          clear hle
          generalize l[k] = x at *
          by_cases hxa : x = a
          · have e1 : (x == a) = true := by simp [hxa]
            clear hxa
            go_wp2_with fail
            refine (alive_any wt).mono ?_
            rintro e wz ⟨rfl, hkz⟩
            have BZ := Lib.hid (BT.out.kept hkz)
            clear hkz
            go_wp2
            go_ret
            exact ⟨rfl, BZ.out.k⟩
          · have hlt : k < l.idxOf a := by
              rcases Nat.lt_or_eq_of_le hk with h | h
              · exact h
              · exact absurd (HGE.out h) hxa
            have hxb : x ≠ b := fun h => by have := HLE.out b h; have := HB1.out; omega
            have e1 : (x == a) = false := by simp [hxa]
            have e2 : (x == b) = false := by simp [hxb]
            have HLT := Lib.hid hlt
            clear hxa hxb hlt hk
            go_wp2
            go_round
            case measure => simp [intOf] <;> omega
            case rel => exact ⟨k + 1, HLT.out, by go_num⟩
      · have e1 : (s != 1) = true := by simp [hs1]
        go_wp2_with fail
        refine (alive_any wt).mono ?_
        rintro e wz ⟨rfl, hk⟩
        have BZ := Lib.hid (BT.out.kept hk)
        clear hk
        go_wp2
        go_ret
        exact ⟨rfl, BZ.out.k⟩
  · rw [if_neg hf0] at hF
    refine hF.mono ?_
    clear hF
    rintro e w6 ⟨xaR, xcR, yaR, ycR, rfl, -, -, hk⟩
    have ef : (f == 0) = false := by simp [hf0]
    have B6 := Lib.hid (B5.out.kept hk)
    clear hk B5
    obtain ⟨w6b, e6, hk, hbR, -⟩ := alloc_prob w6 ((0 : Int)) (([] : List (Int × Int))) (([] : List (Int × Int))) xaR xcR yaR ycR
    have XR := Lib.hid hbR
    have BN := Lib.hid (B6.out.kept hk)
    clear hk B6
    have B6 := BN
    clear BN
    obtain ⟨p0, p1, p2⟩ := hbR
    have pb := lt_of_cell p0
    obtain ⟨q0, q1, q2⟩ := B6.out.b
    have qb := lt_of_cell q0
    simp only [List.length_nil] at e6
    go_wp2_with fail
    clear q0 q1 q2 qb p0 p1 p2 pb e6
    have hF := CheckOrder_any o ao bo ca cb l lo c w6b B6.out.p B6.out.l HLL.out
    rw [HCO.out] at hF
    refine hF.mono ?_
    clear hF
    rintro e wt ⟨rfl, hk⟩
    have BT := Lib.hid (B6.out.kept hk)
    clear hk B6
    cases ob
    · go_wp2_with fail
      refine (alive_any wt).mono ?_
      rintro e wz ⟨rfl, hk⟩
      have BZ := Lib.hid (BT.out.kept hk)
      clear hk
      go_wp2
      go_ret
      exact ⟨rfl, BZ.out.k⟩
    · exact absurd (HOF.out rfl) hf0

theorem OrderStands_any (o : Prob) (ao bo : Option Addr) (ca cb : Nat) (l : List Int) (lo : Option Addr) (c : Nat) (a b : Int) (w : World) (hA : Pairs w ao o.arcs) (hB : Pairs w bo o.near) (hl : Ints w lo l) :
    Calls Try.prog 13 #[probV o ao ca bo cb, .slice lo l.length c, .int .i64 a, .int .i64 b] w (Gives (.bool true) w) := by
  have ho : slimB o = true → IsProb w o ao bo := fun h => by
    unfold slimB at h
    simp at h
    exact ⟨hA, hB, by omega, by omega⟩
  by_cases hs : slimB o = false
  · exact OrderStands_wide o ao bo ca cb l lo c a b w ho (.inl hs)
  · have hs : slimB o = true := by simpa using hs
    by_cases h30 : 30 < l.length
    · exact OrderStands_wide o ao bo ca cb l lo c a b w ho (.inr (.inl h30))
    · by_cases hc : chk o = 0
      · exact OrderStands_main o ao bo ca cb l lo c a b w (ho hs) hl hs (by omega) hc
      · exact OrderStands_wide o ao bo ca cb l lo c a b w ho (.inr (.inr hc))
end Go.Proofs.Yteljjkghjbofnaa
