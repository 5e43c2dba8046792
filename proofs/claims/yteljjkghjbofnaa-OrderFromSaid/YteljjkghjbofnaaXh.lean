/- OrderEither. -/
import Derived.Test.YteljjkghjbofnaaMh
set_option maxRecDepth 100000
namespace Go.Proofs.Yteljjkghjbofnaa
open Go Go.Proofs Go.RowKit
attribute [local go_sem] Oper.semAt_some

/-- What a law's walk carries from call to call. -/
structure Bag (w X : World) (b : Nat) (o : Prob) (ao : Option Addr) (ca : Nat) (bo : Option Addr) (cb : Nat) (lo : Option Addr) (l : List Int) : Prop where
  p : IsProb X o ao bo
  b : ProbBox X b o ao ca bo cb
  l : Ints X lo l
  k : Kept w X
theorem Bag.kept {w X Y : World} {b : Nat} {o : Prob} {ao : Option Addr} {ca : Nat} {bo : Option Addr} {cb : Nat} {lo : Option Addr} {l : List Int} (h : Bag w X b o ao ca bo cb lo l) (hk : Kept X Y) : Bag w Y b o ao ca bo cb lo l := ⟨h.p.kept hk, h.b.kept hk, h.l.kept hk, h.k.trans hk⟩

theorem checkCircleR_iff {o : Prob} {l : List Int} (hc : chk o = 0) : CheckCircleR o l = true ↔ circOk (webOf o) l := by
  unfold CheckCircleR circOk eachB arcsB
  rw [decide_eq_true hc]
  simp only [Bool.true_and, Bool.and_eq_true, decide_eq_true_eq, List.all_eq_true, List.mem_range]
  constructor
  · rintro ⟨⟨h1, h2, h3⟩, h4⟩
    exact ⟨h1, h2, h3, h4⟩
  · rintro ⟨h1, h2, h3, h4⟩
    exact ⟨⟨h1, h2, h3⟩, h4⟩

theorem webOf_irr' {o : Prob} (h : chk o = 0) : ∀ p, p < (webOf o).n → hasS ((webOf o).to p) p = false := fun p _ => webOf_irr h p
theorem circleL_circ {o : Prob} (h : chk o = 0) (hb : circB (webOf o) = true) : circleL o ≠ [] ∧ CheckCircleR o (circleL o) = true := by
  have hne : circlePart (webOf o) (webOf o).n ≠ [] := (circlePart_iff (webOf_n h) (webOf_irr' h) (woven_of o)).2 hb
  unfold circleL
  rw [if_pos h]
  exact ⟨hne, (checkCircleR_iff h).2 (circlePart_circ (webOf_n h) (webOf_irr' h) hne)⟩
theorem circleL_none {o : Prob} (h : chk o = 0) (hb : circB (webOf o) = false) : circleL o = [] := by
  unfold circleL
  rw [if_pos h]
  by_cases hne : circlePart (webOf o) (webOf o).n = []
  · exact hne
  · have := (circlePart_iff (webOf_n h) (webOf_irr' h) (woven_of o)).1 hne
    rw [hb] at this; cases this
theorem circ_no {o : Prob} {l : List Int} (h : chk o = 0) (hb : circB (webOf o) = false) : CheckCircleR o l = false := by
  cases hc : CheckCircleR o l
  · rfl
  · have h1 := (circlePart_least (webOf_n h) (webOf_irr' h) ((checkCircleR_iff h).1 hc)).1
    have := (circlePart_iff (webOf_n h) (webOf_irr' h) (woven_of o)).1 h1
    rw [hb] at this; cases this
theorem circ_len {o : Prob} {l : List Int} (h : chk o = 0) (hc : CheckCircleR o l = true) : (circleL o).length ≤ l.length ∧ 2 ≤ l.length ∧ standP o (l.getD 0 0) (l.getD 1 0) = 3 := by
  have hk := (checkCircleR_iff h).1 hc
  have h1 := (circlePart_least (webOf_n h) (webOf_irr' h) hk).2
  obtain ⟨k1, k2, k3⟩ := circ_contrary (woven_of o) hk
  have hn : (((webOf o).n : Nat) : Int) = o.N := by have := (pair_of_chk h).1; unfold webOf; simp; omega
  have hg : ∀ i, i < l.length → l.getD i 0 ∈ l := fun i hi => by rw [List.getD_eq_getElem?_getD, List.getElem?_eq_getElem hi]; exact List.getElem_mem hi
  have g0 := hk.2.1 _ (hg 0 (by have := hk.1; omega))
  have g1 := hk.2.1 _ (hg 1 (by have := hk.1; omega))
  rw [hn] at g0 g1
  refine ⟨by unfold circleL; rw [if_pos h]; exact h1, hk.1, ?_⟩
  unfold standP
  rw [if_pos ⟨h, g0, g1, k3⟩]
  unfold standW
  rw [if_pos k1, if_pos k2]
theorem order_no {o : Prob} {l : List Int} (h : chk o = 0) (hb : circB (webOf o) = true) : (CheckOrderR o l).1 = false := by
  unfold CheckOrderR
  rw [if_pos h]
  cases hc : orderedB (webOf o) l
  · rfl
  · have := ordered_circ (webOf_n h) (woven_of o) (webOf_irr' h) hc
    rw [hb] at this; cases this
theorem order_err {o : Prob} {l : List Int} (h : chk o = 0) : CheckOrderR o l = ((CheckOrderR o l).1, 0) := by
  unfold CheckOrderR
  rw [if_pos h]
theorem first_ordered {o : Prob} (h : chk o = 0) (hb : circB (webOf o) = false) : CheckOrderR o (firstOf (webOf o)) = (true, 0) := by
  have he : errS o = 0 := by unfold errS; rw [if_pos h, hb]; rfl
  unfold CheckOrderR
  rw [if_pos h, firstOf_ordered (webOf_n h) (goes_webOf he)]

set_option maxHeartbeats 400000 in
theorem OrderEither_wide (o : Prob) (ao bo : Option Addr) (ca cb : Nat) (l : List Int) (lo : Option Addr) (c : Nat) (w : World) (h : slimB o = false ∨ 30 < l.length) :
    Calls Try.prog 7 #[probV o ao ca bo cb, .slice lo l.length c] w (Gives (.bool true) w) := by
  go_enter Try.func7, Try.ntmps7
  go_wp2_with fail
  obtain ⟨w0, e0, hk0, hb0, -⟩ := alloc_prob w o.N o.arcs o.near ao ca bo cb
  rw [e0]
  clear e0
  have HK0 := Lib.hid hk0
  clear hk0 hb0
  refine (slim_any o ao bo ca cb w0).mono ?_
  rintro e w1 ⟨rfl, hk⟩
  have HK1 := Lib.hid (HK0.out.trans hk)
  clear hk HK0
  cases hs : slimB o
  · clear h hs
    go_wp2_with fail
    refine (alive_any w1).mono ?_
    rintro e w2 ⟨rfl, hk⟩
    have HK2 := Lib.hid (HK1.out.trans hk)
    clear hk HK1
    go_wp2
    go_ret
    exact ⟨rfl, HK2.out⟩
  · have h30 : 30 < l.length := h.resolve_left (by rw [hs]; simp)
    have hd : decide ((30 : Int) < l.length) = true := decide_eq_true (by omega)
    clear h hs
    go_wp2_with fail
    refine (alive_any w1).mono ?_
    rintro e w2 ⟨rfl, hk⟩
    have HK2 := Lib.hid (HK1.out.trans hk)
    clear hk HK1
    go_wp2
    go_ret
    exact ⟨rfl, HK2.out⟩

theorem circleL_len (o : Prob) : (circleL o).length ≤ 24 := by
  by_cases h : chk o = 0
  · by_cases hb : circB (webOf o) = true
    · have hk := (checkCircleR_iff h).1 (circleL_circ h hb).2
      obtain ⟨h1, h2⟩ := circOk_cyc hk
      have := nodup_lt_length h2 h1.1
      rw [List.length_map] at this
      exact Nat.le_trans this (webOf_n h)
    · rw [circleL_none h (by simpa using hb)]
      exact Nat.zero_le _
  · unfold circleL
    rw [if_neg h]
    exact Nat.zero_le _

set_option maxHeartbeats 1600000 in
theorem OrderEither_bad (o : Prob) (ao bo : Option Addr) (ca cb : Nat) (l : List Int) (lo : Option Addr) (c : Nat) (w : World) (ho : IsProb w o ao bo) (hl : Ints w lo l) (hs : slimB o = true) (h30 : l.length ≤ 30) (hc : chk o ≠ 0) :
    Calls Try.prog 7 #[probV o ao ca bo cb, .slice lo l.length c] w (Gives (.bool true) w) := by
  have hfe : FirstR o = ([], chk o) := by unfold FirstR; have : errS o = chk o := by unfold errS; rw [if_neg hc]
                                          rw [this, if_neg hc]
  have hce : circleL o = [] := by unfold circleL; rw [if_neg hc]
  have hb : (chk o != 0) = true := by simp [hc]
  have HFE := Lib.hid hfe
  have HCE := Lib.hid hce
  have HGO : Hid (errS o = 0 → Goes (webOf o)) := Lib.hid fun h => absurd (errS_ok h).1 hc
  clear hfe hce hc
  go_enter Try.func7, Try.ntmps7
  go_wp2_with fail
  obtain ⟨w0, e0, hk0, hb0, -⟩ := alloc_prob w o.N o.arcs o.near ao ca bo cb
  rw [e0]
  clear e0
  have B0 : Hid (Bag w w0 w.heap.size o ao ca bo cb lo l) := Lib.hid ⟨ho.kept hk0, hb0, hl.kept hk0, hk0⟩
  clear hk0 hb0 ho hl
  refine (slim_any o ao bo ca cb w0).mono ?_
  rw [hs]
  rintro e w1 ⟨rfl, hk⟩
  have hd : decide ((30 : Int) < l.length) = false := decide_eq_false (by omega)
  have B1 := Lib.hid (B0.out.kept hk)
  clear hk B0
  obtain ⟨q0, q1, q2⟩ := B1.out.b
  have qb := lt_of_cell q0
  go_wp2_with fail
  clear q0 q1 q2 qb
  refine (Check_any o ao bo ca cb w1 B1.out.p).mono ?_
  rintro e w2 ⟨rfl, hk⟩
  have B2 := Lib.hid (B1.out.kept hk)
  clear hk B1
  obtain ⟨q0, q1, q2⟩ := B2.out.b
  have qb := lt_of_cell q0
  go_wp2_with fail
  clear q0 q1 q2 qb
  have hF := First_any o ao bo ca cb w2 B2.out.p HGO.out
  rw [HFE.out] at hF
  refine hF.mono ?_
  clear hF
  rintro e w3 ⟨v1, rfl, -, hk⟩
  have B3 := Lib.hid (B2.out.kept hk)
  clear hk B2
  obtain ⟨q0, q1, q2⟩ := B3.out.b
  have qb := lt_of_cell q0
  go_wp2_with fail
  clear q0 q1 q2 qb
  have hF := Circle_any o ao bo ca cb w3 B3.out.p
  rw [HCE.out] at hF
  refine hF.mono ?_
  clear hF
  rintro e w4 ⟨v2, rfl, -, hk⟩
  have B4 := Lib.hid (B3.out.kept hk)
  clear hk B3
  obtain ⟨q0, q1, q2⟩ := B4.out.b
  have qb := lt_of_cell q0
  go_wp2_with fail
  clear q0 q1 q2 qb
  refine (alive_any w4).mono ?_
  rintro e w5 ⟨rfl, hk⟩
  have B5 := Lib.hid (B4.out.kept hk)
  clear hk B4
  obtain ⟨q0, q1, q2⟩ := B5.out.b
  have qb := lt_of_cell q0
  go_wp2_with fail
  clear q0 q1 q2 qb
  refine (Check_any o ao bo ca cb w5 B5.out.p).mono ?_
  rintro e w6 ⟨rfl, hk⟩
  have B6 := Lib.hid (B5.out.kept hk)
  clear hk B5
  have hbb : (chk o == chk o) = true := by simp
  go_wp2
  go_ret
  exact ⟨rfl, B6.out.k⟩

set_option maxHeartbeats 1600000 in
theorem OrderEither_circ (o : Prob) (ao bo : Option Addr) (ca cb : Nat) (l : List Int) (lo : Option Addr) (c : Nat) (w : World) (ho : IsProb w o ao bo) (hl : Ints w lo l) (hs : slimB o = true) (h30 : l.length ≤ 30) (hc : chk o = 0) (hcb : circB (webOf o) = true) :
    Calls Try.prog 7 #[probV o ao ca bo cb, .slice lo l.length c] w (Gives (.bool true) w) := by
  have hfe : FirstR o = ([], 50) := by unfold FirstR; have : errS o = 50 := by unfold errS; rw [if_pos hc, hcb]; rfl
                                       rw [this]; rfl
  obtain ⟨hce, hcc⟩ := circleL_circ hc hcb
  have hie : (!(circleL o).isEmpty) = true := by cases h : circleL o with | nil => exact absurd h hce | cons _ _ => rfl
  have HFE := Lib.hid hfe
  have HCE := Lib.hid hce
  have HCC := Lib.hid hcc
  have HIE := Lib.hid hie
  have HC := Lib.hid hc
  have HNO := fun l => order_no (l := l) hc hcb
  have HNO := Lib.hid HNO
  have HGO : Hid (errS o = 0 → Goes (webOf o)) := Lib.hid fun h => by have := (errS_ok h).2; rw [hcb] at this; cases this
  clear hfe hce hcc hie hcb
  go_enter Try.func7, Try.ntmps7
  go_wp2_with fail
  obtain ⟨w0, e0, hk0, hb0, -⟩ := alloc_prob w o.N o.arcs o.near ao ca bo cb
  rw [e0]
  clear e0
  have B0 : Hid (Bag w w0 w.heap.size o ao ca bo cb lo l) := Lib.hid ⟨ho.kept hk0, hb0, hl.kept hk0, hk0⟩
  clear hk0 hb0 ho hl
  refine (slim_any o ao bo ca cb w0).mono ?_
  rw [hs]
  rintro e w1 ⟨rfl, hk⟩
  have hd : decide ((30 : Int) < l.length) = false := decide_eq_false (by omega)
  have B1 := Lib.hid (B0.out.kept hk)
  clear hk B0
  obtain ⟨q0, q1, q2⟩ := B1.out.b
  have qb := lt_of_cell q0
  go_wp2_with fail
  clear q0 q1 q2 qb
  refine (Check_any o ao bo ca cb w1 B1.out.p).mono ?_
  rintro e w2 ⟨rfl, hk⟩
  rw [HC.out]
  clear hc
  have B2 := Lib.hid (B1.out.kept hk)
  clear hk B1
  obtain ⟨q0, q1, q2⟩ := B2.out.b
  have qb := lt_of_cell q0
  go_wp2_with fail
  clear q0 q1 q2 qb
  have hF := First_any o ao bo ca cb w2 B2.out.p HGO.out
  rw [HFE.out] at hF
  refine hF.mono ?_
  clear hF
  rintro e w3 ⟨v1, rfl, hn, hk⟩
  obtain ⟨a1, c1, rfl, -, i1, -⟩ := hn
  have I1 := Lib.hid i1
  clear i1
  have B3 := Lib.hid (B2.out.kept hk)
  clear hk B2
  obtain ⟨q0, q1, q2⟩ := B3.out.b
  have qb := lt_of_cell q0
  go_wp2_with fail
  clear q0 q1 q2 qb
  have hF := Circle_any o ao bo ca cb w3 B3.out.p
  unfold CirclePost at hF
  rw [HIE.out] at hF
  refine hF.mono ?_
  clear hF
  rintro e w4 ⟨v2, rfl, hn, hk⟩
  obtain ⟨a2, c2, rfl, -, i2, -⟩ := hn.1
  have I2 := Lib.hid i2
  have I1 := Lib.hid (I1.out.kept hk)
  clear i2 hn
  have B4 := Lib.hid (B3.out.kept hk)
  clear hk B3
  obtain ⟨q0, q1, q2⟩ := B4.out.b
  have qb := lt_of_cell q0
  go_wp2_with fail
  clear q0 q1 q2 qb
  have hF := CheckOrder_any o ao bo ca cb [] a1 c1 w4 B4.out.p I1.out (by decide)
  rw [order_err HC.out, HNO.out] at hF
  refine hF.mono ?_
  clear hF
  rintro e w5 ⟨rfl, hk⟩
  have I2 := Lib.hid (I2.out.kept hk)
  have hlen : (circleL o).length < 1152921504606846976 := Nat.lt_of_le_of_lt (circleL_len o) (by decide)
  have B5 := Lib.hid (B4.out.kept hk)
  clear hk B4
  obtain ⟨q0, q1, q2⟩ := B5.out.b
  have qb := lt_of_cell q0
  go_wp2_with fail
  clear q0 q1 q2 qb
  have hF := CheckCircle_any o ao bo ca cb (circleL o) a2 c2 w5 B5.out.p I2.out hlen
  rw [HCC.out] at hF
  refine hF.mono ?_
  clear hF hlen
  rintro e w6 ⟨rfl, hk⟩
  have B6 := Lib.hid (B5.out.kept hk)
  clear hk B5
  cases hl : CheckCircleR o l
  all_goals
    have HL := Lib.hid hl
    clear hl
    obtain ⟨q0, q1, q2⟩ := B6.out.b
    have qb := lt_of_cell q0
    go_wp2_with fail
    clear q0 q1 q2 qb
    have hF := CheckCircle_any o ao bo ca cb l lo c w6 B6.out.p B6.out.l (by omega)
    rw [HL.out] at hF
    refine hF.mono ?_
    clear hF
    rintro e w7 ⟨rfl, hk⟩
    have B7 := Lib.hid (B6.out.kept hk)
    clear hk B6
    obtain ⟨q0, q1, q2⟩ := B7.out.b
    have qb := lt_of_cell q0
  · go_wp2_with fail
    clear q0 q1 q2 qb
    have hF := CheckOrder_any o ao bo ca cb l lo c w7 B7.out.p B7.out.l (by omega)
    rw [order_err HC.out, HNO.out] at hF
    refine hF.mono ?_
    clear hF
    rintro e w8 ⟨rfl, hk⟩
    have B8 := Lib.hid (B7.out.kept hk)
    clear hk B7
    go_wp2_with fail
    refine (alive_any w8).mono ?_
    rintro e w9 ⟨rfl, hk⟩
    have B9 := Lib.hid (B8.out.kept hk)
    clear hk B8
    go_wp2
    go_ret
    exact ⟨rfl, B9.out.k⟩
  · obtain ⟨k1, k2, k3⟩ := circ_len HC.out HL.out
    have hgt : decide (l.length < (circleL o).length) = false := decide_eq_false (by omega)
    obtain ⟨x, hx⟩ : ∃ x, l[0] = x := ⟨_, rfl⟩
    obtain ⟨y, hy⟩ : ∃ y, l[1] = y := ⟨_, rfl⟩
    have e0 : l.getD 0 0 = x := by rw [List.getD_eq_getElem?_getD, List.getElem?_eq_getElem (by omega), hx]; rfl
    have e1 : l.getD 1 0 = y := by rw [List.getD_eq_getElem?_getD, List.getElem?_eq_getElem (by omega), hy]; rfl
    rw [e0, e1] at k3
    have K3 := Lib.hid k3
    obtain ⟨B, off, rfl, hc0⟩ := B7.out.l 0 (by omega)
    obtain ⟨B', off', e', hc1⟩ := B7.out.l 1 (by omega)
    simp only [Option.some.injEq, Addr.mk.injEq] at e'
    obtain ⟨rfl, rfl, -⟩ := e'
    rw [hx, Nat.add_zero] at hc0
    rw [hy] at hc1
    have h0l : 0 < l.length := by omega
    have h1l : (1 : Int) < l.length := by omega
    clear hx hy e0 e1 k3 k1
    go_wp2
    refine region_tail 17 (by kernel_rfl) (by kernel_rfl) ?_
    simp only [List.take_succ_cons, List.take_zero, List.drop_succ_cons, List.drop_zero]
    iterate 17
      with_reducible refine wpStill_want ?_ (fun K hK => ?_)
      · rfl
      go_simp
      refine hK _ ?_
      clear hK K
    with_reducible refine wpStill_nil ?_
    clear hc0 hc1 q0 q1 q2 qb hgt
    go_wp2_with fail
    have B7 := Lib.hid (B7.out.kept (Kept.refl _).drew)
    have hF := Standing_any o ao bo ca cb x y _ B7.out.p
    rw [K3.out] at hF
    refine hF.mono ?_
    clear hF
    rintro e w8 ⟨rfl, hk⟩
    have B8 := Lib.hid (B7.out.kept hk)
    clear hk B7 h0l h1l
    obtain ⟨q0, q1, q2⟩ := B8.out.b
    have qb := lt_of_cell q0
    go_wp2_with fail
    clear q0 q1 q2 qb
    have hF := CheckOrder_any o ao bo ca cb l _ c w8 B8.out.p B8.out.l (by omega)
    rw [order_err HC.out, HNO.out] at hF
    refine hF.mono ?_
    clear hF
    rintro e w9 ⟨rfl, hk⟩
    have B9 := Lib.hid (B8.out.kept hk)
    clear hk B8
    go_wp2_with fail
    refine (alive_any w9).mono ?_
    rintro e w10 ⟨rfl, hk⟩
    have B10 := Lib.hid (B9.out.kept hk)
    clear hk B9
    go_wp2
    go_ret
    exact ⟨rfl, B10.out.k⟩

set_option maxHeartbeats 1600000 in
theorem OrderEither_free (o : Prob) (ao bo : Option Addr) (ca cb : Nat) (l : List Int) (lo : Option Addr) (c : Nat) (w : World) (ho : IsProb w o ao bo) (hl : Ints w lo l) (hs : slimB o = true) (h30 : l.length ≤ 30) (hc : chk o = 0) (hcb : circB (webOf o) = false) :
    Calls Try.prog 7 #[probV o ao ca bo cb, .slice lo l.length c] w (Gives (.bool true) w) := by
  have hfe : FirstR o = (firstOf (webOf o), 0) := by unfold FirstR; have : errS o = 0 := by unfold errS; rw [if_pos hc, hcb]; rfl
                                                     rw [this]; rfl
  have hce := circleL_none hc hcb
  have HFE := Lib.hid hfe
  have HCE := Lib.hid hce
  have HC := Lib.hid hc
  have HNO : ∀ l, CheckCircleR o l = false := fun l => circ_no hc hcb
  have HNO := Lib.hid HNO
  have HFO := Lib.hid (first_ordered hc hcb)
  have HGO : Hid (errS o = 0 → Goes (webOf o)) := Lib.hid goes_webOf
  have HFL : Hid ((firstOf (webOf o)).length < 1152921504606846976) := Lib.hid (by
    have := (orderedB_iff.1 (firstOf_ordered (webOf_n hc) (goes_webOf (o := o) (by unfold errS; rw [if_pos hc, hcb]; rfl)))).1
    have := webOf_n hc
    omega)
  clear hfe hce hcb
  go_enter Try.func7, Try.ntmps7
  go_wp2_with fail
  obtain ⟨w0, e0, hk0, hb0, -⟩ := alloc_prob w o.N o.arcs o.near ao ca bo cb
  rw [e0]
  clear e0
  have B0 : Hid (Bag w w0 w.heap.size o ao ca bo cb lo l) := Lib.hid ⟨ho.kept hk0, hb0, hl.kept hk0, hk0⟩
  clear hk0 hb0 ho hl
  refine (slim_any o ao bo ca cb w0).mono ?_
  rw [hs]
  rintro e w1 ⟨rfl, hk⟩
  have hd : decide ((30 : Int) < l.length) = false := decide_eq_false (by omega)
  have B1 := Lib.hid (B0.out.kept hk)
  clear hk B0
  obtain ⟨q0, q1, q2⟩ := B1.out.b
  have qb := lt_of_cell q0
  go_wp2_with fail
  clear q0 q1 q2 qb
  refine (Check_any o ao bo ca cb w1 B1.out.p).mono ?_
  rintro e w2 ⟨rfl, hk⟩
  rw [HC.out]
  clear hc
  have B2 := Lib.hid (B1.out.kept hk)
  clear hk B1
  obtain ⟨q0, q1, q2⟩ := B2.out.b
  have qb := lt_of_cell q0
  go_wp2_with fail
  clear q0 q1 q2 qb
  have hF := First_any o ao bo ca cb w2 B2.out.p HGO.out
  rw [HFE.out] at hF
  refine hF.mono ?_
  clear hF
  rintro e w3 ⟨v1, rfl, hn, hk⟩
  obtain ⟨a1, c1, rfl, -, i1, -⟩ := hn
  have I1 := Lib.hid i1
  clear i1
  generalize hfl : firstOf (webOf o) = fl at *
  have hfl : CheckOrderR o fl = (true, 0) := HFO.out
  have B3 := Lib.hid (B2.out.kept hk)
  clear hk B2
  obtain ⟨q0, q1, q2⟩ := B3.out.b
  have qb := lt_of_cell q0
  go_wp2_with fail
  clear q0 q1 q2 qb
  have hF := Circle_any o ao bo ca cb w3 B3.out.p
  rw [HCE.out] at hF
  refine hF.mono ?_
  clear hF
  rintro e w4 ⟨v2, rfl, hn, hk⟩
  obtain ⟨a2, c2, rfl, -, i2, -⟩ := hn.1
  have I1 := Lib.hid (I1.out.kept hk)
  clear i2 hn
  have B4 := Lib.hid (B3.out.kept hk)
  clear hk B3
  obtain ⟨q0, q1, q2⟩ := B4.out.b
  have qb := lt_of_cell q0
  go_wp2_with fail
  clear q0 q1 q2 qb
  have hF := CheckOrder_any o ao bo ca cb fl a1 c1 w4 B4.out.p I1.out HFL.out
  rw [HFO.out] at hF
  refine hF.mono ?_
  clear hF
  rintro e w5 ⟨rfl, hk⟩
  have B5 := Lib.hid (B4.out.kept hk)
  clear hk B4
  obtain ⟨q0, q1, q2⟩ := B5.out.b
  have qb := lt_of_cell q0
  go_wp2_with fail
  clear q0 q1 q2 qb
  have hF := CheckCircle_any o ao bo ca cb l lo c w5 B5.out.p B5.out.l (by omega)
  rw [HNO.out] at hF
  refine hF.mono ?_
  clear hF
  rintro e w6 ⟨rfl, hk⟩
  have B6 := Lib.hid (B5.out.kept hk)
  clear hk B5
  obtain ⟨q0, q1, q2⟩ := B6.out.b
  have qb := lt_of_cell q0
  go_wp2_with fail
  clear q0 q1 q2 qb
  have hF := CheckOrder_any o ao bo ca cb l lo c w6 B6.out.p B6.out.l (by omega)
  rw [order_err HC.out] at hF
  refine hF.mono ?_
  clear hF
  rintro e w7 ⟨rfl, hk⟩
  have B7 := Lib.hid (B6.out.kept hk)
  clear hk B6
  go_wp2_with fail
  refine (alive_any w7).mono ?_
  rintro e w8 ⟨rfl, hk⟩
  have B8 := Lib.hid (B7.out.kept hk)
  clear hk B7
  cases (CheckOrderR o l).1
  all_goals
    go_wp2
    go_ret
    exact ⟨rfl, B8.out.k⟩

theorem OrderEither_any (o : Prob) (ao bo : Option Addr) (ca cb : Nat) (l : List Int) (lo : Option Addr) (c : Nat) (w : World) (ho : IsProb w o ao bo) (hl : Ints w lo l) :
    Calls Try.prog 7 #[probV o ao ca bo cb, .slice lo l.length c] w (Gives (.bool true) w) := by
  by_cases hs : slimB o = false
  · exact OrderEither_wide o ao bo ca cb l lo c w (.inl hs)
  · have hs : slimB o = true := by simpa using hs
    by_cases h30 : 30 < l.length
    · exact OrderEither_wide o ao bo ca cb l lo c w (.inr h30)
    · have h30 : l.length ≤ 30 := by omega
      by_cases hc : chk o = 0
      · by_cases hcb : circB (webOf o) = true
        · exact OrderEither_circ o ao bo ca cb l lo c w ho hl hs h30 hc hcb
        · exact OrderEither_free o ao bo ca cb l lo c w ho hl hs h30 hc (by simpa using hcb)
      · exact OrderEither_bad o ao bo ca cb l lo c w ho hl hs h30 hc

end Go.Proofs.Yteljjkghjbofnaa
