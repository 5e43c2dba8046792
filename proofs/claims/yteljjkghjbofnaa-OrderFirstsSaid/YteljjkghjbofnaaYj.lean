/- OrderFirsts. -/
import Derived.Test.YteljjkghjbofnaaYi
import Derived.Test.YteljjkghjbofnaaXh
set_option maxRecDepth 100000
namespace Go.Proofs.Yteljjkghjbofnaa
open Go Go.Proofs Go.RowKit
attribute [local go_sem] Oper.semAt_some

theorem levels_same (o : Prob) : LevelsRR o = LevelsR o := by
  unfold LevelsRR LevelsR
  by_cases h : errS o = 0
  · rw [if_pos h, if_pos h]
    obtain ⟨hc, h2⟩ := errS_ok h
    obtain ⟨h1, h2, h3, h4⟩ := orderedB_iff.1 (firstOf_ordered (webOf_n hc) (goes_webOf h))
    rw [lev_eq h1 h2 h3 (fun p => webOf_irr hc p)]
    intro i k hi hk hh
    rcases Nat.lt_trichotomy k i with h | h | h
    · exact h
    · subst h
      rw [webOf_irr hc] at hh; cases hh
    · have h5 := h4 k hk
      have : hasS ((webOf o).to ((firstOf (webOf o)).getD k 0).toNat &&& setS ((firstOf (webOf o)).take k)) ((firstOf (webOf o)).getD i 0).toNat = true := by
        rw [hasS_and, hh, hasS_setS _ (fun p hp => by have := h2 p (List.mem_of_mem_take hp); have := webOf_n hc; omega), Bool.true_and]
        refine decide_eq_true ?_
        have hm := h2 _ (List.getElem_mem hi)
        rw [getD_mem hi, show (((firstOf (webOf o))[i].toNat : Nat) : Int) = (firstOf (webOf o))[i] by omega]
        exact take_mem_lt hi h
      rw [h5, hasS_zero] at this
      cases this
  · rw [if_neg h, if_neg h]
theorem first_len (o : Prob) : (FirstR o).1.length ≤ 24 := by
  unfold FirstR
  split
  · rename_i h
    obtain ⟨hc, _⟩ := errS_ok h
    have := (orderedB_iff.1 (firstOf_ordered (webOf_n hc) (goes_webOf h))).1
    have := webOf_n hc
    show (firstOf (webOf o)).length ≤ 24
    omega
  · simp
theorem levels_len (o : Prob) : (LevelsR o).1.length ≤ 24 := by
  unfold LevelsR
  split
  · rename_i h
    obtain ⟨hc, _⟩ := errS_ok h
    show (levP _ _ _).length ≤ 24
    rw [levP_length]
    exact webOf_n hc
  · simp
theorem checkOrder_same (o : Prob) (l : List Int) : (if chk o = 0 then orderedB (webOf o) l else false) = (CheckOrderR o l).1 ∧ chk o = (CheckOrderR o l).2 := by
  unfold CheckOrderR
  split
  · rename_i h; exact ⟨rfl, h⟩
  · exact ⟨rfl, rfl⟩

set_option maxHeartbeats 400000 in
theorem OrderFirsts_wide (o : Prob) (ao bo : Option Addr) (ca cb : Nat) (l : List Int) (lo : Option Addr) (c : Nat) (w : World) (h : slimB o = false ∨ 30 < l.length) :
    Calls Try.prog 10 #[probV o ao ca bo cb, .slice lo l.length c] w (Gives (.bool true) w) := by
  go_enter Try.func10, Try.ntmps10
  go_wp2_with fail
  obtain ⟨w0, e0, hk0, hb0, -⟩ := alloc_prob w o.N o.arcs o.near ao ca bo cb
  rw [e0]
  clear e0
  have HK0 := Lib.hid hk0
  clear hk0
  obtain ⟨q0, q1, q2⟩ := hb0
  have qb := lt_of_cell q0
  go_wp2_with fail
  clear q0 q1 q2 qb
  refine (slim_any o ao bo ca cb w0).mono ?_
  rintro e w1 ⟨rfl, hk⟩
  have HK1 := Lib.hid (HK0.out.trans hk)
  clear hk HK0
  cases hs : slimB o
  · clear h hs
    go_wp2_with fail
    refine (alive_any w1).mono ?_
    rintro e w2 ⟨rfl, hk⟩
    have HK2 := Lib.hid (HK1.out.trans hk)
    clear hk HK1
    go_wp2
    go_ret
    exact ⟨rfl, HK2.out⟩
  · have h30 : 30 < l.length := h.resolve_left (by rw [hs]; simp)
    have hd : decide ((30 : Int) < l.length) = true := decide_eq_true (by omega)
    clear h hs
    go_wp2_with fail
    refine (alive_any w1).mono ?_
    rintro e w2 ⟨rfl, hk⟩
    have HK2 := Lib.hid (HK1.out.trans hk)
    clear hk HK1
    go_wp2
    go_ret
    exact ⟨rfl, HK2.out⟩

set_option maxHeartbeats 1600000 in
theorem OrderFirsts_main (o : Prob) (ao bo : Option Addr) (ca cb : Nat) (l : List Int) (lo : Option Addr) (c : Nat) (w : World) (ho : IsProb w o ao bo) (hl : Ints w lo l) (hlc : l.length ≤ c) (hs : slimB o = true) (h30 : l.length ≤ 30) :
    Calls Try.prog 10 #[probV o ao ca bo cb, .slice lo l.length c] w (Gives (.bool true) w) := by
  have hfl := first_len o
  have hll := levels_len o
  obtain ⟨hco1, hco2⟩ := checkOrder_same o l
  obtain ⟨fx, hfx⟩ : ∃ x, (FirstR o).1 = x := ⟨_, rfl⟩
  obtain ⟨fe, hfe⟩ : ∃ x, (FirstR o).2 = x := ⟨_, rfl⟩
  obtain ⟨lx, hlx⟩ : ∃ x, (LevelsR o).1 = x := ⟨_, rfl⟩
  obtain ⟨le, hle⟩ : ∃ x, (LevelsR o).2 = x := ⟨_, rfl⟩
  obtain ⟨ob, hob⟩ : ∃ x, (CheckOrderR o l).1 = x := ⟨_, rfl⟩
  obtain ⟨oe, hoe⟩ : ∃ x, (CheckOrderR o l).2 = x := ⟨_, rfl⟩
  rw [hob] at hco1
  rw [hoe] at hco2
  rw [hfx] at hfl
  rw [hlx] at hll
  have HFX := Lib.hid hfx
  have HFE := Lib.hid hfe
  have HLX := Lib.hid hlx
  have HLE := Lib.hid hle
  have HOB := Lib.hid hob
  have HOE := Lib.hid hoe
  have HC1 := Lib.hid hco1
  have HC2 := Lib.hid hco2
  have HFL : Hid (fx.length < 1000) := Lib.hid (by omega)
  have HLL : Hid (lx.length < 1000) := Lib.hid (by omega)
  have HL30 : Hid (l.length < 1152921504606846976) := Lib.hid (by omega)
  have HLC := Lib.hid hlc
  have e1 : (fe == fe) = true := by simp
  have e2 : (ob == ob) = true := by simp
  have e3 : (oe == oe) = true := by simp
  have e4 : (le == le) = true := by simp
  clear hfx hfe hlx hle hob hoe hco1 hco2 hfl hll hlc
  have hd : decide ((30 : Int) < l.length) = false := decide_eq_false (by omega)
  go_enter Try.func10, Try.ntmps10
  go_wp2_with fail
  obtain ⟨w0, e0, hk0, hb0, -⟩ := alloc_prob w o.N o.arcs o.near ao ca bo cb
  rw [e0]
  clear e0
  have B0 : Hid (Bag w w0 w.heap.size o ao ca bo cb lo l) := Lib.hid ⟨ho.kept hk0, hb0, hl.kept hk0, hk0⟩
  clear ho hl hk0
  obtain ⟨q0, q1, q2⟩ := hb0
  have qb := lt_of_cell q0
  go_wp2_with fail
  clear q0 q1 q2 qb
  refine (slim_any o ao bo ca cb w0).mono ?_
  rw [hs]
  rintro e w1 ⟨rfl, hk⟩
  have B1 := Lib.hid (B0.out.kept hk)
  clear hk B0
  obtain ⟨q0, q1, q2⟩ := B1.out.b
  have qb := lt_of_cell q0
  go_wp2_with fail
  clear q0 q1 q2 qb
  have hF := First_any o ao bo ca cb w1 B1.out.p goes_webOf
  rw [HFX.out, HFE.out] at hF
  refine hF.mono ?_
  clear hF
  rintro e w2 ⟨v1, rfl, hn, hk⟩
  obtain ⟨a1, c1, rfl, -, i1, -⟩ := hn
  have I1 := Lib.hid i1
  clear i1
  have B2 := Lib.hid (B1.out.kept hk)
  clear hk B1
  obtain ⟨q0, q1, q2⟩ := B2.out.b
  have qb := lt_of_cell q0
  go_wp2_with fail
  clear q0 q1 q2 qb
  have hF := RFirst_any o ao bo ca cb w2 B2.out.p
  rw [HFX.out, HFE.out] at hF
  refine hF.mono ?_
  clear hF
  rintro e w3 ⟨v2, rfl, hn, hk⟩
  obtain ⟨a2, c2, rfl, -, i2, -⟩ := hn
  have I2 := Lib.hid i2
  clear i2
  have B3 := Lib.hid (B2.out.kept hk)
  have I1 := Lib.hid (I1.out.kept hk)
  clear hk B2
  obtain ⟨q0, q1, q2⟩ := B3.out.b
  have qb := lt_of_cell q0
  go_wp2_with fail
  clear q0 q1 q2 qb
  have hF := CheckOrder_any o ao bo ca cb l lo c w3 B3.out.p B3.out.l HL30.out
  rw [HOB.out, HOE.out] at hF
  refine hF.mono ?_
  clear hF
  rintro e w4 ⟨rfl, hk⟩
  have B4 := Lib.hid (B3.out.kept hk)
  have I1 := Lib.hid (I1.out.kept hk)
  have I2 := Lib.hid (I2.out.kept hk)
  clear hk B3
  obtain ⟨q0, q1, q2⟩ := B4.out.b
  have qb := lt_of_cell q0
  go_wp2_with fail
  clear q0 q1 q2 qb
  have hF := RCheckOrder_any o ao bo ca cb l lo c w4 B4.out.p B4.out.l HL30.out HLC.out
  rw [HC1.out, HC2.out] at hF
  refine hF.mono ?_
  clear hF
  rintro e w5 ⟨rfl, hk⟩
  have B5 := Lib.hid (B4.out.kept hk)
  have I1 := Lib.hid (I1.out.kept hk)
  have I2 := Lib.hid (I2.out.kept hk)
  clear hk B4
  obtain ⟨q0, q1, q2⟩ := B5.out.b
  have qb := lt_of_cell q0
  go_wp2_with fail
  clear q0 q1 q2 qb
  have hF := Levels_any o ao bo ca cb w5 B5.out.p
  rw [HLX.out, HLE.out] at hF
  refine hF.mono ?_
  clear hF
  rintro e w6 ⟨v3, rfl, hn, hk⟩
  obtain ⟨a3, c3, rfl, -, i3, -⟩ := hn
  have I3 := Lib.hid i3
  clear i3
  have B6 := Lib.hid (B5.out.kept hk)
  have I1 := Lib.hid (I1.out.kept hk)
  have I2 := Lib.hid (I2.out.kept hk)
  clear hk B5
  obtain ⟨q0, q1, q2⟩ := B6.out.b
  have qb := lt_of_cell q0
  go_wp2_with fail
  clear q0 q1 q2 qb
  have hF := RLevels_any o ao bo ca cb w6 B6.out.p
  rw [levels_same, HLX.out, HLE.out] at hF
  refine hF.mono ?_
  clear hF
  rintro e w7 ⟨v4, rfl, hn, hk⟩
  obtain ⟨a4, c4, rfl, -, i4, -⟩ := hn
  have I4 := Lib.hid i4
  clear i4
  have B7 := Lib.hid (B6.out.kept hk)
  have I1 := Lib.hid (I1.out.kept hk)
  have I2 := Lib.hid (I2.out.kept hk)
  have I3 := Lib.hid (I3.out.kept hk)
  clear hk B6
  obtain ⟨q0, q1, q2⟩ := B7.out.b
  have qb := lt_of_cell q0
  go_wp2_with fail
  clear q0 q1 q2 qb
  have hF := alive_any w7
  refine hF.mono ?_
  clear hF
  rintro e w8 ⟨rfl, hk⟩
  have B8 := Lib.hid (B7.out.kept hk)
  have I1 := Lib.hid (I1.out.kept hk)
  have I2 := Lib.hid (I2.out.kept hk)
  have I3 := Lib.hid (I3.out.kept hk)
  have I4 := Lib.hid (I4.out.kept hk)
  clear hk B7
  obtain ⟨q0, q1, q2⟩ := B8.out.b
  have qb := lt_of_cell q0
  go_wp2_with fail
  clear q0 q1 q2 qb
  have hF := same_any fx a1 a2 c1 c2 fx.length w8 I1.out I2.out rfl HFL.out
  refine hF.mono ?_
  clear hF
  rintro e w9 ⟨rfl, hk⟩
  have B9 := Lib.hid (B8.out.kept hk)
  have I3 := Lib.hid (I3.out.kept hk)
  have I4 := Lib.hid (I4.out.kept hk)
  clear hk B8
  obtain ⟨q0, q1, q2⟩ := B9.out.b
  have qb := lt_of_cell q0
  go_wp2_with fail
  clear q0 q1 q2 qb
  have hF := same_any lx a3 a4 c3 c4 lx.length w9 I3.out I4.out rfl HLL.out
  refine hF.mono ?_
  clear hF
  rintro e w10 ⟨rfl, hk⟩
  have B10 := Lib.hid (B9.out.kept hk)
  clear hk B9
  go_wp2
  go_ret
  exact ⟨rfl, B10.out.k⟩

theorem OrderFirsts_any (o : Prob) (ao bo : Option Addr) (ca cb : Nat) (l : List Int) (lo : Option Addr) (c : Nat) (w : World) (hA : Pairs w ao o.arcs) (hB : Pairs w bo o.near) (hl : Ints w lo l) (hlc : l.length ≤ c) :
    Calls Try.prog 10 #[probV o ao ca bo cb, .slice lo l.length c] w (Gives (.bool true) w) := by
  by_cases hs : slimB o = false
  · exact OrderFirsts_wide o ao bo ca cb l lo c w (.inl hs)
  · have hs : slimB o = true := by simpa using hs
    by_cases h30 : 30 < l.length
    · exact OrderFirsts_wide o ao bo ca cb l lo c w (.inr h30)
    · refine OrderFirsts_main o ao bo ca cb l lo c w ?_ hl hlc hs (by omega)
      have h := hs
      unfold slimB at h
      simp at h
      exact ⟨hA, hB, by omega, by omega⟩
end Go.Proofs.Yteljjkghjbofnaa
