/- OrderChecks. -/
import Derived.Test.YteljjkghjbofnaaYd
import Derived.Test.YteljjkghjbofnaaXh
set_option maxRecDepth 100000
namespace Go.Proofs.Yteljjkghjbofnaa
open Go Go.Proofs Go.RowKit
attribute [local go_sem] Oper.semAt_some

theorem stand_mirror (o : Prob) (a b : Int) : (standP o a b = 1 ∧ standP o b a = 2) ∨ (standP o a b = 2 ∧ standP o b a = 1) ∨ (standP o a b = 0 ∧ standP o b a = 0) ∨ (standP o a b = 3 ∧ standP o b a = 3) := by
  unfold standP
  by_cases h : chk o = 0 ∧ (0 ≤ a ∧ a < o.N) ∧ (0 ≤ b ∧ b < o.N) ∧ a ≠ b
  · rw [if_pos h, if_pos ⟨h.1, h.2.2.1, h.2.1, Ne.symm h.2.2.2⟩]
    unfold standW
    cases hasS ((webOf o).reach a.toNat) b.toNat <;> cases hasS ((webOf o).reach b.toNat) a.toNat <;> simp
  · rw [if_neg h, if_neg (fun h2 => h ⟨h2.1, h2.2.2.1, h2.2.1, Ne.symm h2.2.2.2⟩)]
    simp
theorem IsProb.of_slim {w : World} {o : Prob} {ao bo : Option Addr} (hA : Pairs w ao o.arcs) (hB : Pairs w bo o.near) (hs : slimB o = true) : IsProb w o ao bo := by
  unfold slimB at hs
  simp at hs
  exact ⟨hA, hB, by omega, by omega⟩

set_option maxHeartbeats 1600000 in
theorem OrderChecks_any (o : Prob) (ao bo : Option Addr) (ca cb : Nat) (a b : Int) (w : World) (hA : Pairs w ao o.arcs) (hB : Pairs w bo o.near) :
    Calls Try.prog 3 #[probV o ao ca bo cb, .int .i64 a, .int .i64 b] w (Gives (.bool true) w) := by
  go_enter Try.func3, Try.ntmps3
  go_wp2_with fail
  obtain ⟨w0, e0, hk0, hb0, -⟩ := alloc_prob w o.N o.arcs o.near ao ca bo cb
  rw [e0]
  clear e0
  have HK0 := Lib.hid hk0
  have HB0 := Lib.hid hb0
  have HA := Lib.hid hA
  have HB := Lib.hid hB
  clear hk0 hA hB
  obtain ⟨q0, q1, q2⟩ := hb0
  have qb := lt_of_cell q0
  go_wp2_with fail
  clear q0 q1 q2 qb
  refine (slim_any o ao bo ca cb w0).mono ?_
  rintro e w1 ⟨rfl, hk⟩
  have HK1 := Lib.hid (HK0.out.trans hk)
  have HB1 := Lib.hid (HB0.out.kept hk)
  clear hk HK0
  cases hs : slimB o
  · clear hs
    go_wp2_with fail
    refine (alive_any w1).mono ?_
    rintro e w2 ⟨rfl, hk⟩
    have HK2 := Lib.hid (HK1.out.trans hk)
    clear hk HK1
    go_wp2
    go_ret
    exact ⟨rfl, HK2.out⟩
  · have HO : Hid (IsProb w o ao bo) := Lib.hid (IsProb.of_slim HA.out HB.out hs)
    clear hs HA HB
    obtain ⟨s, hs⟩ : ∃ s, standP o a b = s := ⟨_, rfl⟩
    obtain ⟨t, ht⟩ : ∃ t, standP o b a = t := ⟨_, rfl⟩
    have hm := stand_mirror o a b
    rw [hs, ht] at hm
    have HM := Lib.hid hm
    have HS := Lib.hid hs
    have HT := Lib.hid ht
    clear hs ht hm
    go_wp2
    refine region_class (fun Z => Kept w1 Z) 8 (by kernel_rfl) (by kernel_rfl) (Kept.refl _).drew ?_
    simp only [List.take_succ_cons, List.take_zero, List.drop_succ_cons, List.drop_zero]
    refine wpQuiet_yield (.agg #[.int .i64 o.N, .slice ao o.arcs.length ca, .slice bo o.near.length cb]) (by rfl) (fun Z hZ => ?_) ?_
    · obtain ⟨q0, q1, q2⟩ := HB1.out.kept hZ
      have qb := lt_of_cell q0
      go_simp
    simp only [Act.put, List.setIfInBounds_toArray, List.set_cons_zero, List.set_cons_succ]
    refine wpQuiet_yield (.int .i64 a) (by rfl) (fun Z hZ => ?_) ?_
    · go_simp
    simp only [Act.put, List.setIfInBounds_toArray, List.set_cons_zero, List.set_cons_succ]
    refine wpQuiet_yield (.int .i64 b) (by rfl) (fun Z hZ => ?_) ?_
    · go_simp
    simp only [Act.put, List.setIfInBounds_toArray, List.set_cons_zero, List.set_cons_succ]
    refine wpQuiet_yield (.int .u8 s) (by rfl) (fun Z hZ => ?_) ?_
    · go_simp
      have hF := Standing_any o ao bo ca cb a b Z (HO.out.kept (HK1.out.trans hZ))
      rw [HS.out] at hF
      exact hF.mono fun e Z' h => ⟨h.1, hZ.trans h.2⟩
    simp only [Act.put, List.setIfInBounds_toArray, List.set_cons_zero, List.set_cons_succ]
    refine wpQuiet_yield (.agg #[.int .i64 o.N, .slice ao o.arcs.length ca, .slice bo o.near.length cb]) (by rfl) (fun Z hZ => ?_) ?_
    · obtain ⟨q0, q1, q2⟩ := HB1.out.kept hZ
      have qb := lt_of_cell q0
      go_simp
    simp only [Act.put, List.setIfInBounds_toArray, List.set_cons_zero, List.set_cons_succ]
    refine wpQuiet_yield (.int .i64 b) (by rfl) (fun Z hZ => ?_) ?_
    · go_simp
    simp only [Act.put, List.setIfInBounds_toArray, List.set_cons_zero, List.set_cons_succ]
    refine wpQuiet_yield (.int .i64 a) (by rfl) (fun Z hZ => ?_) ?_
    · go_simp
    simp only [Act.put, List.setIfInBounds_toArray, List.set_cons_zero, List.set_cons_succ]
    refine wpQuiet_yield (.int .u8 t) (by rfl) (fun Z hZ => ?_) ?_
    · go_simp
      have hF := Standing_any o ao bo ca cb b a Z (HO.out.kept (HK1.out.trans hZ))
      rw [HT.out] at hF
      exact hF.mono fun e Z' h => ⟨h.1, hZ.trans h.2⟩
    simp only [Act.put, List.setIfInBounds_toArray, List.set_cons_zero, List.set_cons_succ]
    refine wpQuiet_nil ?_
    intro w2 hk2
    have HK2 := Lib.hid (HK1.out.trans hk2)
    have HB2 := Lib.hid (HB1.out.kept hk2)
    clear hk2
    obtain ⟨c, hc⟩ : ∃ c, chk o = c := ⟨_, rfl⟩
    have HC := Lib.hid hc
    clear hc
    go_wp2
    refine region_class (fun Z => Kept w2 Z) 12 (by kernel_rfl) (by kernel_rfl) (Kept.refl _).drew ?_
    simp only [List.take_succ_cons, List.take_zero, List.drop_succ_cons, List.drop_zero]
    refine wpQuiet_yield (.agg #[.int .i64 o.N, .slice ao o.arcs.length ca, .slice bo o.near.length cb]) (by rfl) (fun Z hZ => ?_) ?_
    · obtain ⟨q0, q1, q2⟩ := HB2.out.kept hZ
      have qb := lt_of_cell q0
      go_simp
    simp only [Act.put, List.setIfInBounds_toArray, List.set_cons_zero, List.set_cons_succ]
    refine wpQuiet_yield (.int .i64 c) (by rfl) (fun Z hZ => ?_) ?_
    · go_simp
      have hF := Check_any o ao bo ca cb Z (HO.out.kept (HK2.out.trans hZ))
      rw [HC.out] at hF
      exact hF.mono fun e Z' h => ⟨h.1, hZ.trans h.2⟩
    simp only [Act.put, List.setIfInBounds_toArray, List.set_cons_zero, List.set_cons_succ]
    refine wpQuiet_yield (.agg #[.int .i64 o.N, .slice ao o.arcs.length ca, .slice bo o.near.length cb]) (by rfl) (fun Z hZ => ?_) ?_
    · obtain ⟨q0, q1, q2⟩ := HB2.out.kept hZ
      have qb := lt_of_cell q0
      go_simp
    simp only [Act.put, List.setIfInBounds_toArray, List.set_cons_zero, List.set_cons_succ]
    refine wpQuiet_yield (.int .i64 c) (by rfl) (fun Z hZ => ?_) ?_
    · go_simp
      have hF := RCheck_any o ao bo ca cb Z (HO.out.kept (HK2.out.trans hZ))
      rw [HC.out] at hF
      exact hF.mono fun e Z' h => ⟨h.1, hZ.trans h.2⟩
    simp only [Act.put, List.setIfInBounds_toArray, List.set_cons_zero, List.set_cons_succ]
    refine wpQuiet_yield (.bool false) (by rfl) (fun Z hZ => ?_) ?_
    · go_simp
    simp only [Act.put, List.setIfInBounds_toArray, List.set_cons_zero, List.set_cons_succ]
    refine wpQuiet_yield (.bool false) (by rfl) (fun Z hZ => ?_) ?_
    · go_simp
    simp only [Act.put, List.setIfInBounds_toArray, List.set_cons_zero, List.set_cons_succ]
    refine wpQuiet_yield (.int .u8 s) (by rfl) (fun Z hZ => ?_) ?_
    · go_simp
    simp only [Act.put, List.setIfInBounds_toArray, List.set_cons_zero, List.set_cons_succ]
    refine wpQuiet_yield (.agg #[.int .i64 o.N, .slice ao o.arcs.length ca, .slice bo o.near.length cb]) (by rfl) (fun Z hZ => ?_) ?_
    · obtain ⟨q0, q1, q2⟩ := HB2.out.kept hZ
      have qb := lt_of_cell q0
      go_simp
    simp only [Act.put, List.setIfInBounds_toArray, List.set_cons_zero, List.set_cons_succ]
    refine wpQuiet_yield (.int .i64 a) (by rfl) (fun Z hZ => ?_) ?_
    · go_simp
    simp only [Act.put, List.setIfInBounds_toArray, List.set_cons_zero, List.set_cons_succ]
    refine wpQuiet_yield (.int .i64 b) (by rfl) (fun Z hZ => ?_) ?_
    · go_simp
    simp only [Act.put, List.setIfInBounds_toArray, List.set_cons_zero, List.set_cons_succ]
    refine wpQuiet_yield (.int .u8 s) (by rfl) (fun Z hZ => ?_) ?_
    · go_simp
      have hF := RStanding_any o ao bo ca cb a b Z (HO.out.kept (HK2.out.trans hZ))
      rw [HS.out] at hF
      exact hF.mono fun e Z' h => ⟨h.1, hZ.trans h.2⟩
    simp only [Act.put, List.setIfInBounds_toArray, List.set_cons_zero, List.set_cons_succ]
    refine wpQuiet_yield (.bool false) (by rfl) (fun Z hZ => ?_) ?_
    · go_simp
    simp only [Act.put, List.setIfInBounds_toArray, List.set_cons_zero, List.set_cons_succ]
    refine wpQuiet_nil ?_
    intro w3 hk3
    have HK3 := Lib.hid (HK2.out.trans hk3)
    clear hk3
    rcases HM.out with ⟨rfl, rfl⟩ | ⟨rfl, rfl⟩ | ⟨rfl, rfl⟩ | ⟨rfl, rfl⟩
    all_goals
      go_wp2_with fail
      refine (alive_any w3).mono ?_
      rintro e w4 ⟨rfl, hk⟩
      have HK4 := Lib.hid (HK3.out.trans hk)
      clear hk
      go_wp2
      go_ret
      exact ⟨rfl, HK4.out⟩
end Go.Proofs.Yteljjkghjbofnaa
