/- ref.CheckDays. -/
import Derived.Test.YteljjkghjbofnaaYo
set_option maxRecDepth 100000
namespace Go.Proofs.Yteljjkghjbofnaa
open Go Go.Proofs Go.RowKit
attribute [local go_sem] Oper.semAt_some

set_option maxHeartbeats 4000000 in
theorem RCheckDays_any (o : Prob) (ao bo : Option Addr) (ca cb : Nat) (dry : Int) (d : List Int) (lo : Option Addr) (c : Nat) (w : World) (ho : IsProb w o ao bo) (hl : Ints w lo d) (hll : d.length < 1152921504606846976) :
    Calls Try.prog 42 #[probV o ao ca bo cb, .int .i64 dry, .slice lo d.length c] w (Gives (.tuple #[.bool (CheckDaysR o dry d).1, .int .i64 (CheckDaysR o dry d).2]) w) := by
  have HO := Lib.hid ho
  have HL := Lib.hid hl
  clear ho hl
  obtain ⟨r, hr⟩ : ∃ x, (CheckDaysR o dry d).1 = x := ⟨_, rfl⟩
  obtain ⟨re, hre⟩ : ∃ x, (CheckDaysR o dry d).2 = x := ⟨_, rfl⟩
  rw [hr, hre]
  have HR := Lib.hid hr
  have HRE := Lib.hid hre
  clear hr hre
  go_enter Try.func42, Try.ntmps42
  go_wp2_with fail
  obtain ⟨w0, e0, hk0, hb0, -⟩ := alloc_prob w o.N o.arcs o.near ao ca bo cb
  rw [e0]
  clear e0
  have HK0 := Lib.hid hk0
  have HB0 := Lib.hid hb0
  clear hk0
  obtain ⟨q0, q1, q2⟩ := hb0
  have qb := lt_of_cell q0
  go_wp2_with fail
  clear q0 q1 q2 qb
  refine (RCheck_any o ao bo ca cb w0 (HO.out.kept HK0.out)).mono ?_
  rintro e w1 ⟨rfl, hk1⟩
  have HK1 := Lib.hid (HK0.out.trans hk1)
  have HB1 := Lib.hid (HB0.out.kept hk1)
  clear hk1
  by_cases hc : chk o = 0
  · have HC := Lib.hid hc
    have h24 := webOf_n hc
    have HNN := Lib.hid (webOf_nI hc)
    have HARC : Hid (∀ a b : Nat, arcR o a b = hasS ((webOf o).to a) b) := Lib.hid (arcR_eq hc)
    have HNEAR : Hid (∀ a b : Nat, nearR o a b = hasS ((webOf o).near b) a) := Lib.hid (nearR_eq hc)
    have HIR : Hid (∀ p, hasS ((webOf o).to p) p = false) := Lib.hid (fun p => webOf_irr hc p)
    have HNI : Hid (∀ p, hasS ((webOf o).near p) p = false) := Lib.hid (fun p => near_irr hc p)
    have HSY : Hid (∀ a b : Nat, hasS ((webOf o).near b) a = hasS ((webOf o).near a) b) := Lib.hid fun a b => by
      rw [← nearR_eq hc, ← nearR_eq hc]
      unfold nearR
      rw [Int.min_comm, Int.max_comm]
    rw [hc]
    clear hc
    obtain ⟨q0, q1, q2⟩ := HB1.out
    have qb := lt_of_cell q0
    by_cases hdd : 0 ≤ dry ∧ dry ≤ 30
    · have HX : Hid (keptB (webOf o) dry d = r ∧ 0 = re) := Lib.hid (by
        rw [← HR.out, ← HRE.out]; unfold CheckDaysR; rw [if_pos HC.out, if_pos hdd]; exact ⟨rfl, rfl⟩)
      have HDRY := Lib.hid hdd
      have d1 : decide (dry < 0) = false := decide_eq_false (by omega)
      have d2 : decide (30 < dry) = false := decide_eq_false (by omega)
      clear hdd
      generalize webOf o = W at *
      by_cases hlen : d.length = W.n
      · have hne : ((d.length : Int) != o.N) = false := by rw [← HNN.out]; simp [hlen]
        have HLEN := Lib.hid hlen
        clear hlen
        go_wp2
        clear q0 q1 q2 qb hne
        go_loopw [9] (fun i wr => ∃ a : Nat, a ≤ W.n ∧ i = .int .i64 a ∧ (∀ x, x < a → outB (d.getD x 0) = false) ∧ (∀ x y, x < a → y < W.n → outB (d.getD y 0) = false → keepB W dry d x y = true) ∧ Kept w1 wr) (fun i _ => W.n - (intOf i).toNat)
        case atStart => exact ⟨0, Nat.zero_le _, rfl, fun x h => by omega, fun x y h => by omega, Kept.refl _⟩
        case round =>
          obtain ⟨a, ha, rfl, hrg, hdone, hkw⟩ := hrel
          have HRG := Lib.hid hrg
          have HDN := Lib.hid hdone
          have HKW := Lib.hid hkw
          clear hdone hkw hrg
          obtain ⟨q0, q1, q2⟩ := HB1.out.kept HKW.out
          have qb := lt_of_cell q0
          by_cases halt : a < W.n
          · have hai : decide ((a : Int) < o.N) = true := decide_eq_true (by have := HNN.out; omega)
            have had : a < d.length := by have := HLEN.out; omega
            obtain ⟨B, off, rfl, hca⟩ := (HL.out.kept (HK1.out.trans HKW.out)) a had
            have HGA : Hid (d.getD a 0 = d[a]) := Lib.hid (getD_mem had)
            have HNO1 : Hid (outB d[a] = true → false = r) := Lib.hid fun h => by
              rw [← HX.out.1]
              cases hh : keptB W dry d
              · rfl
              · have := (keptB_iff.1 hh).2.1 a had
                rw [getD_mem had, h] at this; cases this
            have HALT := Lib.hid halt
            generalize d[a] = x at *
            by_cases hx0 : 0 ≤ x
            · by_cases hx1 : x ≤ 2000
              · have HRX : Hid (outB x = false) := Lib.hid (by unfold outB; simp; omega)
                have e1 : decide (x < 0) = false := decide_eq_false (by omega)
                have e2 : decide (2000 < x) = false := decide_eq_false (by omega)
                have HX01 : Hid (0 ≤ x ∧ x ≤ 2000) := Lib.hid ⟨hx0, hx1⟩
                clear hx0 hx1
                go_wp2
                clear q0 q1 q2 qb hai e1 e2
                go_loopw [10] (fun i wr => ∃ b : Nat, b ≤ W.n ∧ i = .int .i64 b ∧ (∀ y, y < b → outB (d.getD y 0) = false → keepB W dry d a y = true) ∧ Kept w1 wr) (fun i _ => W.n - (intOf i).toNat)
                case atStart => exact ⟨0, Nat.zero_le _, rfl, fun y h => by omega, HKW.out⟩
                case round =>
                  clear HKW hca
                  obtain ⟨b, hb, rfl, hrow, hkw⟩ := hrel
                  have HRO := Lib.hid hrow
                  have HKW := Lib.hid hkw
                  clear hrow hkw
                  obtain ⟨q0, q1, q2⟩ := HB1.out.kept HKW.out
                  have qb := lt_of_cell q0
                  by_cases hblt : b < W.n
                  · have hbi : decide ((b : Int) < o.N) = true := decide_eq_true (by have := HNN.out; omega)
                    have hbd : b < d.length := by have := HLEN.out; omega
                    have HHA : Hid (a < d.length ∧ b < d.length) := Lib.hid ⟨had, hbd⟩
                    have HNX : Hid ((outB (d.getD b 0) = false → keepB W dry d a b = true) → ∀ y, y < b + 1 → outB (d.getD y 0) = false → keepB W dry d a y = true) := Lib.hid fun h y hy ho => by
                      rcases Nat.lt_or_eq_of_le (Nat.lt_succ_iff.1 hy) with h2 | rfl
                      · exact HRO.out y h2 ho
                      · exact h ho
                    have HNO : Hid ((outB (d.getD b 0) = false → keepB W dry d a b ≠ true) → false = r) := Lib.hid fun h => by
                      rw [← HX.out.1]
                      cases hh : keptB W dry d
                      · rfl
                      · exact absurd ((keptB_iff.1 hh).2.2 a b halt hblt) (h ((keptB_iff.1 hh).2.1 b hbd))
                    obtain ⟨arc, harc⟩ : ∃ z, hasS (W.to a) b = z := ⟨_, rfl⟩
                    obtain ⟨wet, hwet⟩ : ∃ z, hasS (W.near a) b = z := ⟨_, rfl⟩
                    obtain ⟨y, hgb⟩ : ∃ y, d.getD b 0 = y := ⟨_, rfl⟩
                    have HAR := Lib.hid harc
                    have HWT := Lib.hid hwet
                    have HGB := Lib.hid hgb
                    clear harc hwet hgb
                    go_wp2_with fail
                    clear q0 q1 q2 qb
                    have hF := Rarc_any o ao bo ca cb (a : Int) (b : Int) wr (HO.out.kept (HK1.out.trans HKW.out))
                    rw [HARC.out, HAR.out] at hF
                    refine hF.mono ?_
                    clear hF
                    rintro e w3 ⟨rfl, hk3⟩
                    have HK3 := Lib.hid (HKW.out.trans hk3)
                    clear hk3
                    obtain ⟨q0, q1, q2⟩ := HB1.out.kept HK3.out
                    have qb := lt_of_cell q0
                    go_wp2_with fail
                    clear q0 q1 q2 qb
                    have hF := Rnear_any o ao bo ca cb (a : Int) (b : Int) w3 (HO.out.kept (HK1.out.trans HK3.out))
                    rw [HNEAR.out, HSY.out, HWT.out] at hF
                    refine hF.mono ?_
                    clear hF
                    rintro e w4 ⟨rfl, hk4⟩
                    have HK4 := Lib.hid (HK3.out.trans hk4)
                    clear hk4 HK3 HKW
                    obtain ⟨B', off', e', hca⟩ := (HL.out.kept (HK1.out.trans HK4.out)) a HHA.out.1
                    simp only [Option.some.injEq, Addr.mk.injEq] at e'
                    obtain ⟨rfl, rfl, -⟩ := e'
                    obtain ⟨B', off', e', hcb⟩ := (HL.out.kept (HK1.out.trans HK4.out)) b HHA.out.2
                    simp only [Option.some.injEq, Addr.mk.injEq] at e'
                    obtain ⟨rfl, rfl, -⟩ := e'
                    rw [← getD_mem HHA.out.1, HGA.out] at hca
                    rw [← getD_mem HHA.out.2, HGB.out] at hcb
                    by_cases hab : a = b
                    · subst hab
                      have hxy : x = y := by rw [← HGA.out, HGB.out]
                      subst hxy
                      have e0 : ((a : Int) != (a : Int)) = false := by simp
                      have ha1 : arc = false := by rw [← HAR.out]; exact HIR.out a
                      have ha2 : wet = false := by rw [← HWT.out]; exact HNI.out a
                      subst ha1
                      subst ha2
                      have HY2 := Lib.hid (HNX.out (fun _ => keepB_same a))
                      clear hbi
                      go_wp2
                      refine region_tail 53 (by kernel_rfl) (by kernel_rfl) ?_
                      simp only [List.take_succ_cons, List.take_zero, List.drop_succ_cons, List.drop_zero]
                      iterate 4
                        with_reducible refine wpStill_want ?_ (fun K hK => ?_)
                        · rfl
                        go_simp
                        refine hK _ ?_
                        clear hK K
                      iterate 9
                        with_reducible refine wpStill_skip ?_ ?_
                        · rfl
                        simp only [Act.put, List.setIfInBounds_toArray, List.set_cons_zero, List.set_cons_succ]
                      iterate 4
                        with_reducible refine wpStill_want ?_ (fun K hK => ?_)
                        · rfl
                        go_simp
                        refine hK _ ?_
                        clear hK K
                      iterate 9
                        with_reducible refine wpStill_skip ?_ ?_
                        · rfl
                        simp only [Act.put, List.setIfInBounds_toArray, List.set_cons_zero, List.set_cons_succ]
                      iterate 5
                        with_reducible refine wpStill_want ?_ (fun K hK => ?_)
                        · rfl
                        go_simp
                        refine hK _ ?_
                        clear hK K
                      iterate 21
                        with_reducible refine wpStill_skip ?_ ?_
                        · rfl
                        simp only [Act.put, List.setIfInBounds_toArray, List.set_cons_zero, List.set_cons_succ]
                      iterate 1
                        with_reducible refine wpStill_want ?_ (fun K hK => ?_)
                        · rfl
                        go_simp
                        refine hK _ ?_
                        clear hK K
                      with_reducible refine wpStill_nil ?_
                      go_wp2
                      go_roundw
                      case measure => simp [intOf] <;> omega
                      case rel => exact ⟨_, by omega, by go_num, HY2.out, HK4.out.drew⟩
                    · have e0 : ((a : Int) != (b : Int)) = true := by simp; omega
                      have hne3 : a ≠ b := hab
                      have HK2 : Hid (keepB W dry d a b = true ↔ x ≠ y ∧ ¬ (arc = true ∧ y < x) ∧ ¬ (wet = true ∧ max (x - y) (y - x) ≤ dry)) := Lib.hid (by
                        have := keepB_iff (W := W) (dry := dry) (d := d) hab HGA.out HGB.out
                        rw [HAR.out, HWT.out] at this
                        exact this)
                      obtain ⟨u1, hu1⟩ : ∃ u, IntKind.i64.wrap (x - y) = u := ⟨_, rfl⟩
                      obtain ⟨u2, hu2⟩ : ∃ u, IntKind.i64.wrap (y - x) = u := ⟨_, rfl⟩
                      obtain ⟨ap, hap⟩ : ∃ ap, (if u1 < u2 then u2 else u1) = ap := ⟨_, rfl⟩
                      have HAP : Hid (outB y = false → max (x - y) (y - x) = ap) := Lib.hid fun h => by
                        have h1 := outB_false h
                        have h2 := HX01.out
                        rw [← hap, ← hu1, ← hu2, IntWalk.i64_in _ (by omega), IntWalk.i64_in _ (by omega)]
                        split <;> omega
                      clear hab hbi
                      by_cases hxy : x = y
                      · subst hxy
                        have e3 : (x == x) = true := by simp
                        have HN2 : Hid (false = r) := Lib.hid (HNO.out fun _ h => (HK2.out.1 h).1 rfl)
                        go_wp2
                        refine region_tail 53 (by kernel_rfl) (by kernel_rfl) ?_
                        simp only [List.take_succ_cons, List.take_zero, List.drop_succ_cons, List.drop_zero]
                        iterate 15
                          with_reducible refine wpStill_want ?_ (fun K hK => ?_)
                          · rfl
                          go_simp
                          refine hK _ ?_
                          clear hK K
                        iterate 12
                          with_reducible refine wpStill_skip ?_ ?_
                          · rfl
                          simp only [Act.put, List.setIfInBounds_toArray, List.set_cons_zero, List.set_cons_succ]
                        iterate 2
                          with_reducible refine wpStill_want ?_ (fun K hK => ?_)
                          · rfl
                          go_simp
                          refine hK _ ?_
                          clear hK K
                        iterate 24
                          with_reducible refine wpStill_skip ?_ ?_
                          · rfl
                          simp only [Act.put, List.setIfInBounds_toArray, List.set_cons_zero, List.set_cons_succ]
                        with_reducible refine wpStill_nil ?_
                        go_wp2
                        go_ret2
                        rw [← HX.out.2]
                        exact ⟨by rw [← HN2.out]; rfl, (HK1.out.trans HK4.out).drew⟩
                      · have e3 : (x == y) = false := by simp [hxy]
                        have hxy2 : x ≠ y := hxy
                        clear hxy
                        cases arc
                        · cases wet
                          · have HY2 := Lib.hid (HNX.out (fun _ => HK2.out.2 ⟨hxy2, by simp, by simp⟩))
                            go_wp2
                            refine region_tail 53 (by kernel_rfl) (by kernel_rfl) ?_
                            simp only [List.take_succ_cons, List.take_zero, List.drop_succ_cons, List.drop_zero]
                            iterate 17
                              with_reducible refine wpStill_want ?_ (fun K hK => ?_)
                              · rfl
                              go_simp
                              refine hK _ ?_
                              clear hK K
                            iterate 9
                              with_reducible refine wpStill_skip ?_ ?_
                              · rfl
                              simp only [Act.put, List.setIfInBounds_toArray, List.set_cons_zero, List.set_cons_succ]
                            iterate 5
                              with_reducible refine wpStill_want ?_ (fun K hK => ?_)
                              · rfl
                              go_simp
                              refine hK _ ?_
                              clear hK K
                            iterate 21
                              with_reducible refine wpStill_skip ?_ ?_
                              · rfl
                              simp only [Act.put, List.setIfInBounds_toArray, List.set_cons_zero, List.set_cons_succ]
                            iterate 1
                              with_reducible refine wpStill_want ?_ (fun K hK => ?_)
                              · rfl
                              go_simp
                              refine hK _ ?_
                              clear hK K
                            with_reducible refine wpStill_nil ?_
                            go_wp2
                            go_roundw
                            case measure => simp [intOf] <;> omega
                            case rel => exact ⟨_, by omega, by go_num, HY2.out, HK4.out.drew⟩
                          · by_cases hdr : ap ≤ dry
                            · have e9 : decide (ap ≤ dry) = true := decide_eq_true hdr
                              have HN2 : Hid (false = r) := Lib.hid (HNO.out fun ho h => (HK2.out.1 h).2.2 ⟨rfl, by rw [HAP.out (by rw [← HGB.out]; exact ho)]; exact hdr⟩)
                              clear hdr
                              go_wp2
                              refine region_tail 53 (by kernel_rfl) (by kernel_rfl) ?_
                              simp only [List.take_succ_cons, List.take_zero, List.drop_succ_cons, List.drop_zero]
                              iterate 17
                                with_reducible refine wpStill_want ?_ (fun K hK => ?_)
                                · rfl
                                go_simp
                                refine hK _ ?_
                                clear hK K
                              iterate 9
                                with_reducible refine wpStill_skip ?_ ?_
                                · rfl
                                simp only [Act.put, List.setIfInBounds_toArray, List.set_cons_zero, List.set_cons_succ]
                              iterate 27
                                with_reducible refine wpStill_want ?_ (fun K hK => ?_)
                                · rfl
                                go_simp
                                refine hK _ ?_
                                clear hK K
                              with_reducible refine wpStill_nil ?_
                              go_wp2
                              go_ret2
                              rw [← HX.out.2]
                              exact ⟨by rw [← HN2.out]; rfl, (HK1.out.trans HK4.out).drew⟩
                            · have e9 : decide (ap ≤ dry) = false := decide_eq_false hdr
                              have HY2 := Lib.hid (HNX.out (fun ho => HK2.out.2 ⟨hxy2, by simp, fun h => hdr (by rw [← HAP.out (by rw [← HGB.out]; exact ho)]; exact h.2)⟩))
                              clear hdr
                              go_wp2
                              refine region_tail 53 (by kernel_rfl) (by kernel_rfl) ?_
                              simp only [List.take_succ_cons, List.take_zero, List.drop_succ_cons, List.drop_zero]
                              iterate 17
                                with_reducible refine wpStill_want ?_ (fun K hK => ?_)
                                · rfl
                                go_simp
                                refine hK _ ?_
                                clear hK K
                              iterate 9
                                with_reducible refine wpStill_skip ?_ ?_
                                · rfl
                                simp only [Act.put, List.setIfInBounds_toArray, List.set_cons_zero, List.set_cons_succ]
                              iterate 27
                                with_reducible refine wpStill_want ?_ (fun K hK => ?_)
                                · rfl
                                go_simp
                                refine hK _ ?_
                                clear hK K
                              with_reducible refine wpStill_nil ?_
                              go_wp2
                              go_roundw
                              case measure => simp [intOf] <;> omega
                              case rel => exact ⟨_, by omega, by go_num, HY2.out, HK4.out.drew⟩
                        · by_cases hyx : y ≤ x
                          · have e5 : decide (y ≤ x) = true := decide_eq_true hyx
                            have HN2 : Hid (false = r) := Lib.hid (HNO.out fun _ h => (HK2.out.1 h).2.1 ⟨rfl, by omega⟩)
                            clear hyx
                            go_wp2
                            refine region_tail 53 (by kernel_rfl) (by kernel_rfl) ?_
                            simp only [List.take_succ_cons, List.take_zero, List.drop_succ_cons, List.drop_zero]
                            iterate 29
                              with_reducible refine wpStill_want ?_ (fun K hK => ?_)
                              · rfl
                              go_simp
                              refine hK _ ?_
                              clear hK K
                            iterate 24
                              with_reducible refine wpStill_skip ?_ ?_
                              · rfl
                              simp only [Act.put, List.setIfInBounds_toArray, List.set_cons_zero, List.set_cons_succ]
                            with_reducible refine wpStill_nil ?_
                            go_wp2
                            go_ret2
                            rw [← HX.out.2]
                            exact ⟨by rw [← HN2.out]; rfl, (HK1.out.trans HK4.out).drew⟩
                          · have e5 : decide (y ≤ x) = false := decide_eq_false hyx
                            have HYX : Hid (¬ y < x) := Lib.hid (by omega)
                            clear hyx
                            cases wet
                            · have HY2 := Lib.hid (HNX.out (fun _ => HK2.out.2 ⟨hxy2, fun h => HYX.out h.2, by simp⟩))
                              go_wp2
                              refine region_tail 53 (by kernel_rfl) (by kernel_rfl) ?_
                              simp only [List.take_succ_cons, List.take_zero, List.drop_succ_cons, List.drop_zero]
                              iterate 31
                                with_reducible refine wpStill_want ?_ (fun K hK => ?_)
                                · rfl
                                go_simp
                                refine hK _ ?_
                                clear hK K
                              iterate 21
                                with_reducible refine wpStill_skip ?_ ?_
                                · rfl
                                simp only [Act.put, List.setIfInBounds_toArray, List.set_cons_zero, List.set_cons_succ]
                              iterate 1
                                with_reducible refine wpStill_want ?_ (fun K hK => ?_)
                                · rfl
                                go_simp
                                refine hK _ ?_
                                clear hK K
                              with_reducible refine wpStill_nil ?_
                              go_wp2
                              go_roundw
                              case measure => simp [intOf] <;> omega
                              case rel => exact ⟨_, by omega, by go_num, HY2.out, HK4.out.drew⟩
                            · by_cases hdr : ap ≤ dry
                              · have e9 : decide (ap ≤ dry) = true := decide_eq_true hdr
                                have HN2 : Hid (false = r) := Lib.hid (HNO.out fun ho h => (HK2.out.1 h).2.2 ⟨rfl, by rw [HAP.out (by rw [← HGB.out]; exact ho)]; exact hdr⟩)
                                clear hdr
                                go_wp2
                                refine region_tail 53 (by kernel_rfl) (by kernel_rfl) ?_
                                simp only [List.take_succ_cons, List.take_zero, List.drop_succ_cons, List.drop_zero]
                                iterate 53
                                  with_reducible refine wpStill_want ?_ (fun K hK => ?_)
                                  · rfl
                                  go_simp
                                  refine hK _ ?_
                                  clear hK K
                                with_reducible refine wpStill_nil ?_
                                go_wp2
                                go_ret2
                                rw [← HX.out.2]
                                exact ⟨by rw [← HN2.out]; rfl, (HK1.out.trans HK4.out).drew⟩
                              · have e9 : decide (ap ≤ dry) = false := decide_eq_false hdr
                                have HY2 := Lib.hid (HNX.out (fun ho => HK2.out.2 ⟨hxy2, fun h => HYX.out h.2, fun h => hdr (by rw [← HAP.out (by rw [← HGB.out]; exact ho)]; exact h.2)⟩))
                                clear hdr
                                go_wp2
                                refine region_tail 53 (by kernel_rfl) (by kernel_rfl) ?_
                                simp only [List.take_succ_cons, List.take_zero, List.drop_succ_cons, List.drop_zero]
                                iterate 53
                                  with_reducible refine wpStill_want ?_ (fun K hK => ?_)
                                  · rfl
                                  go_simp
                                  refine hK _ ?_
                                  clear hK K
                                with_reducible refine wpStill_nil ?_
                                go_wp2
                                go_roundw
                                case measure => simp [intOf] <;> omega
                                case rel => exact ⟨_, by omega, by go_num, HY2.out, HK4.out.drew⟩
                  · obtain rfl : b = W.n := by omega
                    have hbi : decide ((W.n : Int) < o.N) = false := decide_eq_false (by have := HNN.out; omega)
                    have HR1 : Hid (∀ x, x < a + 1 → outB (d.getD x 0) = false) := Lib.hid fun z hz => by
                      rcases Nat.lt_or_eq_of_le (Nat.lt_succ_iff.1 hz) with h2 | rfl
                      · exact HRG.out z h2
                      · rw [HGA.out]; exact HRX.out
                    have HNX2 : Hid (∀ x y, x < a + 1 → y < W.n → outB (d.getD y 0) = false → keepB W dry d x y = true) := Lib.hid fun z y hz hy ho => by
                      rcases Nat.lt_or_eq_of_le (Nat.lt_succ_iff.1 hz) with h2 | rfl
                      · exact HDN.out z y h2 hy ho
                      · exact HRO.out y hy ho
                    clear hblt hb
                    go_wp2
                    go_roundw
                    case measure => have := HALT.out; simp [intOf] <;> omega
                    case rel => exact ⟨a + 1, HALT.out, by go_num, HR1.out, HNX2.out, HKW.out⟩
              · have e1 : decide (x < 0) = false := decide_eq_false (by omega)
                have e2 : decide (2000 < x) = true := decide_eq_true (by omega)
                have HN2 := Lib.hid (HNO1.out (by unfold outB; rw [e2, Bool.or_true]))
                clear hx0 hx1
                go_wp2
                go_ret2
                rw [← HX.out.2]
                exact ⟨by rw [← HN2.out]; rfl, HK1.out.trans HKW.out⟩
            · have e1 : decide (x < 0) = true := decide_eq_true (by omega)
              have HN2 := Lib.hid (HNO1.out (by unfold outB; rw [e1, Bool.true_or]))
              clear hx0
              go_wp2
              go_ret2
              rw [← HX.out.2]
              exact ⟨by rw [← HN2.out]; rfl, HK1.out.trans HKW.out⟩
          · obtain rfl : a = W.n := by omega
            have hai : decide ((W.n : Int) < o.N) = false := decide_eq_false (by have := HNN.out; omega)
            have HT : Hid (true = r) := Lib.hid (by rw [← HX.out.1]; exact (keptB_iff.2 ⟨HLEN.out, fun x hx => HRG.out x (by have := HLEN.out; omega), fun x y hx hy => HDN.out x y hx hy (HRG.out y hy)⟩).symm)
            clear halt ha
            go_wp2
            go_ret2
            rw [← HX.out.2, ← HT.out]
            exact ⟨rfl, HK1.out.trans HKW.out⟩
      · have hne : ((d.length : Int) != o.N) = true := by rw [← HNN.out]; simp; omega
        have HT : Hid (false = r) := Lib.hid (by rw [← HX.out.1]; exact (keptB_len hlen).symm)
        clear hlen
        go_wp2
        go_ret2
        rw [← HX.out.2, ← HT.out]
        exact ⟨rfl, HK1.out⟩
    · have HX : Hid (false = r ∧ 1 = re) := Lib.hid (by
        rw [← HR.out, ← HRE.out]; unfold CheckDaysR; rw [if_pos HC.out, if_neg hdd]; exact ⟨rfl, rfl⟩)
      by_cases h0 : dry < 0
      · have d1 : decide (dry < 0) = true := decide_eq_true h0
        clear h0 hdd
        go_wp2
        go_ret2
        rw [← HX.out.1, ← HX.out.2]
        exact ⟨rfl, HK1.out⟩
      · have d1 : decide (dry < 0) = false := decide_eq_false h0
        have d2 : decide (30 < dry) = true := decide_eq_true (by omega)
        clear h0 hdd
        go_wp2
        go_ret2
        rw [← HX.out.1, ← HX.out.2]
        exact ⟨rfl, HK1.out⟩
  · have HX : Hid (false = r ∧ chk o = re) := Lib.hid (by rw [← HR.out, ← HRE.out]; unfold CheckDaysR; rw [if_neg hc]; exact ⟨rfl, rfl⟩)
    have hb : (chk o != 0) = true := by simp [hc]
    clear hc
    go_wp2
    go_ret2
    rw [← HX.out.1, ← HX.out.2]
    exact ⟨rfl, HK1.out⟩
end Go.Proofs.Yteljjkghjbofnaa
