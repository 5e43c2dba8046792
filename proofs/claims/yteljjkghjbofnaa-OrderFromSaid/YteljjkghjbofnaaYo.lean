/- order.CheckDays, ref.CheckDays. -/
import Derived.Test.YteljjkghjbofnaaYn
set_option maxRecDepth 100000
namespace Go.Proofs.Yteljjkghjbofnaa
open Go Go.Proofs Go.RowKit
attribute [local go_sem] Oper.semAt_some

def outB (x : Int) : Bool := decide (x < 0) || decide (2000 < x)
theorem outB_false {x : Int} (h : outB x = false) : 0 ≤ x ∧ x ≤ 2000 := by unfold outB at h; simp at h; omega
set_option maxHeartbeats 400000 in
theorem outB_any (x : Int) (w : World) : Calls Try.prog 107 #[.int .i64 x] w (Tells (.bool (outB x)) w) := by
  go_enter Try.func107, Try.ntmps107
  go_wp2
  all_goals (go_ret; exact ⟨ret_bool (by unfold outB; first | rfl | (rw [Bool.eq_iff_iff]; simp <;> omega)), rfl⟩)

def IdxI (p : Int → Bool) (l : List Int) (w : World) (e : Ending) (w' : World) : Prop := ∃ i : Int, e = .returned (.int .i64 i) ∧ decide (0 ≤ i) = l.any p ∧ w = w'
theorem any_take_next {p : Int → Bool} {l : List Int} {k : Nat} (hk : k < l.length) (h : (l.take k).any p = false) : (l.take (k + 1)).any p = p l[k] := by
  rw [List.take_succ_eq_append_getElem hk, List.any_append, h]; simp
set_option maxHeartbeats 400000 in
theorem indexOut_any (l : List Int) (lo : Option Addr) (c : Nat) (w : World) (hl : Ints w lo l) (hll : l.length < 1152921504606846976) :
    Calls Try.prog 144 #[.slice lo l.length c, .func (.func 107) #[] #[]] w (IdxI outB l w) := by
  have HL := Lib.hid hl
  clear hl
  go_enter Try.func144, Try.ntmps144
  go_wp2
  go_loop [8] (fun i => ∃ k : Nat, k ≤ l.length ∧ i = .int .i64 k ∧ (l.take k).any outB = false) (fun i => l.length - (intOf i).toNat)
  case atStart => exact ⟨0, Nat.zero_le _, rfl, by simp⟩
  case round =>
    obtain ⟨k, hk, rfl, hn⟩ := hrel
    have HN := Lib.hid hn
    clear hn
    by_cases hlt : k < l.length
    · obtain ⟨B, off, rfl, hc⟩ := HL.out k hlt
      have HS : Hid ((l.take (k + 1)).any outB = outB l[k]) := Lib.hid (any_take_next hlt HN.out)
      have HY : Hid (outB l[k] = true → l.any outB = true) := Lib.hid fun h => List.any_eq_true.2 ⟨_, List.getElem_mem hlt, h⟩
      generalize l[k] = x at *
      go_wp2_with fail
      refine (outB_any x w).mono ?_
      rintro e w1 ⟨rfl, rfl⟩
      cases hb : outB x
      · have HS2 := Lib.hid (HS.out.trans hb)
        clear hb
        go_wp2
        go_round
        case measure => simp [intOf] <;> omega
        case rel => exact ⟨k + 1, by omega, by go_num, HS2.out⟩
      · have HY2 := Lib.hid (HY.out hb)
        clear hb
        go_wp2
        go_ret
        exact ⟨_, rfl, by rw [HY2.out]; simp, rfl⟩
    · have hk2 : k = l.length := by omega
      have HX : Hid (l.any outB = false) := Lib.hid (by have := HN.out; rw [hk2, List.take_length] at this; exact this)
      clear hk2
      go_wp2
      go_ret
      exact ⟨_, rfl, by rw [HX.out]; rfl, rfl⟩
set_option maxHeartbeats 400000 in
theorem containsOut_any (l : List Int) (lo : Option Addr) (c : Nat) (w : World) (hl : Ints w lo l) (hll : l.length < 1152921504606846976) :
    Calls Try.prog 106 #[.slice lo l.length c, .func (.func 107) #[] #[]] w (Tells (.bool (l.any outB)) w) := by
  have HL := Lib.hid hl
  clear hl
  go_enter Try.func106, Try.ntmps106
  go_wp2_with fail
  refine (indexOut_any l lo c w HL.out hll).mono ?_
  rintro e w1 ⟨i, rfl, hi, rfl⟩
  have HI := Lib.hid hi
  clear hi
  go_wp2
  go_ret
  exact ⟨ret_bool (by have := HI.out; simpa using this), rfl⟩

theorem keepB_same {W : Web} {dry : Int} {d : List Int} (a : Nat) : keepB W dry d a a = true := by unfold keepB; simp
theorem keepB_iff {W : Web} {dry : Int} {d : List Int} {a b : Nat} (h : a ≠ b) {x y : Int} (hx : d.getD a 0 = x) (hy : d.getD b 0 = y) : keepB W dry d a b = true ↔ x ≠ y ∧ ¬ (hasS (W.to a) b = true ∧ y < x) ∧ ¬ (hasS (W.near a) b = true ∧ max (x - y) (y - x) ≤ dry) := by
  unfold keepB
  rw [hx, hy]
  simp [h]
  cases hasS (W.to a) b <;> cases hasS (W.near a) b <;> simp <;> omega
theorem keptB_iff {W : Web} {dry : Int} {d : List Int} : keptB W dry d = true ↔ d.length = W.n ∧ (∀ a, a < d.length → outB (d.getD a 0) = false) ∧ ∀ a b, a < W.n → b < W.n → keepB W dry d a b = true := by
  unfold keptB
  simp only [Bool.and_eq_true, decide_eq_true_eq, List.all_eq_true, List.mem_range, and_assoc]
  refine and_congr Iff.rfl (and_congr ⟨fun h a ha => ?_, fun h x hx => ?_⟩ ⟨fun h a b ha hb => h a ha b hb, fun h a ha b hb => h a b ha hb⟩)
  · have := h _ (List.getElem_mem ha)
    rw [getD_mem ha]
    unfold outB; simp; omega
  · obtain ⟨i, hi, rfl⟩ := List.getElem_of_mem hx
    have := outB_false (h i hi ▸ rfl : outB (d.getD i 0) = false)
    rw [getD_mem hi] at this
    exact this
theorem any_out {d : List Int} : d.any outB = false ↔ ∀ a, a < d.length → outB (d.getD a 0) = false := by
  rw [List.any_eq_false]
  constructor
  · intro h a ha
    rw [getD_mem ha]
    simpa using h _ (List.getElem_mem ha)
  · intro h x hx
    obtain ⟨i, hi, rfl⟩ := List.getElem_of_mem hx
    have := h i hi
    rw [getD_mem hi] at this
    simp [this]
theorem near_irr {o : Prob} (hc : chk o = 0) (a : Nat) : hasS ((webOf o).near a) a = false := by
  rw [← nearR_eq hc]
  unfold nearR
  refine decide_eq_false fun h => ?_
  have := ((pair_of_chk hc).2.2.2 _ h).2.2
  simp at this

set_option maxHeartbeats 4000000 in
theorem CheckDays_any (o : Prob) (ao bo : Option Addr) (ca cb : Nat) (dry : Int) (d : List Int) (lo : Option Addr) (c : Nat) (w : World) (ho : IsProb w o ao bo) (hl : Ints w lo d) (hll : d.length < 1152921504606846976) :
    Calls Try.prog 41 #[probV o ao ca bo cb, .int .i64 dry, .slice lo d.length c] w (Gives (.tuple #[.bool (CheckDaysR o dry d).1, .int .i64 (CheckDaysR o dry d).2]) w) := by
  have HO := Lib.hid ho
  have HL := Lib.hid hl
  clear ho hl
  obtain ⟨r, hr⟩ : ∃ x, (CheckDaysR o dry d).1 = x := ⟨_, rfl⟩
  obtain ⟨re, hre⟩ : ∃ x, (CheckDaysR o dry d).2 = x := ⟨_, rfl⟩
  rw [hr, hre]
  have HR := Lib.hid hr
  have HRE := Lib.hid hre
  clear hr hre
  by_cases hc : chk o = 0
  · have HC := Lib.hid hc
    have h24 := webOf_n hc
    clear hc
    go_enter Try.func41, Try.ntmps41
    go_wp2_with fail
    obtain ⟨w0, e0, hk0, hb0, -⟩ := alloc_prob w o.N o.arcs o.near ao ca bo cb
    rw [e0]
    clear e0
    have HK0 := Lib.hid hk0
    clear hk0
    obtain ⟨q0, q1, q2⟩ := hb0
    have qb := lt_of_cell q0
    go_wp2_with fail
    clear q0 q1 q2 qb
    refine (open_ok o ao bo ca cb w0 (HO.out.kept HK0.out) HC.out).mono ?_
    rintro e w1 ⟨b0, rfl, hw1, hk1⟩
    have HW1 := Lib.hid hw1
    have HK1 := Lib.hid (HK0.out.trans hk1)
    clear hw1 hk1
    go_wp2_with fail
    refine (isDry_any dry w1).mono ?_
    rintro e w2 ⟨rfl, rfl⟩
    cases hd : (decide (0 ≤ dry) && decide (dry ≤ 30))
    · have HX : Hid (false = r ∧ 1 = re) := Lib.hid (by
        rw [← HR.out, ← HRE.out]; unfold CheckDaysR; rw [if_pos HC.out, if_neg (fun h => by simp at hd; omega)]; exact ⟨rfl, rfl⟩)
      clear hd
      go_wp2
      go_ret2
      rw [← HX.out.1, ← HX.out.2]
      exact ⟨rfl, HK1.out⟩
    · have HX : Hid (keptB (webOf o) dry d = r ∧ 0 = re) := Lib.hid (by
        rw [← HR.out, ← HRE.out]; unfold CheckDaysR; rw [if_pos HC.out, if_pos (by simp at hd; exact hd)]; exact ⟨rfl, rfl⟩)
      have HDRY : Hid (0 ≤ dry ∧ dry ≤ 30) := Lib.hid (by simp at hd; exact hd)
      clear hd
      have HIR : Hid (∀ p, hasS ((webOf o).to p) p = false) := Lib.hid (fun p => webOf_irr HC.out p)
      generalize webOf o = W at *
      have hn0 := HW1.out.n
      by_cases hlen : d.length = W.n
      · have hne : ((d.length : Int) != (W.n : Int)) = false := by simp [hlen]
        have HLEN := Lib.hid hlen
        clear hlen
        go_wp2_with fail
        refine (containsOut_any d lo c w1 (HL.out.kept HK1.out) hll).mono ?_
        rintro e w2 ⟨rfl, rfl⟩
        cases ho : d.any outB
        · have hr0 := any_out.1 ho
          have HRG : Hid (∀ a, a < d.length → outB (d.getD a 0) = false) := Lib.hid hr0
          clear ho hr0 hne
          go_wp2
          clear hn0
          go_loopw [39] (fun i wr => ∃ a : Nat, a ≤ W.n ∧ i = .int .i64 a ∧ (∀ x y, x < a → y < W.n → keepB W dry d x y = true) ∧ Kept w1 wr) (fun i _ => W.n - (intOf i).toNat)
          case atStart => exact ⟨0, Nat.zero_le _, rfl, fun x y h => by omega, Kept.refl _⟩
          case round =>
            obtain ⟨a, ha, rfl, hdone, hkw⟩ := hrel
            have HDN := Lib.hid hdone
            have HKW := Lib.hid hkw
            have hn0 := (HW1.out.kept hkw).n
            clear hdone hkw
            by_cases halt : a < W.n
            · go_wp2
              clear hn0
              go_loopw [46] (fun i wr => ∃ b : Nat, b ≤ W.n ∧ i = .int .i64 b ∧ (∀ y, y < b → keepB W dry d a y = true) ∧ Kept w1 wr) (fun i _ => W.n - (intOf i).toNat)
              case atStart => exact ⟨0, Nat.zero_le _, rfl, fun y h => by omega, HKW.out⟩
              case round =>
                clear HKW
                obtain ⟨b, hb, rfl, hrow, hkw⟩ := hrel
                have HRO := Lib.hid hrow
                have HKW := Lib.hid hkw
                have hn0 := (HW1.out.kept hkw).n
                have hto := (HW1.out.kept hkw).to a (by omega)
                have hnr := (HW1.out.kept hkw).near a (by omega)
                clear hrow hkw
                by_cases hblt : b < W.n
                · have had : a < d.length := by have := HLEN.out; omega
                  have hbd : b < d.length := by have := HLEN.out; omega
                  obtain ⟨B, off, rfl, hca⟩ := (HL.out.kept (HK1.out.trans HKW.out)) a had
                  obtain ⟨B', off', e', hcb⟩ := (HL.out.kept (HK1.out.trans HKW.out)) b hbd
                  simp only [Option.some.injEq, Addr.mk.injEq] at e'
                  obtain ⟨rfl, rfl, -⟩ := e'
                  have rx := outB_false (HRG.out a had)
                  have ry := outB_false (HRG.out b hbd)
                  rw [getD_mem had] at rx
                  rw [getD_mem hbd] at ry
                  have HKI : Hid (∀ (hab : a ≠ b), keepB W dry d a b = true ↔ d[a] ≠ d[b] ∧ ¬ (hasS (W.to a) b = true ∧ d[b] < d[a]) ∧ ¬ (hasS (W.near a) b = true ∧ max (d[a] - d[b]) (d[b] - d[a]) ≤ dry)) := Lib.hid fun hab => keepB_iff hab (getD_mem had) (getD_mem hbd)
                  have HNX : Hid (keepB W dry d a b = true → ∀ y, y < b + 1 → keepB W dry d a y = true) := Lib.hid fun h y hy => by
                    rcases Nat.lt_or_eq_of_le (Nat.lt_succ_iff.1 hy) with h2 | rfl
                    · exact HRO.out y h2
                    · exact h
                  have HNO : Hid (keepB W dry d a b ≠ true → false = r) := Lib.hid fun h => by
                    rw [← HX.out.1]
                    cases hh : keptB W dry d
                    · rfl
                    · exact absurd ((keptB_iff.1 hh).2.2 a b halt hblt) h
                  have HAB : Hid (a < W.n ∧ b < W.n) := Lib.hid ⟨halt, hblt⟩
                  by_cases hab : a = b
                  · subst hab
                    have HNX2 := Lib.hid (HNX.out (keepB_same a))
                    generalize d[a] = x at *
                    have hw1 : IntKind.i64.wrap (x - x) = 0 := by rw [Int.sub_self]; rfl
                    clear rx ry HKI
                    go_wp2
                    refine region_tail 19 (by kernel_rfl) (by kernel_rfl) ?_
                    simp only [List.take_succ_cons, List.take_zero, List.drop_succ_cons, List.drop_zero]
                    iterate 19
                      with_reducible refine wpStill_want ?_ (fun K hK => ?_)
                      · rfl
                      go_simp
                      refine hK _ ?_
                      clear hK K
                    with_reducible refine wpStill_nil ?_
                    go_wp2
                    refine region_tail 42 (by kernel_rfl) (by kernel_rfl) ?_
                    simp only [List.take_succ_cons, List.take_zero, List.drop_succ_cons, List.drop_zero]
                    iterate 4
                      with_reducible refine wpStill_want ?_ (fun K hK => ?_)
                      · rfl
                      go_simp
                      refine hK _ ?_
                      clear hK K
                    iterate 38
                      with_reducible refine wpStill_skip ?_ ?_
                      · rfl
                      simp only [Act.put, List.setIfInBounds_toArray, List.set_cons_zero, List.set_cons_succ]
                    with_reducible refine wpStill_nil ?_
                    go_wp2
                    go_roundw
                    case measure => simp [intOf] <;> omega
                    case rel => exact ⟨a + 1, by omega, by go_num, HNX2.out, HKW.out.drew.drew⟩
                  · have HAB2 := Lib.hid hab
                    generalize d[a] = x at *
                    generalize d[b] = y at *
                    have hw1 : IntKind.i64.wrap (x - y) = x - y := IntWalk.i64_in _ (by omega)
                    have hw2 : IntKind.i64.wrap (y - x) = y - x := IntWalk.i64_in _ (by omega)
                    obtain ⟨ap, hap⟩ : ∃ ap, max (x - y) (y - x) = ap := ⟨_, rfl⟩
                    have hif : (if x - y < y - x then y - x else x - y) = ap := by rw [← hap]; split <;> omega
                    have HAP := Lib.hid hap
                    have hne2 : ((a : Int) != (b : Int)) = true := by simp; omega
                    have hne3 : a ≠ b := hab
                    have HK2 := Lib.hid (HKI.out hab)
                    have hb32 : b < 32 := by omega
                    have hai : (a : Int) < 24 := by omega
                    clear hap hab HKI
                    go_wp2
                    refine region_tail 19 (by kernel_rfl) (by kernel_rfl) ?_
                    simp only [List.take_succ_cons, List.take_zero, List.drop_succ_cons, List.drop_zero]
                    iterate 19
                      with_reducible refine wpStill_want ?_ (fun K hK => ?_)
                      · rfl
                      go_simp
                      refine hK _ ?_
                      clear hK K
                    with_reducible refine wpStill_nil ?_
                    go_wp2
                    by_cases hz : ap = 0
                    · have e0 : (ap == 0) = true := by simp [hz]
                      have HN2 : Hid (false = r) := Lib.hid (HNO.out fun h => by have h2 := HK2.out.1 h; have := HAP.out; omega)
                      clear hz
                      refine region_tail 42 (by kernel_rfl) (by kernel_rfl) ?_
                      simp only [List.take_succ_cons, List.take_zero, List.drop_succ_cons, List.drop_zero]
                      iterate 7
                        with_reducible refine wpStill_want ?_ (fun K hK => ?_)
                        · rfl
                        go_simp
                        refine hK _ ?_
                        clear hK K
                      iterate 19
                        with_reducible refine wpStill_skip ?_ ?_
                        · rfl
                        simp only [Act.put, List.setIfInBounds_toArray, List.set_cons_zero, List.set_cons_succ]
                      iterate 2
                        with_reducible refine wpStill_want ?_ (fun K hK => ?_)
                        · rfl
                        go_simp
                        refine hK _ ?_
                        clear hK K
                      iterate 13
                        with_reducible refine wpStill_skip ?_ ?_
                        · rfl
                        simp only [Act.put, List.setIfInBounds_toArray, List.set_cons_zero, List.set_cons_succ]
                      iterate 1
                        with_reducible refine wpStill_want ?_ (fun K hK => ?_)
                        · rfl
                        go_simp
                        refine hK _ ?_
                        clear hK K
                      with_reducible refine wpStill_nil ?_
                      go_wp2
                      go_ret2
                      rw [← HX.out.2]
                      exact ⟨by rw [← HN2.out]; rfl, ((HK1.out.trans HKW.out).drew).drew⟩
                    · have e0 : (ap == 0) = false := by simp [hz]
                      have hz2 : ap ≠ 0 := hz
                      clear hz
                      cases htt : hasS (W.to a) b
                      · have HH1 := Lib.hid htt
                        clear htt
                        cases hnn : hasS (W.near a) b
                        · have HH2 := Lib.hid hnn
                          have HY2 := Lib.hid (HNX.out (HK2.out.2 ⟨by have := HAP.out; omega, by rw [HH1.out]; simp, by rw [HH2.out]; simp⟩))
                          clear hnn
                          refine region_tail 42 (by kernel_rfl) (by kernel_rfl) ?_
                          simp only [List.take_succ_cons, List.take_zero, List.drop_succ_cons, List.drop_zero]
                          iterate 14
                            with_reducible refine wpStill_want ?_ (fun K hK => ?_)
                            · rfl
                            go_simp
                            refine hK _ ?_
                            clear hK K
                          still_call Calls_still (has_any (W.to a) b _ hb32)
                          rw [HH1.out]
                          iterate 1
                            with_reducible refine wpStill_want ?_ (fun K hK => ?_)
                            · rfl
                            go_simp
                            refine hK _ ?_
                            clear hK K
                          iterate 9
                            with_reducible refine wpStill_skip ?_ ?_
                            · rfl
                            simp only [Act.put, List.setIfInBounds_toArray, List.set_cons_zero, List.set_cons_succ]
                          iterate 3
                            with_reducible refine wpStill_want ?_ (fun K hK => ?_)
                            · rfl
                            go_simp
                            refine hK _ ?_
                            clear hK K
                          iterate 7
                            with_reducible refine wpStill_want ?_ (fun K hK => ?_)
                            · rfl
                            go_simp
                            refine hK _ ?_
                            clear hK K
                          still_call Calls_still (has_any (W.near a) b _ hb32)
                          rw [HH2.out]
                          iterate 1
                            with_reducible refine wpStill_want ?_ (fun K hK => ?_)
                            · rfl
                            go_simp
                            refine hK _ ?_
                            clear hK K
                          iterate 3
                            with_reducible refine wpStill_skip ?_ ?_
                            · rfl
                            simp only [Act.put, List.setIfInBounds_toArray, List.set_cons_zero, List.set_cons_succ]
                          iterate 2
                            with_reducible refine wpStill_want ?_ (fun K hK => ?_)
                            · rfl
                            go_simp
                            refine hK _ ?_
                            clear hK K
                          with_reducible refine wpStill_nil ?_
                          go_wp2
                          go_roundw
                          case measure => simp [intOf] <;> omega
                          case rel => exact ⟨b + 1, by omega, by go_num, HY2.out, HKW.out.drew.drew⟩
                        · have HH2 := Lib.hid hnn
                          by_cases hdr : ap ≤ dry
                          · have e9 : decide (ap ≤ dry) = true := decide_eq_true hdr
                            have HN2 : Hid (false = r) := Lib.hid (HNO.out fun h => by have h2 := HK2.out.1 h; exact h2.2.2 ⟨HH2.out, by rw [HAP.out]; exact hdr⟩)
                            clear hnn hdr
                            refine region_tail 42 (by kernel_rfl) (by kernel_rfl) ?_
                            simp only [List.take_succ_cons, List.take_zero, List.drop_succ_cons, List.drop_zero]
                            iterate 14
                              with_reducible refine wpStill_want ?_ (fun K hK => ?_)
                              · rfl
                              go_simp
                              refine hK _ ?_
                              clear hK K
                            still_call Calls_still (has_any (W.to a) b _ hb32)
                            rw [HH1.out]
                            iterate 1
                              with_reducible refine wpStill_want ?_ (fun K hK => ?_)
                              · rfl
                              go_simp
                              refine hK _ ?_
                              clear hK K
                            iterate 9
                              with_reducible refine wpStill_skip ?_ ?_
                              · rfl
                              simp only [Act.put, List.setIfInBounds_toArray, List.set_cons_zero, List.set_cons_succ]
                            iterate 3
                              with_reducible refine wpStill_want ?_ (fun K hK => ?_)
                              · rfl
                              go_simp
                              refine hK _ ?_
                              clear hK K
                            iterate 7
                              with_reducible refine wpStill_want ?_ (fun K hK => ?_)
                              · rfl
                              go_simp
                              refine hK _ ?_
                              clear hK K
                            still_call Calls_still (has_any (W.near a) b _ hb32)
                            rw [HH2.out]
                            iterate 6
                              with_reducible refine wpStill_want ?_ (fun K hK => ?_)
                              · rfl
                              go_simp
                              refine hK _ ?_
                              clear hK K
                            with_reducible refine wpStill_nil ?_
                            go_wp2
                            go_ret2
                            rw [← HX.out.2]
                            exact ⟨by rw [← HN2.out]; rfl, ((HK1.out.trans HKW.out).drew).drew⟩
                          · have e9 : decide (ap ≤ dry) = false := decide_eq_false hdr
                            have HY2 := Lib.hid (HNX.out (HK2.out.2 ⟨by have := HAP.out; omega, by rw [HH1.out]; simp, by rw [HAP.out]; exact fun h => hdr h.2⟩))
                            clear hnn hdr
                            refine region_tail 42 (by kernel_rfl) (by kernel_rfl) ?_
                            simp only [List.take_succ_cons, List.take_zero, List.drop_succ_cons, List.drop_zero]
                            iterate 14
                              with_reducible refine wpStill_want ?_ (fun K hK => ?_)
                              · rfl
                              go_simp
                              refine hK _ ?_
                              clear hK K
                            still_call Calls_still (has_any (W.to a) b _ hb32)
                            rw [HH1.out]
                            iterate 1
                              with_reducible refine wpStill_want ?_ (fun K hK => ?_)
                              · rfl
                              go_simp
                              refine hK _ ?_
                              clear hK K
                            iterate 9
                              with_reducible refine wpStill_skip ?_ ?_
                              · rfl
                              simp only [Act.put, List.setIfInBounds_toArray, List.set_cons_zero, List.set_cons_succ]
                            iterate 3
                              with_reducible refine wpStill_want ?_ (fun K hK => ?_)
                              · rfl
                              go_simp
                              refine hK _ ?_
                              clear hK K
                            iterate 7
                              with_reducible refine wpStill_want ?_ (fun K hK => ?_)
                              · rfl
                              go_simp
                              refine hK _ ?_
                              clear hK K
                            still_call Calls_still (has_any (W.near a) b _ hb32)
                            rw [HH2.out]
                            iterate 6
                              with_reducible refine wpStill_want ?_ (fun K hK => ?_)
                              · rfl
                              go_simp
                              refine hK _ ?_
                              clear hK K
                            with_reducible refine wpStill_nil ?_
                            go_wp2
                            go_roundw
                            case measure => simp [intOf] <;> omega
                            case rel => exact ⟨b + 1, by omega, by go_num, HY2.out, HKW.out.drew.drew⟩
                      · have HH1 := Lib.hid htt
                        clear htt
                        by_cases hyx : y < x
                        · have e5 : decide (y < x) = true := decide_eq_true hyx
                          have HN2 : Hid (false = r) := Lib.hid (HNO.out fun h => by have h2 := HK2.out.1 h; exact h2.2.1 ⟨HH1.out, hyx⟩)
                          clear hyx
                          refine region_tail 42 (by kernel_rfl) (by kernel_rfl) ?_
                          simp only [List.take_succ_cons, List.take_zero, List.drop_succ_cons, List.drop_zero]
                          iterate 14
                            with_reducible refine wpStill_want ?_ (fun K hK => ?_)
                            · rfl
                            go_simp
                            refine hK _ ?_
                            clear hK K
                          still_call Calls_still (has_any (W.to a) b _ hb32)
                          rw [HH1.out]
                          iterate 13
                            with_reducible refine wpStill_want ?_ (fun K hK => ?_)
                            · rfl
                            go_simp
                            refine hK _ ?_
                            clear hK K
                          iterate 13
                            with_reducible refine wpStill_skip ?_ ?_
                            · rfl
                            simp only [Act.put, List.setIfInBounds_toArray, List.set_cons_zero, List.set_cons_succ]
                          iterate 1
                            with_reducible refine wpStill_want ?_ (fun K hK => ?_)
                            · rfl
                            go_simp
                            refine hK _ ?_
                            clear hK K
                          with_reducible refine wpStill_nil ?_
                          go_wp2
                          go_ret2
                          rw [← HX.out.2]
                          exact ⟨by rw [← HN2.out]; rfl, ((HK1.out.trans HKW.out).drew).drew⟩
                        · have e5 : decide (y < x) = false := decide_eq_false hyx
                          have HYX := Lib.hid hyx
                          clear hyx
                          cases hnn : hasS (W.near a) b
                          · have HH2 := Lib.hid hnn
                            have HY2 := Lib.hid (HNX.out (HK2.out.2 ⟨by have := HAP.out; omega, fun h => HYX.out h.2, by rw [HH2.out]; simp⟩))
                            clear hnn
                            refine region_tail 42 (by kernel_rfl) (by kernel_rfl) ?_
                            simp only [List.take_succ_cons, List.take_zero, List.drop_succ_cons, List.drop_zero]
                            iterate 14
                              with_reducible refine wpStill_want ?_ (fun K hK => ?_)
                              · rfl
                              go_simp
                              refine hK _ ?_
                              clear hK K
                            still_call Calls_still (has_any (W.to a) b _ hb32)
                            rw [HH1.out]
                            iterate 13
                              with_reducible refine wpStill_want ?_ (fun K hK => ?_)
                              · rfl
                              go_simp
                              refine hK _ ?_
                              clear hK K
                            iterate 7
                              with_reducible refine wpStill_want ?_ (fun K hK => ?_)
                              · rfl
                              go_simp
                              refine hK _ ?_
                              clear hK K
                            still_call Calls_still (has_any (W.near a) b _ hb32)
                            rw [HH2.out]
                            iterate 1
                              with_reducible refine wpStill_want ?_ (fun K hK => ?_)
                              · rfl
                              go_simp
                              refine hK _ ?_
                              clear hK K
                            iterate 3
                              with_reducible refine wpStill_skip ?_ ?_
                              · rfl
                              simp only [Act.put, List.setIfInBounds_toArray, List.set_cons_zero, List.set_cons_succ]
                            iterate 2
                              with_reducible refine wpStill_want ?_ (fun K hK => ?_)
                              · rfl
                              go_simp
                              refine hK _ ?_
                              clear hK K
                            with_reducible refine wpStill_nil ?_
                            go_wp2
                            go_roundw
                            case measure => simp [intOf] <;> omega
                            case rel => exact ⟨b + 1, by omega, by go_num, HY2.out, HKW.out.drew.drew⟩
                          · have HH2 := Lib.hid hnn
                            by_cases hdr : ap ≤ dry
                            · have e9 : decide (ap ≤ dry) = true := decide_eq_true hdr
                              have HN2 : Hid (false = r) := Lib.hid (HNO.out fun h => by have h2 := HK2.out.1 h; exact h2.2.2 ⟨HH2.out, by rw [HAP.out]; exact hdr⟩)
                              clear hnn hdr
                              refine region_tail 42 (by kernel_rfl) (by kernel_rfl) ?_
                              simp only [List.take_succ_cons, List.take_zero, List.drop_succ_cons, List.drop_zero]
                              iterate 14
                                with_reducible refine wpStill_want ?_ (fun K hK => ?_)
                                · rfl
                                go_simp
                                refine hK _ ?_
                                clear hK K
                              still_call Calls_still (has_any (W.to a) b _ hb32)
                              rw [HH1.out]
                              iterate 13
                                with_reducible refine wpStill_want ?_ (fun K hK => ?_)
                                · rfl
                                go_simp
                                refine hK _ ?_
                                clear hK K
                              iterate 7
                                with_reducible refine wpStill_want ?_ (fun K hK => ?_)
                                · rfl
                                go_simp
                                refine hK _ ?_
                                clear hK K
                              still_call Calls_still (has_any (W.near a) b _ hb32)
                              rw [HH2.out]
                              iterate 6
                                with_reducible refine wpStill_want ?_ (fun K hK => ?_)
                                · rfl
                                go_simp
                                refine hK _ ?_
                                clear hK K
                              with_reducible refine wpStill_nil ?_
                              go_wp2
                              go_ret2
                              rw [← HX.out.2]
                              exact ⟨by rw [← HN2.out]; rfl, ((HK1.out.trans HKW.out).drew).drew⟩
                            · have e9 : decide (ap ≤ dry) = false := decide_eq_false hdr
                              have HY2 := Lib.hid (HNX.out (HK2.out.2 ⟨by have := HAP.out; omega, fun h => HYX.out h.2, by rw [HAP.out]; exact fun h => hdr h.2⟩))
                              clear hnn hdr
                              refine region_tail 42 (by kernel_rfl) (by kernel_rfl) ?_
                              simp only [List.take_succ_cons, List.take_zero, List.drop_succ_cons, List.drop_zero]
                              iterate 14
                                with_reducible refine wpStill_want ?_ (fun K hK => ?_)
                                · rfl
                                go_simp
                                refine hK _ ?_
                                clear hK K
                              still_call Calls_still (has_any (W.to a) b _ hb32)
                              rw [HH1.out]
                              iterate 13
                                with_reducible refine wpStill_want ?_ (fun K hK => ?_)
                                · rfl
                                go_simp
                                refine hK _ ?_
                                clear hK K
                              iterate 7
                                with_reducible refine wpStill_want ?_ (fun K hK => ?_)
                                · rfl
                                go_simp
                                refine hK _ ?_
                                clear hK K
                              still_call Calls_still (has_any (W.near a) b _ hb32)
                              rw [HH2.out]
                              iterate 6
                                with_reducible refine wpStill_want ?_ (fun K hK => ?_)
                                · rfl
                                go_simp
                                refine hK _ ?_
                                clear hK K
                              with_reducible refine wpStill_nil ?_
                              go_wp2
                              go_roundw
                              case measure => simp [intOf] <;> omega
                              case rel => exact ⟨b + 1, by omega, by go_num, HY2.out, HKW.out.drew.drew⟩
                · obtain rfl : b = W.n := by omega
                  have HNX2 : Hid (∀ x y, x < a + 1 → y < W.n → keepB W dry d x y = true) := Lib.hid fun x y hx hy => by
                    rcases Nat.lt_or_eq_of_le (Nat.lt_succ_iff.1 hx) with h2 | rfl
                    · exact HDN.out x y h2 hy
                    · exact HRO.out y hy
                  clear hblt hb
                  go_wp2
                  go_roundw
                  case measure => simp [intOf] <;> omega
                  case rel => exact ⟨a + 1, by omega, by go_num, HNX2.out, HKW.out⟩
            · obtain rfl : a = W.n := by omega
              have HT : Hid (true = r) := Lib.hid (by rw [← HX.out.1]; exact (keptB_iff.2 ⟨HLEN.out, HRG.out, fun x y hx hy => HDN.out x y hx hy⟩).symm)
              clear halt ha
              go_wp2
              go_ret2
              rw [← HX.out.2, ← HT.out]
              exact ⟨rfl, HK1.out.trans HKW.out⟩
        · have HT : Hid (false = r) := Lib.hid (by
            rw [← HX.out.1]
            cases hh : keptB W dry d
            · rfl
            · have := any_out.2 (keptB_iff.1 hh).2.1
              rw [ho] at this; cases this)
          clear ho hne
          go_wp2
          go_ret2
          rw [← HX.out.2, ← HT.out]
          exact ⟨rfl, HK1.out⟩
      · have hne : ((d.length : Int) != (W.n : Int)) = true := by simp; omega
        have HT : Hid (false = r) := Lib.hid (by rw [← HX.out.1]; exact (keptB_len hlen).symm)
        clear hlen
        go_wp2
        go_ret2
        rw [← HX.out.2, ← HT.out]
        exact ⟨rfl, HK1.out⟩
  · have HX : Hid (false = r ∧ chk o = re) := Lib.hid (by rw [← HR.out, ← HRE.out]; unfold CheckDaysR; rw [if_neg hc]; exact ⟨rfl, rfl⟩)
    have H := Lib.hid hc
    have hb : (chk o != 0) = true := by simp [hc]
    clear hc
    go_enter Try.func41, Try.ntmps41
    go_wp2_with fail
    obtain ⟨w0, e0, hk0, hb0, -⟩ := alloc_prob w o.N o.arcs o.near ao ca bo cb
    rw [e0]
    clear e0
    have HK0 := Lib.hid hk0
    clear hk0
    obtain ⟨q0, q1, q2⟩ := hb0
    have qb := lt_of_cell q0
    go_wp2_with fail
    clear q0 q1 q2 qb
    refine (open_bad o ao bo ca cb w0 (HO.out.kept HK0.out) H.out).mono ?_
    rintro e w1 ⟨rfl, hk1⟩
    have HK1 := Lib.hid (HK0.out.trans hk1)
    clear hk1
    go_wp2
    go_ret2
    rw [← HX.out.1, ← HX.out.2]
    exact ⟨rfl, HK1.out⟩
end Go.Proofs.Yteljjkghjbofnaa
