/- ref.pairs, ref.Check. -/
import Derived.Test.YteljjkghjbofnaaYa
import Derived.Test.YteljjkghjbofnaaMd
set_option maxRecDepth 100000
namespace Go.Proofs.Yteljjkghjbofnaa
open Go Go.Proofs Go.RowKit
attribute [local go_sem] Oper.semAt_some

theorem pairs_no {l : List (Int × Int)} {N : Int} {r : Bool} {k : Nat} {a b : Int} (hk : k < l.length) (he : l[k] = (a, b)) (h : ¬ (0 ≤ a ∧ a < N ∧ 0 ≤ b ∧ b < N ∧ a ≠ b ∧ (r = true → a < b))) : false = pairsB l N r := by
  refine (pairsB_false_of hk ?_).symm
  rw [he]
  cases hh : pairOk N r (a, b)
  · rfl
  · exact absurd (pairOk_iff.1 hh) h
theorem pairs_not {l : List (Int × Int)} {N : Int} {r : Bool} {k : Nat} (hk : k + 1 < l.length) (h : ¬ cmpP l[k] l[k + 1] < 0) : false = pairsB l N r := by
  unfold pairsB
  rw [risB_false (k := k + 1) (by omega) hk (by simpa using h), Bool.and_false]
theorem pairs_yes {l : List (Int × Int)} {N : Int} {r : Bool} (h1 : ∀ i, (h : i < l.length) → i < l.length → pairOk N r l[i] = true) (h2 : ∀ i, (h : i + 1 < l.length) → i + 1 < l.length → cmpP l[i] l[i + 1] < 0) : true = pairsB l N r := by
  unfold pairsB
  rw [risB_true (fun i h => h2 i h h), Bool.and_true]
  refine (List.all_eq_true.2 fun x hx => ?_).symm
  obtain ⟨i, hi, rfl⟩ := List.getElem_of_mem hx
  exact h1 i hi hi

set_option maxHeartbeats 1600000 in
theorem pairs_any (l : List (Int × Int)) (N : Int) (r : Bool) (ao : Option Addr) (c : Nat) (w : World) (hp : Pairs w ao l) (hll : l.length < 1152921504606846976) :
    Calls Try.prog 83 #[.slice ao l.length c, .int .i64 N, .bool r] w (Gives (.bool (pairsB l N r)) w) := by
  have HP := Lib.hid hp
  clear hp
  go_enter Try.func83, Try.ntmps83
  go_wp2
  go_loopw [7] (fun i wr => ∃ k : Nat, k ≤ l.length ∧ i = .int .i64 k ∧ (∀ i, (h : i < l.length) → i < k → pairOk N r l[i] = true) ∧ (∀ i, (h : i + 1 < l.length) → i + 1 < k → cmpP l[i] l[i + 1] < 0) ∧ Kept w wr) (fun i _ => l.length - (intOf i).toNat)
  case atStart => exact ⟨0, Nat.zero_le _, rfl, fun i h hk => by omega, fun i h hk => by omega, Kept.refl w⟩
  case round =>
    obtain ⟨k, hk, rfl, h1, h2, hkw⟩ := hrel
    have H1 := Lib.hid h1
    have H2 := Lib.hid h2
    have HKW := Lib.hid hkw
    clear h1 h2 hkw
    by_cases hlt : k < l.length
    · obtain ⟨B, off, rfl, hc, hd⟩ := (HP.out.kept HKW.out) k hlt
      obtain ⟨a, ha⟩ : ∃ a, l[k].1 = a := ⟨_, rfl⟩
      obtain ⟨b, hb⟩ : ∃ b, l[k].2 = b := ⟨_, rfl⟩
      have he : l[k] = (a, b) := Prod.ext ha hb
      rw [ha] at hc
      rw [hb] at hd
      have HE := Lib.hid he
      have NO := fun h => pairs_no (l := l) (N := N) (r := r) hlt he h
      have HNO := Lib.hid NO
      clear ha hb he NO
      by_cases hok : 0 ≤ a ∧ a < N ∧ 0 ≤ b ∧ b < N ∧ a ≠ b ∧ (r = true → a < b)
      · have OK := Lib.hid (pairOk_iff.2 hok : pairOk N r (a, b) = true)
        obtain ⟨g1, g2, g3, g4, g5, g6⟩ := hok
        have d1 : decide (a < 0) = false := decide_eq_false (by omega)
        have d2 : decide (N ≤ a) = false := decide_eq_false (by omega)
        have d3 : decide (b < 0) = false := decide_eq_false (by omega)
        have d4 : decide (N ≤ b) = false := decide_eq_false (by omega)
        have d5 : (a == b) = false := by simp [g5]
        have d6 : (r && decide (b < a)) = false := by
          cases r
          · rfl
          · rw [Bool.true_and]; exact decide_eq_false (by have := g6 rfl; omega)
        clear g1 g2 g3 g4 g5 g6 HNO
        by_cases hk0 : k = 0
        · subst hk0
          simp only [Nat.zero_mul, Nat.add_zero] at hc hd
          cases r
          all_goals
            go_wp2
            refine region_tail 34 (by kernel_rfl) (by kernel_rfl) ?_
            simp only [List.take_succ_cons, List.take_zero, List.drop_succ_cons, List.drop_zero]
            iterate 3
              with_reducible refine wpStill_want ?_ (fun K hK => ?_)
              · rfl
              go_simp
              refine hK _ ?_
              clear hK K
            iterate 31
              with_reducible refine wpStill_skip ?_ ?_
              · rfl
              simp only [Act.put, List.setIfInBounds_toArray, List.set_cons_zero, List.set_cons_succ]
            with_reducible refine wpStill_nil ?_
            go_wp2
            go_roundw
            case measure => simp [intOf]; omega
            case rel => exact ⟨1, by omega, by go_num, fun i h hi => by
              obtain rfl : i = 0 := by omega
              rw [HE.out]; exact OK.out, fun i h hi => by omega, (HKW.out.alloc _).drew⟩
        · obtain ⟨j, rfl⟩ : ∃ j, k = j + 1 := ⟨k - 1, by omega⟩
          obtain ⟨B', off', e', hc', hd'⟩ := (HP.out.kept HKW.out) j (by omega)
          simp only [Option.some.injEq, Addr.mk.injEq] at e'
          obtain ⟨rfl, rfl, -⟩ := e'
          obtain ⟨x, hx⟩ : ∃ x, l[j].1 = x := ⟨_, rfl⟩
          obtain ⟨y, hy⟩ : ∃ y, l[j].2 = y := ⟨_, rfl⟩
          have hxy : l[j] = (x, y) := Prod.ext hx hy
          rw [hx] at hc'
          rw [hy] at hd'
          have hcm : (cmpP l[j] l[j + 1] < 0) = (x < a ∨ x = a ∧ y < b) := by rw [hxy, HE.out]; exact propext (cmpP_neg _ _)
          clear hx hy hxy
          have qB := lt_of_cell hc'
          have hj0 : (j : Int) < (l.length : Int) := by omega
          have hj1 : ((j : Int) + 1).toNat = j + 1 := by omega
          have hwj : IntKind.i64.wrap (j : Int) = j := IntWalk.i64_in _ (by omega)
          have hj2 : (0 : Int) ≤ (j : Int) + 1 := by omega
          have hj3 : (0 : Int) < (j : Int) + 1 := by omega
          by_cases hgt : a < x
          · have HC : Hid (¬ cmpP l[j] l[j + 1] < 0) := Lib.hid (by rw [hcm]; omega)
            have e1 : decide (a < x) = true := decide_eq_true hgt
            clear hcm hgt
            cases r
            all_goals
              go_wp2
              refine region_tail 34 (by kernel_rfl) (by kernel_rfl) ?_
              simp only [List.take_succ_cons, List.take_zero, List.drop_succ_cons, List.drop_zero]
              iterate 13
                with_reducible refine wpStill_want ?_ (fun K hK => ?_)
                · rfl
                go_simp
                refine hK _ ?_
                clear hK K
              iterate 20
                with_reducible refine wpStill_skip ?_ ?_
                · rfl
                simp only [Act.put, List.setIfInBounds_toArray, List.set_cons_zero, List.set_cons_succ]
              iterate 1
                with_reducible refine wpStill_want ?_ (fun K hK => ?_)
                · rfl
                go_simp
                refine hK _ ?_
                clear hK K
              with_reducible refine wpStill_nil ?_
              go_wp2
              go_ret
              exact ⟨ret_bool (pairs_not hlt (by have := HC.out; omega)), (HKW.out.alloc _).drew⟩
          · have e1 : decide (a < x) = false := decide_eq_false hgt
            by_cases heq : x = a
            · subst heq
              by_cases hyb : y < b
              · have HC : Hid (cmpP l[j] l[j + 1] < 0) := Lib.hid (by rw [hcm]; omega)
                have e2 : decide (b ≤ y) = false := decide_eq_false (by omega)
                clear hcm hgt hyb
                cases r
                all_goals
                  go_wp2
                  refine region_tail 34 (by kernel_rfl) (by kernel_rfl) ?_
                  simp only [List.take_succ_cons, List.take_zero, List.drop_succ_cons, List.drop_zero]
                  iterate 34
                    with_reducible refine wpStill_want ?_ (fun K hK => ?_)
                    · rfl
                    go_simp
                    refine hK _ ?_
                    clear hK K
                  with_reducible refine wpStill_nil ?_
                  go_wp2
                  go_roundw
                  case measure => simp [intOf]; omega
                  case rel => exact ⟨j + 2, by omega, by go_num, fun i h hi => by
                    rcases Nat.lt_or_ge i (j + 1) with h' | h'
                    · exact H1.out i h h'
                    · obtain rfl : i = j + 1 := by omega
                      rw [HE.out]; exact OK.out, fun i h hi => by
                    rcases Nat.lt_or_ge (i + 1) (j + 1) with h' | h'
                    · exact H2.out i h h'
                    · obtain rfl : i = j := by omega
                      exact HC.out, (HKW.out.alloc _).drew⟩
              · have HC : Hid (¬ cmpP l[j] l[j + 1] < 0) := Lib.hid (by rw [hcm]; omega)
                have e2 : decide (b ≤ y) = true := decide_eq_true (by omega)
                clear hcm hgt hyb
                cases r
                all_goals
                  go_wp2
                  refine region_tail 34 (by kernel_rfl) (by kernel_rfl) ?_
                  simp only [List.take_succ_cons, List.take_zero, List.drop_succ_cons, List.drop_zero]
                  iterate 34
                    with_reducible refine wpStill_want ?_ (fun K hK => ?_)
                    · rfl
                    go_simp
                    refine hK _ ?_
                    clear hK K
                  with_reducible refine wpStill_nil ?_
                  go_wp2
                  go_ret
                  exact ⟨ret_bool (pairs_not hlt (by have := HC.out; omega)), (HKW.out.alloc _).drew⟩
            · have HC : Hid (cmpP l[j] l[j + 1] < 0) := Lib.hid (by rw [hcm]; omega)
              have e2 : (x == a) = false := by simp [heq]
              clear hcm hgt heq
              cases r
              all_goals
                go_wp2
                refine region_tail 34 (by kernel_rfl) (by kernel_rfl) ?_
                simp only [List.take_succ_cons, List.take_zero, List.drop_succ_cons, List.drop_zero]
                iterate 23
                  with_reducible refine wpStill_want ?_ (fun K hK => ?_)
                  · rfl
                  go_simp
                  refine hK _ ?_
                  clear hK K
                iterate 9
                  with_reducible refine wpStill_skip ?_ ?_
                  · rfl
                  simp only [Act.put, List.setIfInBounds_toArray, List.set_cons_zero, List.set_cons_succ]
                iterate 2
                  with_reducible refine wpStill_want ?_ (fun K hK => ?_)
                  · rfl
                  go_simp
                  refine hK _ ?_
                  clear hK K
                with_reducible refine wpStill_nil ?_
                go_wp2
                go_roundw
                case measure => simp [intOf]; omega
                case rel => exact ⟨j + 2, by omega, by go_num, fun i h hi => by
                  rcases Nat.lt_or_ge i (j + 1) with h' | h'
                  · exact H1.out i h h'
                  · obtain rfl : i = j + 1 := by omega
                    rw [HE.out]; exact OK.out, fun i h hi => by
                  rcases Nat.lt_or_ge (i + 1) (j + 1) with h' | h'
                  · exact H2.out i h h'
                  · obtain rfl : i = j := by omega
                    exact HC.out, (HKW.out.alloc _).drew⟩
      · have HX := Lib.hid (HNO.out hok)
        go_wp2
        all_goals first
          | (go_ret; exact ⟨ret_bool HX.out, HKW.out.alloc _⟩)
          | (exfalso; exact hok ⟨by omega, by omega, by omega, by omega, by assumption, fun h => absurd h (by assumption)⟩)
    · go_wp2
      go_ret
      exact ⟨ret_bool (pairs_yes (fun i h _ => H1.out i h (by omega)) (fun i h _ => H2.out i h (by omega))), HKW.out⟩

set_option maxHeartbeats 800000 in
theorem RCheck_any (o : Prob) (ao bo : Option Addr) (ca cb : Nat) (w : World) (ho : IsProb w o ao bo) :
    Calls Try.prog 26 #[probV o ao ca bo cb] w (Gives (.int .i64 (chk o)) w) := by
  rw [← chkR_eq]
  unfold chkR
  have HO := Lib.hid ho
  clear ho
  by_cases h1 : 24 < o.N
  · rw [if_pos h1]
    go_enter Try.func26, Try.ntmps26
    go_wp2
    go_ret
    exact ⟨rfl, (Kept.refl w).alloc _⟩
  · rw [if_neg h1]
    obtain ⟨r1, hr1⟩ : ∃ r1, pairsB o.arcs o.N false = r1 := ⟨_, rfl⟩
    obtain ⟨r2, hr2⟩ : ∃ r2, pairsB o.near o.N true = r2 := ⟨_, rfl⟩
    obtain ⟨res, hres⟩ : ∃ res : Int, (if o.N < 0 ∨ pairsB o.arcs o.N false = false ∨ pairsB o.near o.N true = false then 1 else 0) = res := ⟨_, rfl⟩
    rw [hres]
    rw [hr1, hr2] at hres
    have HR1 := Lib.hid hr1
    have HR2 := Lib.hid hr2
    have HRES := Lib.hid hres
    clear hr1 hr2 hres
    go_enter Try.func26, Try.ntmps26
    go_wp2_with fail
    obtain ⟨w0, e0, hk0, hb0, -⟩ := alloc_prob w o.N o.arcs o.near ao ca bo cb
    rw [e0]
    clear e0
    have HK0 := Lib.hid hk0
    have HB0 := Lib.hid hb0
    obtain ⟨q0, q1, q2⟩ := hb0
    have qb := lt_of_cell q0
    clear hk0
    go_wp2_with fail
    clear q0 q1 q2 qb
    have hF := pairs_any o.arcs o.N false ao ca w0 (HO.out.kept HK0.out).arcs HO.out.la
    rw [HR1.out] at hF
    refine hF.mono ?_
    clear hF
    rintro e w1 ⟨rfl, hk1⟩
    have HK1 := Lib.hid (HK0.out.trans hk1)
    have HB1 := Lib.hid (HB0.out.kept hk1)
    obtain ⟨q0, q1, q2⟩ := HB1.out
    have qb := lt_of_cell q0
    clear hk1
    go_wp2_with fail
    clear q0 q1 q2 qb
    have hF := pairs_any o.near o.N true bo cb w1 (HO.out.kept HK1.out).near HO.out.lb
    rw [HR2.out] at hF
    refine hF.mono ?_
    clear hF
    rintro e w2 ⟨rfl, hk2⟩
    have HK2 := Lib.hid (HK1.out.trans hk2)
    have HB2 := Lib.hid (HB1.out.kept hk2)
    obtain ⟨q0, q1, q2⟩ := HB2.out
    have qb := lt_of_cell q0
    clear hk2
    by_cases h2 : o.N < 0
    · have d : decide (o.N < 0) = true := decide_eq_true h2
      have HX : Hid (res = 1) := Lib.hid (by rw [← HRES.out, if_pos (.inl h2)])
      go_wp2
      go_ret
      exact ⟨ret_int HX.out.symm, HK2.out⟩
    · have d : decide (o.N < 0) = false := decide_eq_false h2
      cases r1
      · have HX : Hid (res = 1) := Lib.hid (by rw [← HRES.out, if_pos (.inr (.inl rfl))])
        go_wp2
        go_ret
        exact ⟨ret_int HX.out.symm, HK2.out⟩
      · cases r2
        · have HX : Hid (res = 1) := Lib.hid (by rw [← HRES.out, if_pos (.inr (.inr rfl))])
          go_wp2
          go_ret
          exact ⟨ret_int HX.out.symm, HK2.out⟩
        · have HX : Hid (res = 0) := Lib.hid (by rw [← HRES.out, if_neg (by simp; omega)])
          go_wp2
          go_ret
          exact ⟨ret_int HX.out.symm, HK2.out⟩
end Go.Proofs.Yteljjkghjbofnaa
