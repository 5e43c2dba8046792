/- ref.CheckCircle. -/
import Derived.Test.YteljjkghjbofnaaVd
set_option maxRecDepth 100000
namespace Go.Proofs.Yteljjkghjbofnaa
open Go Go.Proofs Go.RowKit
attribute [local go_sem] Oper.semAt_some

theorem checkC_iff {o : Prob} {l : List Int} (hc : chk o = 0) : CheckCircleR o l = true ↔ 2 ≤ l.length ∧ ∀ i, (h : i < l.length) → 0 ≤ l[i] ∧ l[i] < o.N ∧ ¬ (l[i] ∈ l.take i) ∧ arcR o l[i] (l[(i + 1) % l.length]'(Nat.mod_lt _ (by omega))) = true := by
  rw [checkCircleR_iff hc]
  have hN := webOf_nI hc
  have hg : ∀ k, (hk : k < l.length) → l.getD k 0 = l[k] := fun k hk => by rw [List.getD_eq_getElem?_getD, List.getElem?_eq_getElem hk]; rfl
  constructor
  · rintro ⟨h1, h2, h3, h4⟩
    refine ⟨h1, fun i hi => ?_⟩
    have hm : (i + 1) % l.length < l.length := Nat.mod_lt _ (by omega)
    have hr := h2 _ (List.getElem_mem hi)
    have hr2 := h2 _ (List.getElem_mem hm)
    refine ⟨hr.1, by omega, fun hmem => ?_, ?_⟩
    · obtain ⟨j, hj, he⟩ := List.getElem_of_mem hmem
      rw [List.length_take] at hj
      rw [List.getElem_take] at he
      have := (List.getElem_inj h3).1 he
      omega
    · have h := h4 i hi
      rw [hg i hi, hg _ hm] at h
      have h5 := arcR_eq hc (l[i]).toNat (l[(i + 1) % l.length]).toNat
      rw [Int.toNat_of_nonneg hr.1, Int.toNat_of_nonneg hr2.1] at h5
      rw [h5]; exact h
  · rintro ⟨h1, h2⟩
    have hr : ∀ p ∈ l, 0 ≤ p ∧ p < ((webOf o).n : Int) := fun p hp => by
      obtain ⟨i, hi, rfl⟩ := List.getElem_of_mem hp
      have := h2 i hi
      exact ⟨this.1, by omega⟩
    refine ⟨h1, hr, ?_, fun i hi => ?_⟩
    · unfold List.Nodup
      rw [List.pairwise_iff_getElem]
      intro i j hi hj hij e
      refine (h2 j hj).2.2.1 ?_
      rw [← e]
      exact List.mem_iff_getElem.2 ⟨i, by rw [List.length_take]; omega, by rw [List.getElem_take]⟩
    · have hm : (i + 1) % l.length < l.length := Nat.mod_lt _ (by omega)
      rw [hg i hi, hg _ hm]
      have h5 := arcR_eq hc (l[i]).toNat (l[(i + 1) % l.length]).toNat
      rw [Int.toNat_of_nonneg (hr _ (List.getElem_mem hi)).1, Int.toNat_of_nonneg (hr _ (List.getElem_mem hm)).1] at h5
      rw [← h5]
      exact (h2 i hi).2.2.2

set_option maxHeartbeats 2000000 in
theorem RCheckCircle_any (o : Prob) (ao bo : Option Addr) (ca cb : Nat) (l : List Int) (lo : Option Addr) (c : Nat) (w : World) (ho : IsProb w o ao bo) (hl : Ints w lo l) (hll : l.length < 1152921504606846976) (hlc : l.length ≤ c) :
    Calls Try.prog 37 #[probV o ao ca bo cb, .slice lo l.length c] w (Gives (.bool (CheckCircleR o l)) w) := by
  have HO := Lib.hid ho
  have HL := Lib.hid hl
  clear ho hl
  obtain ⟨r, hr⟩ : ∃ r, CheckCircleR o l = r := ⟨_, rfl⟩
  rw [hr]
  have HR := Lib.hid hr
  clear hr
  go_enter Try.func37, Try.ntmps37
  go_wp2_with fail
  obtain ⟨w0, e0, hk0, hb0, -⟩ := alloc_prob w o.N o.arcs o.near ao ca bo cb
  rw [e0]
  clear e0
  have HK0 := Lib.hid hk0
  have HB0 := Lib.hid hb0
  clear hk0
  obtain ⟨q0, q1, q2⟩ := hb0
  have qb := lt_of_cell q0
  go_wp2_with fail
  clear q0 q1 q2 qb
  refine (RCheck_any o ao bo ca cb w0 (HO.out.kept HK0.out)).mono ?_
  rintro e w1 ⟨rfl, hk⟩
  have HK1 := Lib.hid (HK0.out.trans hk)
  have HB1 := Lib.hid (HB0.out.kept hk)
  clear hk HK0 HB0
  by_cases hc : chk o = 0
  · have HC := Lib.hid hc
    have HIFF := Lib.hid (checkC_iff (l := l) hc)
    rw [hc]
    clear hc
    by_cases h2 : l.length < 2
    · have e1 : decide ((l.length : Int) < 2) = true := decide_eq_true (by omega)
      have HX : Hid (false = r) := Lib.hid (by
        rw [← HR.out]
        cases hh : CheckCircleR o l
        · rfl
        · have := (HIFF.out.1 hh).1; omega)
      clear h2
      go_wp2
      go_ret
      exact ⟨ret_bool HX.out, HK1.out⟩
    · have e1 : decide ((l.length : Int) < 2) = false := decide_eq_false (by omega)
      have H2 : Hid (2 ≤ l.length) := Lib.hid (by omega)
      clear h2
      go_wp2
      clear e1
      go_loopw [5] (fun i wr => ∃ k : Nat, k ≤ l.length ∧ i = .int .i64 k ∧ (∀ i, (h : i < l.length) → i < k → 0 ≤ l[i] ∧ l[i] < o.N ∧ ¬ (l[i] ∈ l.take i) ∧ arcR o l[i] (l[(i + 1) % l.length]'(Nat.mod_lt _ (by omega))) = true) ∧ Kept w1 wr) (fun i _ => l.length - (intOf i).toNat)
      case atStart => exact ⟨0, Nat.zero_le _, rfl, fun i h h2 => by omega, Kept.refl _⟩
      case round =>
        obtain ⟨k, hk, rfl, hn, hkw⟩ := hrel
        have HNN := Lib.hid hn
        have HKW := Lib.hid hkw
        clear hn hkw
        obtain ⟨q0, q1, q2⟩ := HB1.out.kept HKW.out
        have qb := lt_of_cell q0
        by_cases hlt : k < l.length
        · have hm : (k + 1) % l.length < l.length := Nat.mod_lt _ (by omega)
          obtain ⟨B, off, rfl, hc⟩ := ((HL.out.kept HK1.out).kept HKW.out) k hlt
          obtain ⟨B', off', e', hc2⟩ := ((HL.out.kept HK1.out).kept HKW.out) ((k + 1) % l.length) hm
          simp only [Option.some.injEq, Addr.mk.injEq] at e'
          obtain ⟨rfl, rfl, -⟩ := e'
          have HLT := Lib.hid hlt
          have HS : Hid ((0 ≤ l[k] ∧ l[k] < o.N ∧ ¬ (l[k] ∈ l.take k) ∧ arcR o l[k] (l[(k + 1) % l.length]) = true) → ∀ i, (h : i < l.length) → i < k + 1 → 0 ≤ l[i] ∧ l[i] < o.N ∧ ¬ (l[i] ∈ l.take i) ∧ arcR o l[i] (l[(i + 1) % l.length]'(Nat.mod_lt _ (by omega))) = true) := Lib.hid fun h i hi hik => by
            rcases Nat.lt_or_eq_of_le (Nat.lt_succ_iff.1 hik) with h2 | rfl
            · exact HNN.out i hi h2
            · exact h
          have HY : Hid (¬ (0 ≤ l[k] ∧ l[k] < o.N ∧ ¬ (l[k] ∈ l.take k) ∧ arcR o l[k] (l[(k + 1) % l.length]) = true) → false = r) := Lib.hid fun h => by
            rw [← HR.out]
            cases hh : CheckCircleR o l
            · rfl
            · exact absurd ((HIFF.out.1 hh).2 k hlt) h
          have hki : (k : Int) ≤ (c : Int) := by omega
          have hkc : k ≤ c := by omega
          have hlt2 : (l.take k).length = k := by simp; omega
          have HT := Lib.hid hlt2
          clear hlt2
          generalize l[k] = x at *
          generalize l[(k + 1) % l.length] = y at *
          have HCX := Lib.hid hc
          have HCY := Lib.hid hc2
          clear hc2
          by_cases h1 : 0 ≤ x
          · have e1 : decide (x < 0) = false := decide_eq_false (by omega)
            by_cases h2 : x < o.N
            · have e2 : decide (x ≥ o.N) = false := decide_eq_false (by omega)
              have HP : Hid (0 ≤ x ∧ x < o.N) := Lib.hid ⟨h1, h2⟩
              clear h1 h2
              go_wp2
              refine region_tail 23 (by kernel_rfl) (by kernel_rfl) ?_
              simp only [List.take_succ_cons, List.take_zero, List.drop_succ_cons, List.drop_zero]
              iterate 22
                with_reducible refine wpStill_want ?_ (fun K hK => ?_)
                · rfl
                go_simp
                refine hK _ ?_
                clear hK K
              have hF := Rhas_any (l.take k) (some ⟨B, off, none⟩) c x wr.drew ((((HL.out.kept HK1.out).kept HKW.out).kept (Kept.refl _).drew).take k) (by rw [HT.out]; omega)
              obtain ⟨s, hs⟩ : ∃ s, decide (x ∈ l.take k) = s := ⟨_, rfl⟩
              rw [HT.out, hs] at hF
              have HSS := Lib.hid hs
              clear hs
              still_call Calls_still hF
              clear hF
              with_reducible refine wpStill_nil ?_
              cases s
              · have HNM := Lib.hid (of_decide_eq_false HSS.out)
                go_wp2
                clear q0 q1 q2 qb hc e1 e2
                have hw1 : IntKind.i64.wrap ((k : Int) + 1) = (((k + 1 : Nat)) : Int) := rem_fact1 HLT.out hll
                have hw2 : wrap64 ((k : Int) + 1) = (((k + 1 : Nat)) : Int) := by rw [IntWalk.wrap64_in _ (by have := HLT.out; omega)]; rfl
                have hrem : ((k : Int) + 1).tmod (l.length : Int) = (((k + 1) % l.length : Nat) : Int) := rfl
                have hne : l ≠ [] := fun h => by have := HLT.out; rw [h] at this; exact absurd this (Nat.not_lt_zero _)
                have hmi : (((k + 1) % l.length : Nat) : Int) < l.length := by omega
                have hki2 : (k : Int) < l.length := by have := HLT.out; omega
                generalize (k + 1) % l.length = m at *
                refine region_class (fun Z => Kept wr Z) 14 (by kernel_rfl) (by kernel_rfl) (Kept.refl _).drew.drew ?_
                simp only [List.take_succ_cons, List.take_zero, List.drop_succ_cons, List.drop_zero]
                refine wpQuiet_yield (.agg #[.int .i64 o.N, .slice ao o.arcs.length ca, .slice bo o.near.length cb]) (by rfl) (fun Z hZ => ?_) ?_
                · obtain ⟨q0, q1, q2⟩ := HB1.out.kept (HKW.out.trans hZ)
                  have qb := lt_of_cell q0
                  go_simp
                simp only [Act.put, List.setIfInBounds_toArray, List.set_cons_zero, List.set_cons_succ]
                refine wpQuiet_yield (.slice (some ⟨B, off, none⟩) l.length c) (by rfl) (fun Z hZ => ?_) ?_
                · go_simp
                simp only [Act.put, List.setIfInBounds_toArray, List.set_cons_zero, List.set_cons_succ]
                refine wpQuiet_yield (.int .i64 k) (by rfl) (fun Z hZ => ?_) ?_
                · go_simp
                simp only [Act.put, List.setIfInBounds_toArray, List.set_cons_zero, List.set_cons_succ]
                refine wpQuiet_yield (.pointer (some ⟨B, off + k, none⟩)) (by rfl) (fun Z hZ => ?_) ?_
                · go_simp
                simp only [Act.put, List.setIfInBounds_toArray, List.set_cons_zero, List.set_cons_succ]
                refine wpQuiet_yield (.int .i64 x) (by rfl) (fun Z hZ => ?_) ?_
                · have hc := hZ.cell HCX.out
                  go_simp
                simp only [Act.put, List.setIfInBounds_toArray, List.set_cons_zero, List.set_cons_succ]
                refine wpQuiet_yield (.slice (some ⟨B, off, none⟩) l.length c) (by rfl) (fun Z hZ => ?_) ?_
                · go_simp
                simp only [Act.put, List.setIfInBounds_toArray, List.set_cons_zero, List.set_cons_succ]
                refine wpQuiet_yield (.int .i64 k) (by rfl) (fun Z hZ => ?_) ?_
                · go_simp
                simp only [Act.put, List.setIfInBounds_toArray, List.set_cons_zero, List.set_cons_succ]
                refine wpQuiet_yield (.int .i64 ((k + 1 : Nat) : Int)) (by rfl) (fun Z hZ => ?_) ?_
                · go_simp
                simp only [Act.put, List.setIfInBounds_toArray, List.set_cons_zero, List.set_cons_succ]
                refine wpQuiet_yield (.slice (some ⟨B, off, none⟩) l.length c) (by rfl) (fun Z hZ => ?_) ?_
                · go_simp
                simp only [Act.put, List.setIfInBounds_toArray, List.set_cons_zero, List.set_cons_succ]
                refine wpQuiet_yield (.int .i64 l.length) (by rfl) (fun Z hZ => ?_) ?_
                · go_simp
                simp only [Act.put, List.setIfInBounds_toArray, List.set_cons_zero, List.set_cons_succ]
                refine wpQuiet_yield (.int .i64 m) (by rfl) (fun Z hZ => ?_) ?_
                · go_simp
                simp only [Act.put, List.setIfInBounds_toArray, List.set_cons_zero, List.set_cons_succ]
                refine wpQuiet_yield (.pointer (some ⟨B, off + m, none⟩)) (by rfl) (fun Z hZ => ?_) ?_
                · go_simp
                simp only [Act.put, List.setIfInBounds_toArray, List.set_cons_zero, List.set_cons_succ]
                refine wpQuiet_yield (.int .i64 y) (by rfl) (fun Z hZ => ?_) ?_
                · have hc := hZ.cell HCY.out
                  go_simp
                simp only [Act.put, List.setIfInBounds_toArray, List.set_cons_zero, List.set_cons_succ]
                refine wpQuiet_yield (.bool (arcR o x y)) (by rfl) (fun Z hZ => ?_) ?_
                · go_simp
                  exact (Rarc_any o ao bo ca cb x y Z (HO.out.kept ((HK1.out.trans HKW.out).trans hZ))).mono fun e Z' h => ⟨h.1, hZ.trans h.2⟩
                simp only [Act.put, List.setIfInBounds_toArray, List.set_cons_zero, List.set_cons_succ]
                refine wpQuiet_nil ?_
                intro w4 hk4
                have HK4 := Lib.hid (HKW.out.trans hk4)
                clear hk4
                cases har : arcR o x y
                · have HX : Hid (false = r) := Lib.hid (HY.out fun h => by rw [har] at h; exact absurd h.2.2.2 (by simp))
                  clear har
                  go_wp2
                  go_ret
                  exact ⟨ret_bool HX.out, HK1.out.trans HK4.out⟩
                · have HS2 := Lib.hid (HS.out ⟨HP.out.1, HP.out.2, HNM.out, har⟩)
                  clear har
                  go_wp2
                  go_roundw
                  case measure => have := HLT.out; simp [intOf] <;> omega
                  case rel => exact ⟨k + 1, HLT.out, by go_num, HS2.out, HK4.out⟩
              · have HX : Hid (false = r) := Lib.hid (HY.out fun h => h.2.2.1 (of_decide_eq_true HSS.out))
                go_wp2
                go_ret
                exact ⟨ret_bool HX.out, (HK1.out.trans HKW.out).drew⟩
            · have e2 : decide (x ≥ o.N) = true := decide_eq_true (by omega)
              have HX : Hid (false = r) := Lib.hid (HY.out fun h => h2 h.2.1)
              clear h1 h2
              go_wp2
              refine region_tail 23 (by kernel_rfl) (by kernel_rfl) ?_
              simp only [List.take_succ_cons, List.take_zero, List.drop_succ_cons, List.drop_zero]
              iterate 15
                with_reducible refine wpStill_want ?_ (fun K hK => ?_)
                · rfl
                go_simp
                refine hK _ ?_
                clear hK K
              iterate 8
                with_reducible refine wpStill_skip ?_ ?_
                · rfl
                simp only [Act.put, List.setIfInBounds_toArray, List.set_cons_zero, List.set_cons_succ]
              with_reducible refine wpStill_nil ?_
              go_wp2
              go_ret
              exact ⟨ret_bool HX.out, (HK1.out.trans HKW.out).drew⟩
          · have e1 : decide (x < 0) = true := decide_eq_true (by omega)
            have HX : Hid (false = r) := Lib.hid (HY.out fun h => h1 h.1)
            clear h1
            go_wp2
            refine region_tail 23 (by kernel_rfl) (by kernel_rfl) ?_
            simp only [List.take_succ_cons, List.take_zero, List.drop_succ_cons, List.drop_zero]
            iterate 6
              with_reducible refine wpStill_want ?_ (fun K hK => ?_)
              · rfl
              go_simp
              refine hK _ ?_
              clear hK K
            iterate 7
              with_reducible refine wpStill_skip ?_ ?_
              · rfl
              simp only [Act.put, List.setIfInBounds_toArray, List.set_cons_zero, List.set_cons_succ]
            iterate 2
              with_reducible refine wpStill_want ?_ (fun K hK => ?_)
              · rfl
              go_simp
              refine hK _ ?_
              clear hK K
            iterate 8
              with_reducible refine wpStill_skip ?_ ?_
              · rfl
              simp only [Act.put, List.setIfInBounds_toArray, List.set_cons_zero, List.set_cons_succ]
            with_reducible refine wpStill_nil ?_
            go_wp2
            go_ret
            exact ⟨ret_bool HX.out, (HK1.out.trans HKW.out).drew⟩
        · obtain rfl : k = l.length := by omega
          have HX : Hid (true = r) := Lib.hid (by rw [← HR.out]; exact (HIFF.out.2 ⟨H2.out, fun i hi => HNN.out i hi hi⟩).symm)
          clear hlt hk
          go_wp2
          go_ret
          exact ⟨ret_bool HX.out, HK1.out.trans HKW.out⟩
  · have HX : Hid (false = r) := Lib.hid (by rw [← HR.out]; unfold CheckCircleR; rw [decide_eq_false hc]; rfl)
    have e1 : (chk o != 0) = true := by simp [hc]
    clear hc
    go_wp2
    go_ret
    exact ⟨ret_bool HX.out, HK1.out⟩
end Go.Proofs.Yteljjkghjbofnaa
