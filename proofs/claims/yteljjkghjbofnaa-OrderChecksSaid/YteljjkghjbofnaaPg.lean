/- Plain law: the circle that is found; orders and circles. -/
import Derived.Test.YteljjkghjbofnaaPf
set_option maxRecDepth 100000
namespace Go.Proofs.Yteljjkghjbofnaa
open Go Go.Proofs Go.RowKit

section
variable {W : Web}

theorem circlePart_spec (W : Web) : ∀ (k : Nat), (circlePart W k ≠ [] → ∃ a, a < k ∧ circlePart W k = roundOf W a ∧ roundOf W a ≠ []) ∧ ∀ a, a < k → roundOf W a ≠ [] → circlePart W k ≠ [] ∧ (circlePart W k).length ≤ (roundOf W a).length
  | 0 => ⟨fun h => absurd rfl h, fun a h => by omega⟩
  | k + 1 => by
    obtain ⟨h1, h2⟩ := circlePart_spec W k
    have e : circlePart W (k + 1) = circleStep W (circlePart W k) k := by unfold circlePart; rw [List.range_succ, List.foldl_append]; rfl
    rw [e]
    unfold circleStep
    by_cases hc : roundOf W k ≠ [] ∧ (circlePart W k = [] ∨ (roundOf W k).length < (circlePart W k).length)
    · rw [if_pos hc]
      refine ⟨fun _ => ⟨k, by omega, rfl, hc.1⟩, fun a ha hr => ⟨hc.1, ?_⟩⟩
      by_cases hak : a = k
      · subst hak; exact Nat.le_refl _
      · have := h2 a (by omega) hr
        rcases hc.2 with h | h
        · exact absurd h this.1
        · omega
    · rw [if_neg hc]
      refine ⟨fun h => ?_, fun a ha hr => ?_⟩
      · obtain ⟨a, ha, hx⟩ := h1 h
        exact ⟨a, by omega, hx⟩
      · by_cases hak : a = k
        · subst hak
          have hne : circlePart W a ≠ [] := fun h => hc ⟨hr, .inl h⟩
          exact ⟨hne, Nat.le_of_not_lt fun h => hc ⟨hr, .inr h⟩⟩
        · exact h2 a (by omega) hr

theorem roundOf_ne {a : Nat} (h : roundOf W a ≠ []) : (leftOf W a).getD a 0 ≠ 0 := fun e => h (by unfold roundOf; rw [if_pos e])

/-- The circle that is found is a circle. -/
theorem circlePart_circ (hn : W.n ≤ 24) (hirr : ∀ p, p < W.n → hasS (W.to p) p = false) (h : circlePart W W.n ≠ []) : circOk W (circlePart W W.n) := by
  obtain ⟨a, ha, he, hr⟩ := (circlePart_spec W W.n).1 h
  rw [he]
  exact (roundOf_circ hn hirr ha (roundOf_ne hr)).1
theorem circlePart_least (hn : W.n ≤ 24) (hirr : ∀ p, p < W.n → hasS (W.to p) p = false) {l : List Int} (h : circOk W l) : circlePart W W.n ≠ [] ∧ (circlePart W W.n).length ≤ l.length := by
  obtain ⟨a, ha, h1, h2⟩ := circOk_round hn h
  obtain ⟨h3, h4⟩ := roundOf_circ hn hirr ha h1
  have hne : roundOf W a ≠ [] := fun e => by have := h3.1; rw [e] at this; simp at this
  obtain ⟨h5, h6⟩ := (circlePart_spec W W.n).2 a ha hne
  exact ⟨h5, by omega⟩
theorem path_irr (hc : circB W = false) (hw : Woven W) {a : Nat} (ha : a < W.n) : ¬ Path W.to W.n a a := fun h => by
  have := (hw.iff a a ha).2 h
  rw [circB_false hc a ha] at this
  cases this
theorem cyc_path {c : List Nat} (h : Cyc W c) {i : Nat} (hi : i < c.length) : ∀ k, 0 < k → Path W.to W.n c[i] (c[(i + k) % c.length]'(Nat.mod_lt _ (by omega)))
  | 0, h0 => by omega
  | 1, _ => .arc (h.2 i hi)
  | k + 2, _ => by
    have h1 := cyc_path h hi (k + 1) (by omega)
    have h2 := h.2 ((i + (k + 1)) % c.length) (Nat.mod_lt _ (by omega))
    have e : ((i + (k + 1)) % c.length + 1) % c.length = (i + (k + 2)) % c.length := by rw [Nat.mod_add_mod]; rfl
    simp only [e] at h2
    exact h1.trans (h.1 _ (List.getElem_mem _)) (.arc h2)

theorem circlePart_iff (hn : W.n ≤ 24) (hirr : ∀ p, p < W.n → hasS (W.to p) p = false) (hw : Woven W) : circlePart W W.n ≠ [] ↔ circB W = true := by
  refine ⟨fun h => ?_, fun h => ?_⟩
  · have hc := circlePart_circ hn hirr h
    obtain ⟨h1, h2⟩ := circOk_cyc hc
    have hl : 0 < ((circlePart W W.n).map Int.toNat).length := by rw [List.length_map]; have := hc.1; omega
    have hp := cyc_path h1 (i := 0) hl ((circlePart W W.n).map Int.toNat).length hl
    have e : (0 + ((circlePart W W.n).map Int.toNat).length) % ((circlePart W W.n).map Int.toNat).length = 0 := by rw [Nat.zero_add, Nat.mod_self]
    simp only [e] at hp
    cases hb : circB W
    · exact absurd hp (path_irr hb hw (h1.1 _ (List.getElem_mem _)))
    · rfl
  · obtain ⟨a, ha, h1⟩ := circB_round hn hw h
    obtain ⟨h3, _⟩ := roundOf_circ hn hirr ha h1
    have hne : roundOf W a ≠ [] := fun e => by have := h3.1; rw [e] at this; simp at this
    exact ((circlePart_spec W W.n).2 a ha hne).1

/-- Two patches of a circle one behind the other are contrary. -/
theorem circ_contrary (hw : Woven W) {l : List Int} (h : circOk W l) : hasS (W.reach (l.getD 0 0).toNat) (l.getD 1 0).toNat = true ∧ hasS (W.reach (l.getD 1 0).toNat) (l.getD 0 0).toNat = true ∧ l.getD 0 0 ≠ l.getD 1 0 := by
  have hlen := h.1
  have hg : ∀ k, (hk : k < l.length) → l.getD k 0 = l[k] := fun k hk => by rw [List.getD_eq_getElem?_getD, List.getElem?_eq_getElem hk]; rfl
  obtain ⟨h1, h2⟩ := circOk_cyc h
  have e0 : (l.getD 0 0).toNat = (l.map Int.toNat)[0]'(by rw [List.length_map]; omega) := by rw [hg 0 (by omega)]; simp
  have e1 : (l.getD 1 0).toNat = (l.map Int.toNat)[1]'(by rw [List.length_map]; omega) := by rw [hg 1 (by omega)]; simp
  have hp := cyc_path h1 (i := 0) (by rw [List.length_map]; omega) 1 (by omega)
  have hq := cyc_path h1 (i := 1) (by rw [List.length_map]; omega) (l.length - 1) (by omega)
  have f0 : (0 + 1) % (l.map Int.toNat).length = 1 := by rw [List.length_map]; exact Nat.mod_eq_of_lt (by omega)
  have f1 : (1 + (l.length - 1)) % (l.map Int.toNat).length = 0 := by rw [List.length_map, show 1 + (l.length - 1) = l.length by omega, Nat.mod_self]
  simp only [f0] at hp
  simp only [f1] at hq
  rw [e0, e1]
  refine ⟨(hw.iff _ _ (h1.1 _ (List.getElem_mem _))).2 hp, (hw.iff _ _ (h1.1 _ (List.getElem_mem _))).2 hq, ?_⟩
  rw [hg 0 (by omega), hg 1 (by omega)]
  intro e
  have := (List.getElem_inj h.2.2.1).1 e
  omega

/-! ### Orders -/

theorem orderedB_iff {l : List Int} : orderedB W l = true ↔ l.length = W.n ∧ (∀ p ∈ l, 0 ≤ p ∧ p < (W.n : Int)) ∧ l.Nodup ∧ ∀ i, i < l.length → W.to (l.getD i 0).toNat &&& setS (l.take i) = 0#32 := by
  unfold orderedB eachB
  simp only [Bool.and_eq_true, decide_eq_true_eq, List.all_eq_true, List.mem_range, beq_iff_eq]
  exact ⟨fun h => ⟨h.1.1, h.1.2.1, h.1.2.2, h.2⟩, fun h => ⟨⟨h.1, h.2.1, h.2.2.1⟩, h.2.2.2⟩⟩

theorem ordered_fwd (hn : W.n ≤ 24) {l : List Int} (h : orderedB W l = true) (hirr : ∀ p, p < W.n → hasS (W.to p) p = false) {i j : Nat} (hi : i < l.length) (hj : j < l.length) (ha : hasS (W.to (l.getD i 0).toNat) (l.getD j 0).toNat = true) : i < j := by
  obtain ⟨h1, h2, h3, h4⟩ := orderedB_iff.1 h
  have hg : ∀ k, (hk : k < l.length) → l.getD k 0 = l[k] := fun k hk => by rw [List.getD_eq_getElem?_getD, List.getElem?_eq_getElem hk]; rfl
  refine Nat.lt_of_not_le fun hle => ?_
  have hpi := h2 _ (List.getElem_mem hi)
  have hpj := h2 _ (List.getElem_mem hj)
  rcases Nat.lt_or_eq_of_le hle with hlt | rfl
  · refine inter_of ha ?_ (h4 i hi)
    rw [hasS_setS _ (fun p hp => by have := h2 p (List.mem_of_mem_take hp); omega)]
    rw [hg j hj]
    refine decide_eq_true ?_
    rw [Int.toNat_of_nonneg hpj.1]
    exact List.mem_take_iff_getElem.2 ⟨j, by omega, rfl⟩
  · rw [hg j hi] at ha
    rw [hirr _ (by omega)] at ha
    cases ha

/-- Where there is an order, there is no circle. -/
theorem ordered_circ (hn : W.n ≤ 24) (hw : Woven W) (hirr : ∀ p, p < W.n → hasS (W.to p) p = false) {l : List Int} (h : orderedB W l = true) : circB W = false := by
  obtain ⟨h1, h2, h3, h4⟩ := orderedB_iff.1 h
  have hg : ∀ k, (hk : k < l.length) → l.getD k 0 = l[k] := fun k hk => by rw [List.getD_eq_getElem?_getD, List.getElem?_eq_getElem hk]; rfl
  have hat : ∀ p, p < W.n → ∃ i, i < l.length ∧ l.getD i 0 = (p : Int) := fun p hp => by
    obtain ⟨i, hi, e⟩ := List.getElem_of_mem (mem_full h1 h2 h3 hp)
    exact ⟨i, hi, by rw [hg i hi]; exact e⟩
  have key : ∀ a b, Path W.to W.n a b → ∀ i j, i < l.length → j < l.length → l.getD i 0 = (a : Int) → l.getD j 0 = (b : Int) → i < j := by
    intro a b hp
    induction hp with
    | arc ha => intro i j hi hj ei ej; exact ordered_fwd hn h hirr hi hj (by rw [ei, ej]; exact ha)
    | cons ha hm _ ih =>
      intro i j hi hj ei ej
      obtain ⟨k, hk, ek⟩ := hat _ hm
      exact Nat.lt_trans (ordered_fwd hn h hirr hi hk (by rw [ei, ek]; exact ha)) (ih k j hk hj ek ej)
  unfold circB
  rw [List.any_eq_false]
  intro a ha hr
  have ha := List.mem_range.1 ha
  obtain ⟨i, hi, ei⟩ := hat a ha
  have := key a a (hw.path a a ha hr) i i hi hi ei ei
  omega

/-- The first order. -/
theorem firstL_facts (hn : W.n ≤ 24) (hg : Goes W) : ∀ (k : Nat), k ≤ W.n → (firstL W k).length = k ∧ (∀ p ∈ firstL W k, 0 ≤ p ∧ p < (W.n : Int)) ∧ (firstL W k).Nodup ∧ ∀ i, (h : i < (firstL W k).length) → ∃ p : Nat, (firstL W k)[i] = (p : Int) ∧ p ∈ readyL W (setS ((firstL W k).take i))
  | 0, _ => ⟨rfl, by simp [firstL], by simp [firstL], fun i h => by simp [firstL] at h⟩
  | k + 1, hk => by
    obtain ⟨h1, h2, h3, h4⟩ := firstL_facts hn hg k (by omega)
    have hne := hg _ h2 h3 (by omega)
    obtain ⟨q, t, hq⟩ := List.exists_cons_of_ne_nil hne
    have hm : q ∈ readyL W (setS (firstL W k)) := by rw [hq]; simp
    obtain ⟨hqn, hqr⟩ := mem_readyL.1 hm
    have hnot : (q : Int) ∉ firstL W k := by
      unfold readyB at hqr
      rw [hasS_setS _ (fun p hp => by have := h2 p hp; omega)] at hqr
      simp at hqr
      exact hqr.1
    have e : firstL W (k + 1) = firstL W k ++ [(q : Int)] := by
      show firstL W k ++ [_] = _
      rw [hq]; rfl
    rw [e]
    refine ⟨by simp [h1], fun p hp => ?_, ?_, fun i hi => ?_⟩
    · rcases List.mem_append.1 hp with h | h
      · exact h2 p h
      · simp at h; subst h; omega
    · rw [List.nodup_append]
      exact ⟨h3, by simp, fun a ha b hb e => by simp at hb; subst hb; subst e; exact hnot ha⟩
    · by_cases hil : i < (firstL W k).length
      · rw [List.getElem_append_left hil, List.take_append_of_le_length (by omega)]
        exact h4 i hil
      · have : i = (firstL W k).length := by simp at hi; omega
        subst this
        refine ⟨q, by simp, ?_⟩
        rw [List.take_left]
        exact hm
theorem firstOf_ordered (hn : W.n ≤ 24) (hg : Goes W) : orderedB W (firstOf W) = true := by
  obtain ⟨h1, h2, h3, h4⟩ := firstL_facts hn hg W.n (Nat.le_refl _)
  unfold firstOf
  generalize firstL W W.n = l at *
  refine orderedB_iff.2 ⟨h1, h2, h3, fun i hi => ?_⟩
  have hgd : ∀ k, (hk : k < l.length) → l.getD k 0 = l[k] := fun k hk => by rw [List.getD_eq_getElem?_getD, List.getElem?_eq_getElem hk]; rfl
  refine Classical.byContradiction fun hne => ?_
  obtain ⟨q, hq1, hq2⟩ := inter_some hne
  rw [hasS_setS _ (fun p hp => by have := h2 p (List.mem_of_mem_take hp); omega)] at hq2
  have hq2 := of_decide_eq_true hq2
  obtain ⟨j, hj, he⟩ := List.mem_take_iff_getElem.1 hq2
  obtain ⟨r, hr1, hr2⟩ := h4 j (by omega)
  have : r = q := by omega
  subst this
  obtain ⟨hrn, hrr⟩ := mem_readyL.1 hr2
  unfold readyB at hrr
  simp only [Bool.and_eq_true, List.all_eq_true, List.mem_range] at hrr
  have hpi := h2 _ (List.getElem_mem hi)
  have h5 := hrr.2 (l.getD i 0).toNat (by rw [hgd i hi]; omega)
  rw [hq1] at h5
  simp only [Bool.not_true, Bool.false_or] at h5
  rw [hasS_setS _ (fun p hp => by have := h2 p (List.mem_of_mem_take hp); omega)] at h5
  have h5 := of_decide_eq_true h5
  rw [hgd i hi, Int.toNat_of_nonneg hpi.1] at h5
  obtain ⟨k, hk, hke⟩ := List.mem_take_iff_getElem.1 h5
  have := (List.getElem_inj h3).1 hke
  omega
end

theorem toS_has (l : List (Int × Int)) (hl : ∀ x ∈ l, 0 ≤ x.2 ∧ x.2 < 32) (a b : Nat) : hasS (toS l a) b = true ↔ ∃ x ∈ l, x.1.toNat = a ∧ x.2.toNat = b := by
  have key : ∀ (l : List (Int × Int)) (f : Nat → S), (∀ x ∈ l, 0 ≤ x.2 ∧ x.2 < 32) → (hasS (l.foldl stepTo f a) b = true ↔ hasS (f a) b = true ∨ ∃ x ∈ l, x.1.toNat = a ∧ x.2.toNat = b) := by
    intro l
    induction l with
    | nil => intro f _; simp
    | cons x l ih =>
      intro f h
      have hx := h x (by simp)
      rw [List.foldl_cons, ih _ (fun y hy => h y (by simp [hy]))]
      have e : hasS (stepTo f x a) b = true ↔ hasS (f a) b = true ∨ (x.1.toNat = a ∧ x.2.toNat = b) := by
        unfold stepTo upd
        by_cases h1 : a = x.1.toNat
        · subst h1
          rw [if_pos rfl, hasS_or, hasS_one _ _ (by omega)]
          simp only [Bool.or_eq_true, decide_eq_true_eq]
          exact ⟨fun h => h.imp id (fun h => ⟨by trivial, h.symm⟩), fun h => h.imp id (fun h => h.2.symm)⟩
        · rw [if_neg h1]
          exact ⟨.inl, fun h => h.elim id (fun h => absurd h.1.symm h1)⟩
      rw [e]
      simp only [List.mem_cons, exists_eq_or_imp]
      exact or_assoc
  have := key l (fun _ => 0#32) hl
  simpa [toS] using this
theorem webOf_irr {o : Prob} (h : chk o = 0) (p : Nat) : hasS ((webOf o).to p) p = false := by
  obtain ⟨_, h2, h3, _⟩ := pair_of_chk h
  cases hh : hasS ((webOf o).to p) p
  · rfl
  · obtain ⟨x, hx, h4, h5⟩ := (toS_has o.arcs (fun x hx => by have := h3 x hx; omega) p p).1 hh
    have := h3 x hx
    omega

end Go.Proofs.Yteljjkghjbofnaa
