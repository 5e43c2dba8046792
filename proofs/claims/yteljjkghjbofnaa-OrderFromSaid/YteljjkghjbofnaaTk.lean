/- Plain law: days that stand give an order, whose days are no later; what Wait finds. -/
import Derived.Test.YteljjkghjbofnaaYo
import Derived.Test.YteljjkghjbofnaaMh
set_option maxRecDepth 100000
namespace Go.Proofs.Yteljjkghjbofnaa
open Go Go.Proofs Go.RowKit

/-! ### The days of an order stand -/

theorem near_fold_ge {W : Web} {dry : Int} {p : Nat} : ∀ (qs : List Int) (out : List Int), p < out.length → (∀ q ∈ qs, q.toNat ≠ p) → ∀ q ∈ qs, hasS (W.near p) q.toNat = true → out.getD q.toNat 0 + dry + 1 ≤ (qs.foldl (dayNear W dry p) out).getD p 0
  | [], _, _, _, q, hq, _ => by cases hq
  | r :: qs, out, h, hne, q, hq, hn => by
    have hl := dayNear_length W dry p out r
    have hr := hne r (List.mem_cons_self ..)
    rw [List.foldl_cons]
    rcases List.mem_cons.1 hq with rfl | hq
    · refine Int.le_trans ?_ (near_fold (W := W) (dry := dry) (p := p) qs _ (by rw [hl]; exact h)).2.1
      unfold dayNear
      rw [if_pos hn, getD_set_same h]
      exact Int.le_max_right _ _
    · have h2 := near_fold_ge (W := W) (dry := dry) (p := p) qs (dayNear W dry p out r) (by rw [hl]; exact h) (fun x hx => hne x (List.mem_cons_of_mem _ hx)) q hq hn
      rw [dayNear_other (Ne.symm (hne q (List.mem_cons_of_mem _ hq)))] at h2
      exact h2

section
variable {W : Web} {dry : Int} {l : List Int}
theorem days_near (hin : ∀ p ∈ l, 0 ≤ p ∧ p < (W.n : Int)) (hnd : l.Nodup) {i j : Nat} (hj : j < i) (h : i < l.length) (hn : hasS (W.near (l.getD i 0).toNat) (l.getD j 0).toNat = true) :
    (daysOf W dry l).getD (l.getD j 0).toNat 0 + dry + 1 ≤ (daysOf W dry l).getD (l.getD i 0).toNat 0 := by
  unfold daysOf
  obtain ⟨p, hp, hpn, hp'⟩ := getD_nat (W := W) hin h
  obtain ⟨r, hr, hrn, hr'⟩ := getD_nat (W := W) hin (show j < l.length by omega)
  have hlen := daysPart_length W dry l i
  rw [daysPart_stays hin hnd h l.length h (Nat.le_refl _), daysPart_stays hin hnd (show j < l.length by omega) l.length (by omega) (Nat.le_refl _), ← daysPart_stays hin hnd (show j < l.length by omega) i hj (by omega), daysPart_succ W dry l i]
  unfold dayStep
  have e : (l.getD i 0).toNat = p := by rw [hp]; rfl
  rw [e] at hn ⊢
  have hfl : (dayFirst l i (daysPart W dry l i)).length = W.n := by unfold dayFirst; split <;> simp [hlen]
  have hne : ∀ q ∈ l.take i, q.toNat ≠ p := by
    intro q hq
    obtain ⟨k, hk, hkq⟩ := List.getElem_of_mem hq
    have hki : k < i := by simp at hk; omega
    rw [List.getElem_take] at hkq
    intro e2
    have hq0 := hin q (List.mem_of_mem_take hq)
    have : l[k] = l[i] := by rw [hkq, hp']; omega
    have := (List.getElem_inj hnd).1 this
    omega
  have hm : l.getD j 0 ∈ l.take i := by rw [getD_mem (show j < l.length by omega)]; exact take_mem_lt (by omega) hj
  have h2 := near_fold_ge (W := W) (dry := dry) (p := p) (l.take i) (dayFirst l i (daysPart W dry l i)) (by rw [hfl]; exact hpn) hne _ hm hn
  refine Int.le_trans ?_ h2
  have hfirst : (dayFirst l i (daysPart W dry l i)).getD (l.getD j 0).toNat 0 = (daysPart W dry l i).getD (l.getD j 0).toNat 0 := by
    unfold dayFirst
    split
    · rw [e]; exact getD_set_other (Ne.symm (hne _ hm)) _ _
    · rfl
  rw [hfirst]
  exact Int.le_refl _

/-- Where a patch lies in an order. -/
theorem at_full (hl : l.length = W.n) (hin : ∀ p ∈ l, 0 ≤ p ∧ p < (W.n : Int)) (hnd : l.Nodup) {q : Nat} (hq : q < W.n) : ∃ i, i < l.length ∧ l.getD i 0 = (q : Int) := by
  obtain ⟨i, hi, e⟩ := List.getElem_of_mem (mem_full hl hin hnd hq)
  exact ⟨i, hi, by rw [getD_mem hi]; exact e⟩
theorem days_lt_iff (hin : ∀ p ∈ l, 0 ≤ p ∧ p < (W.n : Int)) (hnd : l.Nodup) {i j : Nat} (_hi : i < l.length) (hj : j < l.length) (h : (daysOf W dry l).getD (l.getD j 0).toNat 0 < (daysOf W dry l).getD (l.getD i 0).toNat 0) : j < i := by
  rcases Nat.lt_trichotomy i j with h1 | h1 | h1
  · have := days_lt (W := W) (dry := dry) hin hnd j h1 hj; omega
  · subst h1; omega
  · exact h1
/-- Why a day is not earlier, by places. -/
theorem days_whyAt (hl : l.length = W.n) (hin : ∀ p ∈ l, 0 ≤ p ∧ p < (W.n : Int)) (hnd : l.Nodup) (hd : 0 ≤ dry) {i : Nat} (h0 : 0 < i) (h : i < l.length) :
    (daysOf W dry l).getD (l.getD i 0).toNat 0 = (daysOf W dry l).getD (l.getD (i - 1) 0).toNat 0 + 1 ∨
    ∃ j, j < i ∧ hasS (W.near (l.getD i 0).toNat) (l.getD j 0).toNat = true ∧ (daysOf W dry l).getD (l.getD i 0).toNat 0 = (daysOf W dry l).getD (l.getD j 0).toNat 0 + dry + 1 := by
  rcases days_why (W := W) (dry := dry) hin hnd h0 h with h1 | ⟨q, hq, hn, h1⟩
  · exact .inl h1
  · obtain ⟨j, hj, ej⟩ := at_full hl hin hnd hq
    have e : (l.getD j 0).toNat = q := by rw [ej]; rfl
    exact .inr ⟨j, days_lt_iff (W := W) (dry := dry) hin hnd h hj (by rw [e]; omega), by rw [e]; exact hn, by rw [e]; exact h1⟩
theorem days_bound (hl : l.length = W.n) (hin : ∀ p ∈ l, 0 ≤ p ∧ p < (W.n : Int)) (hnd : l.Nodup) (hd : 0 ≤ dry ∧ dry ≤ 30) : ∀ (m i : Nat), i < m → i < l.length → (daysOf W dry l).getD (l.getD i 0).toNat 0 ≤ 31 * (i : Int) ∧ (i : Int) ≤ (daysOf W dry l).getD (l.getD i 0).toNat 0
  | 0, _, h, _ => absurd h (Nat.not_lt_zero _)
  | m + 1, i, hm, h => by
    by_cases h0 : i = 0
    · subst h0
      have := days_zero (W := W) (dry := dry) hin hnd h
      omega
    · have hp := days_bound hl hin hnd hd m (i - 1) (by omega) (by omega)
      have hs := days_succ (W := W) (dry := dry) hin hnd (by omega : 0 < i) h
      refine ⟨?_, by omega⟩
      rcases days_whyAt hl hin hnd hd.1 (by omega : 0 < i) h with h1 | ⟨j, hj, -, h1⟩
      · omega
      · have := days_bound hl hin hnd hd m j (by omega) (by omega)
        omega

theorem days_kept (hn : W.n ≤ 24) (hirr : ∀ p, p < W.n → hasS (W.to p) p = false) (hsym : ∀ a b, hasS (W.near a) b = true → hasS (W.near b) a = true) (hd : 0 ≤ dry ∧ dry ≤ 30) (h : orderedB W l = true) : keptB W dry (daysOf W dry l) = true := by
  obtain ⟨h1, h2, h3, h4⟩ := orderedB_iff.1 h
  have hlen : (daysOf W dry l).length = W.n := daysPart_length W dry l l.length
  refine keptB_iff.2 ⟨hlen, fun a ha => ?_, fun a b ha hb => ?_⟩
  · obtain ⟨i, hi, e⟩ := at_full h1 h2 h3 (q := a) (by omega)
    have := days_bound (W := W) (dry := dry) h1 h2 h3 hd (i + 1) i (by omega) hi
    rw [e, Int.toNat_natCast] at this
    generalize (daysOf W dry l).getD a 0 = x at *
    unfold outB
    simp
    omega
  · obtain ⟨i, hi, ei⟩ := at_full h1 h2 h3 ha
    obtain ⟨j, hj, ej⟩ := at_full h1 h2 h3 hb
    unfold keepB
    by_cases hab : a = b
    · simp [hab]
    · have hij : i ≠ j := by rintro rfl; rw [ei] at ej; omega
      have hlt := fun h5 => days_lt (W := W) (dry := dry) h2 h3 (i := i) j h5 hj
      have hgt := fun h5 => days_lt (W := W) (dry := dry) h2 h3 (i := j) i h5 hi
      have hto := fun h5 : hasS (W.to a) b = true => ordered_fwd hn h hirr hi hj (by rw [ei, ej]; exact h5)
      have hn1 := fun (h5 : j < i) (h6 : hasS (W.near a) b = true) => days_near (W := W) (dry := dry) h2 h3 h5 hi (by rw [ei, ej]; exact h6)
      have hn2 := fun (h5 : i < j) (h6 : hasS (W.near a) b = true) => days_near (W := W) (dry := dry) h2 h3 h5 hj (by rw [ei, ej]; exact hsym _ _ h6)
      rw [ei, ej] at hlt hgt hn1 hn2
      simp only [Int.toNat_natCast] at hlt hgt hn1 hn2
      generalize (daysOf W dry l).getD a 0 = x at *
      generalize (daysOf W dry l).getD b 0 = y at *
      rcases Nat.lt_or_gt_of_ne hij with h5 | h5
      · have := hlt h5
        have h7 := hn2 h5
        simp only [Bool.or_eq_true, decide_eq_true_eq, Bool.and_eq_true, Bool.not_eq_true', Bool.and_eq_false_iff, decide_eq_false_iff_not]
        refine .inr ⟨⟨by omega, .inr (by omega)⟩, ?_⟩
        cases hh : hasS (W.near a) b
        · exact .inl rfl
        · have := h7 hh; exact .inr (by omega)
      · have := hgt h5
        have h7 := hn1 h5
        simp only [Bool.or_eq_true, decide_eq_true_eq, Bool.and_eq_true, Bool.not_eq_true', Bool.and_eq_false_iff, decide_eq_false_iff_not]
        refine .inr ⟨⟨by omega, .inl ?_⟩, ?_⟩
        · cases hh : hasS (W.to a) b
          · rfl
          · have := hto hh; omega
        · cases hh : hasS (W.near a) b
          · exact .inl rfl
          · have := h7 hh; exact .inr (by omega)
end
/-! ### The patches in the order of their days -/

def pickS (d l : List Int) (m : Int) (p : Nat) : Int := if (p : Int) ∉ l ∧ (m < 0 ∨ d.getD p 0 < d.getD m.toNat 0) then (p : Int) else m
/-- Of the first k patches the first that is not in l and has the least day; -1 where there is none. -/
def pickK (d l : List Int) (k : Nat) : Int := (List.range k).foldl (pickS d l) (-1)
def sortK (d : List Int) : Nat → List Int
  | 0 => []
  | j + 1 => sortK d j ++ [pickK d (sortK d j) d.length]
theorem pickK_succ (d l : List Int) (k : Nat) : pickK d l (k + 1) = pickS d l (pickK d l k) k := by simp [pickK, List.range_succ]
theorem pickK_facts (d l : List Int) : ∀ (k : Nat), (pickK d l k = -1 ∧ ∀ p, p < k → (p : Int) ∈ l) ∨ ∃ p : Nat, p < k ∧ pickK d l k = (p : Int) ∧ (p : Int) ∉ l ∧ ∀ q, q < k → (q : Int) ∉ l → d.getD p 0 ≤ d.getD q 0
  | 0 => .inl ⟨rfl, fun p h => absurd h (Nat.not_lt_zero _)⟩
  | k + 1 => by
    rw [pickK_succ]
    unfold pickS
    rcases pickK_facts d l k with ⟨h1, h2⟩ | ⟨p, h1, h2, h3, h4⟩
    · rw [h1]
      by_cases hm : (k : Int) ∈ l
      · rw [if_neg (fun h => h.1 hm)]
        refine .inl ⟨rfl, fun p hp => ?_⟩
        rcases Nat.lt_or_eq_of_le (Nat.le_of_lt_succ hp) with h | rfl
        · exact h2 p h
        · exact hm
      · rw [if_pos ⟨hm, .inl (by omega)⟩]
        refine .inr ⟨k, Nat.lt_succ_self _, rfl, hm, fun q hq hql => ?_⟩
        rcases Nat.lt_or_eq_of_le (Nat.le_of_lt_succ hq) with h | rfl
        · exact absurd (h2 q h) hql
        · exact Int.le_refl _
    · rw [h2, Int.toNat_natCast]
      by_cases hm : (k : Int) ∉ l ∧ d.getD k 0 < d.getD p 0
      · rw [if_pos ⟨hm.1, .inr hm.2⟩]
        refine .inr ⟨k, Nat.lt_succ_self _, rfl, hm.1, fun q hq hql => ?_⟩
        rcases Nat.lt_or_eq_of_le (Nat.le_of_lt_succ hq) with h | rfl
        · have := h4 q h hql; omega
        · exact Int.le_refl _
      · rw [if_neg (fun h => hm ⟨h.1, h.2.resolve_left (by omega)⟩)]
        refine .inr ⟨p, by omega, rfl, h3, fun q hq hql => ?_⟩
        rcases Nat.lt_or_eq_of_le (Nat.le_of_lt_succ hq) with h | rfl
        · exact h4 q h hql
        · exact Int.not_lt.1 (fun h => hm ⟨hql, h⟩)

theorem short_miss {n : Nat} {l : List Int} (hl : l.length < n) : ∃ p : Nat, p < n ∧ (p : Int) ∉ l := by
  refine Classical.byContradiction fun hx => ?_
  have h2 : (List.range n).map (fun p : Nat => (p : Int)) ⊆ l := by
    intro x hx'
    obtain ⟨p, hp, rfl⟩ := List.mem_map.1 hx'
    exact Classical.byContradiction fun h => hx ⟨p, List.mem_range.1 hp, h⟩
  have h1 : ((List.range n).map (fun p : Nat => (p : Int))).Nodup := by
    refine List.pairwise_map.2 ((List.nodup_range (n := n)).imp ?_)
    intro a b h e
    exact h (by omega)
  have := List.Nodup.length_le_of_subset h1 h2
  simp at this
  omega

/-- What the first j picks are. -/
def SortF (d : List Int) (l : List Int) (j : Nat) : Prop := l.length = j ∧ (∀ p ∈ l, 0 ≤ p ∧ p < (d.length : Int)) ∧ l.Nodup ∧ ∀ i, (h : i < l.length) → ∀ q, q < d.length → (q : Int) ∉ l.take i → d.getD (l[i]).toNat 0 ≤ d.getD q 0
theorem SortF.step {d l : List Int} {j : Nat} (h : SortF d l j) (hj : j < d.length) : ∃ p : Nat, pickK d l d.length = (p : Int) ∧ p < d.length ∧ SortF d (l ++ [(p : Int)]) (j + 1) := by
  obtain ⟨h1, h2, h3, h4⟩ := h
  rcases pickK_facts d l d.length with ⟨_, h5⟩ | ⟨p, hp, h5, h6, h7⟩
  · obtain ⟨q, hq, hql⟩ := short_miss (n := d.length) (l := l) (by omega)
    exact absurd (h5 q hq) hql
  · refine ⟨p, h5, hp, by simp [h1], fun q hq => ?_, ?_, fun i hi => ?_⟩
    · rcases List.mem_append.1 hq with h | h
      · exact h2 q h
      · simp at h; subst h; omega
    · rw [List.nodup_append]
      exact ⟨h3, by simp, fun a ha b hb e => by simp at hb; subst hb; subst e; exact h6 ha⟩
    · by_cases hil : i < l.length
      · rw [List.getElem_append_left hil, List.take_append_of_le_length (by omega)]
        exact h4 i hil
      · have : i = l.length := by simp at hi; omega
        subst this
        rw [List.take_left]
        intro q hq hql
        simp
        exact h7 q hq hql
theorem sortK_facts (d : List Int) : ∀ j, j ≤ d.length → SortF d (sortK d j) j
  | 0, _ => ⟨rfl, by simp [sortK], by simp [sortK], fun i h => by simp [sortK] at h⟩
  | j + 1, h => by
    obtain ⟨p, e, _, hs⟩ := (sortK_facts d j (by omega)).step (by omega)
    show SortF d (sortK d j ++ [pickK d (sortK d j) d.length]) (j + 1)
    rw [e]
    exact hs

section
variable {W : Web} {dry : Int} {d : List Int}
theorem sort_lt (hk : keptB W dry d = true) {l : List Int} (h : SortF d l d.length) {i j : Nat} (hij : i < j) (hj : j < l.length) : d.getD (l.getD i 0).toNat 0 < d.getD (l.getD j 0).toNat 0 := by
  obtain ⟨h1, h2, h3, h4⟩ := h
  obtain ⟨k1, k2, k3⟩ := keptB_iff.1 hk
  have hi : i < l.length := by omega
  have hpi := h2 _ (List.getElem_mem hi)
  have hpj := h2 _ (List.getElem_mem hj)
  rw [getD_mem hi, getD_mem hj]
  have hne : l[i] ≠ l[j] := fun e => by have := (List.getElem_inj h3).1 e; omega
  have h5 := h4 i hi (l[j]).toNat (by omega) (by
    rw [Int.toNat_of_nonneg hpj.1]
    intro hm
    obtain ⟨m, hm1, hm2, hm3⟩ := mem_take_lt hm
    have := (List.getElem_inj h3).1 hm3
    omega)
  have h6 := k3 (l[i]).toNat (l[j]).toNat (by omega) (by omega)
  unfold keepB at h6
  have h7 : (l[i]).toNat ≠ (l[j]).toNat := by omega
  simp only [h7, decide_false, Bool.false_or, Bool.and_eq_true, Bool.not_eq_true', decide_eq_false_iff_not] at h6
  have := h6.1.1
  omega
theorem sort_ordered (hn : W.n ≤ 24) (hk : keptB W dry d = true) {l : List Int} (h : SortF d l d.length) : orderedB W l = true := by
  obtain ⟨k1, k2, k3⟩ := keptB_iff.1 hk
  have hs := h
  obtain ⟨h1, h2, h3, h4⟩ := h
  rw [k1] at h1 h2
  refine orderedB_iff.2 ⟨h1, h2, h3, fun i hi => ?_⟩
  refine Classical.byContradiction fun hne => ?_
  obtain ⟨q, hq1, hq2⟩ := inter_some hne
  rw [hasS_setS _ (fun p hp => by have := h2 p (List.mem_of_mem_take hp); omega)] at hq2
  obtain ⟨j, hj, hji, ej⟩ := mem_take_lt (of_decide_eq_true hq2)
  have hlt := sort_lt hk hs hji hi
  have hpi := h2 _ (List.getElem_mem hi)
  have hpj := h2 _ (List.getElem_mem hj)
  have h6 := k3 (l.getD i 0).toNat q (by rw [getD_mem hi]; omega) (by omega)
  rw [getD_mem hj, ej, Int.toNat_natCast] at hlt
  have hne : (l.getD i 0).toNat ≠ q := by
    intro e
    rw [e] at hlt
    omega
  unfold keepB at h6
  rw [hq1] at h6
  simp only [hne, decide_false, Bool.false_or, Bool.true_and, Bool.and_eq_true, Bool.not_eq_true', decide_eq_false_iff_not] at h6
  have := h6.1.2
  omega
/-- The days of that order are no later. -/
theorem sort_days (_hn : W.n ≤ 24) (hd : 0 ≤ dry) (hk : keptB W dry d = true) {l : List Int} (h : SortF d l d.length) : ∀ (m i : Nat), i < m → i < l.length → (daysOf W dry l).getD (l.getD i 0).toNat 0 ≤ d.getD (l.getD i 0).toNat 0
  | 0, _, h, _ => absurd h (Nat.not_lt_zero _)
  | m + 1, i, hm, hi => by
    obtain ⟨k1, k2, k3⟩ := keptB_iff.1 hk
    have hs := h
    obtain ⟨h1, h2, h3, h4⟩ := h
    have h2' := h2
    rw [k1] at h1 h2
    have hpi := h2 _ (List.getElem_mem hi)
    by_cases h0 : i = 0
    · subst h0
      rw [days_zero (W := W) (dry := dry) h2 h3 hi]
      exact (outB_false (k2 _ (by rw [getD_mem hi]; omega))).1
    · rcases days_whyAt (W := W) (dry := dry) h1 h2 h3 hd (by omega : 0 < i) hi with h5 | ⟨j, hj, hn, h5⟩
      · have := sort_days _hn hd hk hs m (i - 1) (by omega) (by omega)
        have := sort_lt hk hs (show i - 1 < i by omega) hi
        omega
      · have h6 := sort_days _hn hd hk hs m j (by omega) (by omega)
        have h7 := sort_lt hk hs hj hi
        have hpj := h2 _ (List.getElem_mem (show j < l.length by omega))
        have h8 := k3 (l.getD i 0).toNat (l.getD j 0).toNat (by rw [getD_mem hi]; omega) (by rw [getD_mem (show j < l.length by omega)]; omega)
        unfold keepB at h8
        rw [hn] at h8
        have hne : (l.getD i 0).toNat ≠ (l.getD j 0).toNat := by
          intro e
          rw [e] at h7
          omega
        simp only [hne, decide_false, Bool.false_or, Bool.true_and, Bool.and_eq_true, Bool.not_eq_true', decide_eq_false_iff_not] at h8
        have := h8.2
        omega
end
/-! ### All orders, and the one that waits least -/

section
variable {W : Web} {dry : Int}
def OrdF (W : Web) (l : List Int) : Prop := (∀ p ∈ l, 0 ≤ p ∧ p < (W.n : Int)) ∧ l.Nodup ∧ ∀ i, (h : i < l.length) → ∃ p : Nat, l[i] = (p : Int) ∧ p ∈ readyL W (setS (l.take i))
theorem OrdF.snoc (hn : W.n ≤ 24) {l : List Int} (h : OrdF W l) {q : Nat} (hm : q ∈ readyL W (setS l)) : OrdF W (l ++ [(q : Int)]) := by
  obtain ⟨h2, h3, h4⟩ := h
  obtain ⟨hqn, hqr⟩ := mem_readyL.1 hm
  have hnot : (q : Int) ∉ l := by
    unfold readyB at hqr
    rw [hasS_setS _ (fun p hp => by have := h2 p hp; omega)] at hqr
    simp at hqr
    exact hqr.1
  refine ⟨fun p hp => ?_, ?_, fun i hi => ?_⟩
  · rcases List.mem_append.1 hp with h | h
    · exact h2 p h
    · simp at h; subst h; omega
  · rw [List.nodup_append]
    exact ⟨h3, by simp, fun a ha b hb e => by simp at hb; subst hb; subst e; exact hnot ha⟩
  · by_cases hil : i < l.length
    · rw [List.getElem_append_left hil, List.take_append_of_le_length (by omega)]
      exact h4 i hil
    · have : i = l.length := by simp at hi; omega
      subst this
      refine ⟨q, by simp, ?_⟩
      rw [List.take_left]
      exact hm
theorem OrdF.ordered (hn : W.n ≤ 24) {l : List Int} (h : OrdF W l) (h1 : l.length = W.n) : orderedB W l = true := by
  obtain ⟨h2, h3, h4⟩ := h
  refine orderedB_iff.2 ⟨h1, h2, h3, fun i hi => ?_⟩
  refine Classical.byContradiction fun hne => ?_
  obtain ⟨q, hq1, hq2⟩ := inter_some hne
  rw [hasS_setS _ (fun p hp => by have := h2 p (List.mem_of_mem_take hp); omega)] at hq2
  have hq2 := of_decide_eq_true hq2
  obtain ⟨j, hj, he⟩ := List.mem_take_iff_getElem.1 hq2
  obtain ⟨r, hr1, hr2⟩ := h4 j (by omega)
  have : r = q := by omega
  subst this
  obtain ⟨hrn, hrr⟩ := mem_readyL.1 hr2
  unfold readyB at hrr
  simp only [Bool.and_eq_true, List.all_eq_true, List.mem_range] at hrr
  have hpi := h2 _ (List.getElem_mem hi)
  have h5 := hrr.2 (l.getD i 0).toNat (by rw [getD_mem hi]; omega)
  rw [hq1] at h5
  simp only [Bool.not_true, Bool.false_or] at h5
  rw [hasS_setS _ (fun p hp => by have := h2 p (List.mem_of_mem_take hp); omega)] at h5
  have h5 := of_decide_eq_true h5
  rw [getD_mem hi, Int.toNat_of_nonneg hpi.1] at h5
  obtain ⟨k, hk, hke⟩ := List.mem_take_iff_getElem.1 h5
  have := (List.getElem_inj h3).1 hke
  omega
theorem ordersF_sound (hn : W.n ≤ 24) {x : List Int} : ∀ (f : Nat) (l : List Int), OrdF W l → x ∈ ordersF W f (setS l) l → OrdF W x ∧ x.length = W.n
  | 0, l, _, hx => by simp [ordersF] at hx
  | f + 1, l, h, hx => by
    by_cases hl : l.length = W.n
    · unfold ordersF at hx
      rw [if_pos hl] at hx
      simp at hx
      subst hx
      exact ⟨h, hl⟩
    · rw [ordersF_succ hl] at hx
      obtain ⟨p, hp, hx⟩ := List.mem_flatMap.1 hx
      rw [← setS_snoc_nat] at hx
      exact ordersF_sound hn f _ (h.snoc hn hp) hx
theorem ordersL_sound (hn : W.n ≤ 24) {x : List Int} (hx : x ∈ ordersL W) : orderedB W x = true := by
  obtain ⟨h1, h2⟩ := ordersF_sound hn (W.n + 1) [] ⟨by simp, by simp, fun i h => by simp at h⟩ hx
  exact h1.ordered hn h2
theorem ordered_ready (hn : W.n ≤ 24) (hirr : ∀ p, p < W.n → hasS (W.to p) p = false) {x : List Int} (h : orderedB W x = true) {k : Nat} (hk : k < x.length) : (x[k]).toNat ∈ readyL W (setS (x.take k)) := by
  obtain ⟨h1, h2, h3, h4⟩ := orderedB_iff.1 h
  have hpk := h2 _ (List.getElem_mem hk)
  have hs := hasS_setS (x.take k) (fun p hp => by have := h2 p (List.mem_of_mem_take hp); omega)
  refine mem_readyL.2 ⟨by omega, ?_⟩
  unfold readyB
  simp only [Bool.and_eq_true, List.all_eq_true, List.mem_range]
  refine ⟨?_, fun a ha => ?_⟩
  · rw [hs]
    simp only [Bool.not_eq_true', decide_eq_false_iff_not]
    intro hm
    rw [Int.toNat_of_nonneg hpk.1] at hm
    obtain ⟨m, hm1, hm2, hm3⟩ := mem_take_lt hm
    have := (List.getElem_inj h3).1 hm3
    omega
  · cases hh : hasS (W.to a) (x[k]).toNat
    · rfl
    · obtain ⟨j, hj, ej⟩ := at_full h1 h2 h3 ha
      have hlt := ordered_fwd hn h hirr hj hk (by rw [ej, getD_mem hk]; exact hh)
      rw [hs]
      simp only [Bool.not_true, Bool.false_or]
      refine decide_eq_true ?_
      rw [← ej, getD_mem hj]
      exact take_mem_lt hj hlt
theorem ordersF_full (hn : W.n ≤ 24) (hirr : ∀ p, p < W.n → hasS (W.to p) p = false) {x : List Int} (h : orderedB W x = true) : ∀ (f k : Nat), W.n - k < f → k ≤ W.n → x ∈ ordersF W f (setS (x.take k)) (x.take k)
  | 0, k, hf, _ => absurd hf (Nat.not_lt_zero _)
  | f + 1, k, hf, hk => by
    obtain ⟨h1, h2, h3, h4⟩ := orderedB_iff.1 h
    have hlen : (x.take k).length = k := by rw [List.length_take]; omega
    by_cases hl : k = W.n
    · unfold ordersF
      rw [if_pos (by omega), List.take_of_length_le (by omega)]
      simp
    · rw [ordersF_succ (by omega)]
      have hkl : k < x.length := by omega
      have hpk := h2 _ (List.getElem_mem hkl)
      refine List.mem_flatMap.2 ⟨(x[k]).toNat, ordered_ready hn hirr h hkl, ?_⟩
      have hfull := ordersF_full hn hirr h f (k + 1) (by omega) (by omega)
      rw [List.take_succ_eq_append_getElem hkl] at hfull
      rw [← setS_snoc_nat, Int.toNat_of_nonneg hpk.1]
      exact hfull
theorem ordersL_full (hn : W.n ≤ 24) (hirr : ∀ p, p < W.n → hasS (W.to p) p = false) {x : List Int} (h : orderedB W x = true) : x ∈ ordersL W :=
  ordersF_full hn hirr h (W.n + 1) 0 (by omega) (by omega)

theorem waitAll_facts (q : List (List Int)) : (∀ x ∈ q, (waitAll W dry q).1 ≤ endOf W dry x) ∧
    ((waitAll W dry q).1 = 2000 ∧ (waitAll W dry q).2 = ([], []) ∨ ∃ x ∈ q, (waitAll W dry q).1 = endOf W dry x ∧ (waitAll W dry q).2 = (x, daysOf W dry x)) := by
  have key : ∀ (t : List (List Int)), (∀ x ∈ t.reverse, (waitAll W dry t.reverse).1 ≤ endOf W dry x) ∧
    ((waitAll W dry t.reverse).1 = 2000 ∧ (waitAll W dry t.reverse).2 = ([], []) ∨ ∃ x ∈ t.reverse, (waitAll W dry t.reverse).1 = endOf W dry x ∧ (waitAll W dry t.reverse).2 = (x, daysOf W dry x)) := by
    intro t
    induction t with
    | nil => exact ⟨by simp, .inl ⟨rfl, rfl⟩⟩
    | cons y t ih =>
      rw [List.reverse_cons, waitAll_snoc]
      generalize t.reverse = r at *
      obtain ⟨h1, h2⟩ := ih
      unfold waitStep
      by_cases hlt : endOf W dry y < (waitAll W dry r).1
      · rw [if_pos hlt]
        refine ⟨fun x hx => ?_, .inr ⟨y, by simp, rfl, rfl⟩⟩
        rcases List.mem_append.1 hx with h | h
        · have := h1 x h
          show endOf W dry y ≤ _
          omega
        · simp at h; subst h; exact Int.le_refl _
      · rw [if_neg hlt]
        refine ⟨fun x hx => ?_, ?_⟩
        · rcases List.mem_append.1 hx with h | h
          · exact h1 x h
          · simp at h; subst h; omega
        · rcases h2 with h2 | ⟨x, hx, h3⟩
          · exact .inl h2
          · exact .inr ⟨x, List.mem_append_left _ hx, h3⟩
  have := key q.reverse
  rwa [List.reverse_reverse] at this
theorem end_bound (hd : 0 ≤ dry ∧ dry ≤ 30) {l : List Int} (h : orderedB W l = true) (hn : W.n ≤ 24) (h0 : 0 < W.n) : ((W.n : Int) - 1 ≤ endOf W dry l ∧ endOf W dry l ≤ 713) ∧ (∀ p, p < W.n → (daysOf W dry l).getD p 0 ≤ endOf W dry l) := by
  obtain ⟨h1, h2, h3, h4⟩ := orderedB_iff.1 h
  have hb := days_bound (W := W) (dry := dry) h1 h2 h3 hd (l.length) (l.length - 1) (by omega) (by omega)
  unfold endOf
  refine ⟨⟨by omega, by omega⟩, fun p hp => ?_⟩
  obtain ⟨i, hi, e⟩ := at_full h1 h2 h3 hp
  by_cases hil : i = l.length - 1
  · subst hil
    rw [e]
    exact Int.le_refl _
  · have := days_lt (W := W) (dry := dry) h2 h3 (i := i) (l.length - 1) (by omega) (by omega)
    rw [e, Int.toNat_natCast] at this
    omega
/-- What Wait finds ends no later than any order. -/
theorem wait_least (hn : W.n ≤ 24) (h0 : 0 < W.n) (hirr : ∀ p, p < W.n → hasS (W.to p) p = false) (hd : 0 ≤ dry ∧ dry ≤ 30) {q : List (List Int)} (hq : q <+: ordersL W) {o1 d1 : List Int} (he : (waitAll W dry q).2 = (o1, d1))
    (hend : q = ordersL W ∨ (waitAll W dry q).1 = (W.n : Int) - 1) {l : List Int} (hl : orderedB W l = true) :
    orderedB W o1 = true ∧ d1 = daysOf W dry o1 ∧ endOf W dry o1 ≤ endOf W dry l := by
  obtain ⟨f1, f2⟩ := waitAll_facts (W := W) (dry := dry) q
  have hb := end_bound (W := W) (dry := dry) hd hl hn h0
  have hle : (waitAll W dry q).1 ≤ endOf W dry l := by
    rcases hend with rfl | h
    · exact f1 l (ordersL_full hn hirr hl)
    · rw [h]; exact hb.1.1
  rcases f2 with ⟨h1, -⟩ | ⟨x, hx, h1, h2⟩
  · have := hb.1.2
    omega
  · rw [h2] at he
    simp only [Prod.mk.injEq] at he
    obtain ⟨rfl, rfl⟩ := he
    exact ⟨ordersL_sound hn (hq.subset hx), rfl, by omega⟩
end

/-- The last day. -/
def lastK (d : List Int) (k : Nat) : Int := (d.take k).foldl max (-1)
theorem lastK_succ (d : List Int) {k : Nat} (h : k < d.length) : lastK d (k + 1) = max (lastK d k) d[k] := by
  unfold lastK
  rw [List.take_succ_eq_append_getElem h, List.foldl_append]; rfl
theorem lastK_le {d : List Int} {B : Int} (hB : -1 ≤ B) (h : ∀ p, p < d.length → d.getD p 0 ≤ B) : ∀ k, k ≤ d.length → lastK d k ≤ B
  | 0, _ => hB
  | k + 1, hk => by
    rw [lastK_succ d hk]
    have := lastK_le hB h k (by omega)
    have h2 := h k hk
    rw [getD_mem hk] at h2
    exact Int.max_le.2 ⟨this, h2⟩
theorem lastK_ge {d : List Int} {p : Nat} : ∀ k, k ≤ d.length → p < k → d.getD p 0 ≤ lastK d k
  | 0, _, h => absurd h (Nat.not_lt_zero _)
  | k + 1, hk, h => by
    rw [lastK_succ d hk]
    rcases Nat.lt_or_eq_of_le (Nat.le_of_lt_succ h) with h1 | rfl
    · exact Int.le_trans (lastK_ge k (by omega) h1) (Int.le_max_left _ _)
    · rw [getD_mem hk]; exact Int.le_max_right _ _
theorem last_le {W : Web} {dry : Int} (hn : W.n ≤ 24) (h0 : 0 < W.n) (hd : 0 ≤ dry ∧ dry ≤ 30) {o1 l : List Int} (h1 : orderedB W o1 = true) (h2 : orderedB W l = true) (h : endOf W dry o1 ≤ endOf W dry l) :
    lastK (daysOf W dry o1) (daysOf W dry o1).length ≤ lastK (daysOf W dry l) (daysOf W dry l).length := by
  obtain ⟨e1, e2⟩ := end_bound (W := W) (dry := dry) hd h1 hn h0
  have hlen : ∀ x, (daysOf W dry x).length = W.n := fun x => daysPart_length W dry x x.length
  have hA := lastK_le (d := daysOf W dry o1) (B := endOf W dry o1) (by omega) (fun p hp => e2 p (by rw [hlen] at hp; exact hp)) _ (Nat.le_refl _)
  obtain ⟨k1, k2, k3, k4⟩ := orderedB_iff.1 h2
  have hp := k2 _ (List.getElem_mem (show l.length - 1 < l.length by omega))
  have hB := lastK_ge (d := daysOf W dry l) (p := (l.getD (l.length - 1) 0).toNat) (daysOf W dry l).length (Nat.le_refl _) (by rw [hlen, getD_mem (show l.length - 1 < l.length by omega)]; omega)
  show _ ≤ _
  unfold endOf at h hA
  omega
theorem near_sym {o : Prob} (hc : chk o = 0) (a b : Nat) (h : hasS ((webOf o).near a) b = true) : hasS ((webOf o).near b) a = true := by
  rw [← nearR_eq hc] at h ⊢
  unfold nearR at *
  rw [Int.min_comm, Int.max_comm]
  exact h
end Go.Proofs.Yteljjkghjbofnaa
