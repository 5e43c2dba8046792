/- Plain law: the reasons of an order lead back to the day 0, and their days add up to the last day. -/
import Derived.Test.YteljjkghjbofnaaWt
set_option maxRecDepth 100000
namespace Go.Proofs.Yteljjkghjbofnaa
open Go Go.Proofs Go.RowKit

/-! ### Why a day is not earlier -/

theorem near_fold_eq {W : Web} {dry : Int} {p : Nat} : ∀ (qs : List Int) (out : List Int), p < out.length → (∀ q ∈ qs, q.toNat ≠ p) →
    (qs.foldl (dayNear W dry p) out).getD p 0 = out.getD p 0 ∨ ∃ q ∈ qs, hasS (W.near p) q.toNat = true ∧ (qs.foldl (dayNear W dry p) out).getD p 0 = out.getD q.toNat 0 + dry + 1
  | [], out, _, _ => .inl rfl
  | q :: qs, out, h, hne => by
    have hq := hne q (List.mem_cons_self ..)
    have hne' := fun r hr => hne r (List.mem_cons_of_mem _ hr)
    rcases near_fold_eq (W := W) (dry := dry) (p := p) qs (dayNear W dry p out q) (by rw [dayNear_length]; exact h) hne' with h1 | ⟨r, hr, hn, h1⟩
    · rw [List.foldl_cons, h1]
      unfold dayNear
      by_cases hh : hasS (W.near p) q.toNat = true
      · rw [if_pos hh, getD_set_same h]
        rcases Int.le_total (out.getD p 0) (out.getD q.toNat 0 + dry + 1) with h2 | h2
        · exact .inr ⟨q, List.mem_cons_self .., hh, Int.max_eq_right h2⟩
        · exact .inl (Int.max_eq_left h2)
      · rw [if_neg hh]; exact .inl rfl
    · refine .inr ⟨r, List.mem_cons_of_mem _ hr, hn, ?_⟩
      rw [List.foldl_cons, h1, dayNear_other (Ne.symm (hne' r hr))]

section
variable {W : Web} {dry : Int} {l : List Int}
/-- A day is the day behind the one before, or that at which a neighbour is dry. -/
theorem days_why (hin : ∀ p ∈ l, 0 ≤ p ∧ p < (W.n : Int)) (hnd : l.Nodup) {i : Nat} (h0 : 0 < i) (h : i < l.length) :
    (daysOf W dry l).getD (l.getD i 0).toNat 0 = (daysOf W dry l).getD (l.getD (i - 1) 0).toNat 0 + 1 ∨
    ∃ q, q < W.n ∧ hasS (W.near (l.getD i 0).toNat) q = true ∧ (daysOf W dry l).getD (l.getD i 0).toNat 0 = (daysOf W dry l).getD q 0 + dry + 1 := by
  unfold daysOf
  obtain ⟨p, hp, hpn, hp'⟩ := getD_nat (W := W) hin h
  have hlen := daysPart_length W dry l i
  have stay : ∀ j, (hj : j < i) → (daysPart W dry l l.length).getD (l.getD j 0).toNat 0 = (daysPart W dry l i).getD (l.getD j 0).toNat 0 := fun j hj => by
    rw [daysPart_stays hin hnd (show j < l.length by omega) l.length (by omega) (Nat.le_refl _), daysPart_stays hin hnd (show j < l.length by omega) i hj (by omega)]
  rw [daysPart_stays hin hnd h l.length h (Nat.le_refl _), stay (i - 1) (by omega), daysPart_succ W dry l i]
  unfold dayStep
  have e : (l.getD i 0).toNat = p := by rw [hp]; rfl
  rw [e]
  have hfl : (dayFirst l i (daysPart W dry l i)).length = W.n := by unfold dayFirst; split <;> simp [hlen]
  have hne : ∀ q ∈ l.take i, q.toNat ≠ p := by
    intro q hq
    obtain ⟨j, hj, hjq⟩ := List.getElem_of_mem hq
    have hji : j < i := by simp at hj; omega
    rw [List.getElem_take] at hjq
    intro e2
    have hq0 := hin q (List.mem_of_mem_take hq)
    have : l[j] = l[i] := by rw [hjq, hp']; omega
    have := (List.getElem_inj hnd).1 this
    omega
  have hfirst : ∀ x, x ≠ p → (dayFirst l i (daysPart W dry l i)).getD x 0 = (daysPart W dry l i).getD x 0 := fun x hx => by
    unfold dayFirst; rw [if_pos h0, e]; exact getD_set_other (Ne.symm hx) _ _
  rcases near_fold_eq (W := W) (dry := dry) (p := p) (l.take i) (dayFirst l i (daysPart W dry l i)) (by rw [hfl]; exact hpn) hne with h1 | ⟨q, hq, hn, h1⟩
  · refine .inl ?_
    rw [h1]
    unfold dayFirst
    rw [if_pos h0, e, getD_set_same (by rw [hlen]; exact hpn)]
  · refine .inr ⟨q.toNat, ?_, hn, ?_⟩
    · have := hin q (List.mem_of_mem_take hq); omega
    · rw [h1, hfirst _ (hne q hq)]
      obtain ⟨j, hj, hjq⟩ := List.getElem_of_mem hq
      have hji : j < i := by simp at hj; omega
      rw [List.getElem_take] at hjq
      have e2 : l.getD j 0 = q := by rw [List.getD_eq_getElem?_getD, List.getElem?_eq_getElem (show j < l.length by omega)]; exact hjq
      have := stay j hji
      rw [e2] at this
      rw [this]

/-- Reasons, one by one: T is the day of the first one's patch. -/
structure Leads (n : Nat) (dry : Int) (D : List Int) (r : List Rsn) : Prop where
  patch : ∀ i, (h : i < r.length) → 0 ≤ r[i].1 ∧ r[i].1 < n
  step : ∀ i, (h : i + 1 < r.length) → r[i + 1].1 = r[i].2.1 ∧ ((r[i].2.2 = 2 ∧ D.getD r[i].1.toNat 0 = D.getD r[i].2.1.toNat 0 + (dry + 1)) ∨ (r[i].2.2 = 1 ∧ D.getD r[i].1.toNat 0 = D.getD r[i].2.1.toNat 0 + 1))
  end_ : ∀ i, (h : i < r.length) → i + 1 = r.length → r[i].2.2 = 0 ∧ r[i].2.1 = -1 ∧ D.getD r[i].1.toNat 0 = 0

theorem rsnL_head {D : List Int} {f k : Nat} : ∃ x t, rsnL W dry l D (f + 1) k = (l.getD k 0, x) :: t := by
  unfold rsnL
  split
  · exact ⟨_, _, rfl⟩
  · unfold whyR
    split
    · exact ⟨_, _, rfl⟩
    · exact ⟨_, _, rfl⟩

theorem rsnL_leads (hd : 0 ≤ dry) (hl : l.length = W.n) (hin : ∀ p ∈ l, 0 ≤ p ∧ p < (W.n : Int)) (hnd : l.Nodup) : ∀ (f k : Nat), k < f → k < l.length → Leads W.n dry (daysOf W dry l) (rsnL W dry l (daysOf W dry l) f k)
  | 0, k, h, _ => by omega
  | f + 1, k, hf, hk => by
    obtain ⟨p, hp, hpn, hp'⟩ := getD_nat (W := W) hin hk
    unfold rsnL
    by_cases h0 : (daysOf W dry l).getD (l.getD k 0).toNat 0 = 0
    · rw [if_pos h0]
      refine ⟨fun i h => ?_, fun i h => ?_, fun i h _ => ?_⟩
      · have : i = 0 := by simpa using h
        subst this
        simp only [List.getElem_cons_zero]
        rw [hp]; omega
      · simp at h
      · have : i = 0 := by simpa using h
        subst this
        exact ⟨rfl, rfl, h0⟩
    · rw [if_neg h0]
      obtain ⟨hpos, hm, hlt⟩ := why_back hd hl hin hnd hk h0
      have hfrom := hin _ hm
      have hidx : l.idxOf (whyR W dry l (daysOf W dry l) k).2.1 < l.length := by omega
      have hget : l.getD (l.idxOf (whyR W dry l (daysOf W dry l) k).2.1) 0 = (whyR W dry l (daysOf W dry l) k).2.1 := by
        rw [List.getD_eq_getElem?_getD, List.getElem?_eq_getElem hidx, List.getElem_idxOf]; rfl
      have ih := rsnL_leads hd hl hin hnd f (l.idxOf (whyR W dry l (daysOf W dry l) k).2.1) (by omega) hidx
      obtain ⟨f', rfl⟩ : ∃ f', f = f' + 1 := ⟨f - 1, by omega⟩
      obtain ⟨x, t, hxt⟩ := rsnL_head (W := W) (dry := dry) (l := l) (D := daysOf W dry l) (f := f') (k := l.idxOf (whyR W dry l (daysOf W dry l) k).2.1)
      rw [hget] at hxt
      have hwhy : (whyR W dry l (daysOf W dry l) k).1 = (p : Int) ∧ (((whyR W dry l (daysOf W dry l) k).2.2 = 2 ∧ (daysOf W dry l).getD p 0 = (daysOf W dry l).getD (whyR W dry l (daysOf W dry l) k).2.1.toNat 0 + (dry + 1)) ∨
          ((whyR W dry l (daysOf W dry l) k).2.2 = 1 ∧ (daysOf W dry l).getD p 0 = (daysOf W dry l).getD (whyR W dry l (daysOf W dry l) k).2.1.toNat 0 + 1)) := by
        unfold whyR
        rw [hp, Int.toNat_natCast]
        split
        · rename_i q hq
          unfold whyQ at hq
          have hq1 := List.find?_some hq
          simp only [Bool.and_eq_true, beq_iff_eq] at hq1
          refine ⟨rfl, .inl ⟨rfl, ?_⟩⟩
          simp only [Int.toNat_natCast]
          omega
        · rename_i hq
          unfold whyQ at hq
          rw [List.find?_eq_none] at hq
          refine ⟨rfl, .inr ⟨rfl, ?_⟩⟩
          rcases days_why (dry := dry) hin hnd hpos hk with h | ⟨q, hqn, hqq, hqd⟩
          · rw [hp, Int.toNat_natCast] at h
            exact h
          · rw [hp, Int.toNat_natCast] at hqq hqd
            have := hq q (List.mem_range.2 hqn)
            simp only [hqq, Bool.true_and, beq_iff_eq] at this
            omega
      generalize whyR W dry l (daysOf W dry l) k = y at *
      generalize l.idxOf y.2.1 = j at *
      generalize hr : rsnL W dry l (daysOf W dry l) (f' + 1) j = r at *
      subst hxt
      refine ⟨fun i h => ?_, fun i h => ?_, fun i h he => ?_⟩
      · cases i with
        | zero => simp only [List.getElem_cons_zero]; omega
        | succ i => exact ih.patch i (by simpa using h)
      · cases i with
        | zero => simp only [List.getElem_cons_zero, List.getElem_cons_succ, hwhy.1, Int.toNat_natCast]; exact ⟨trivial, hwhy.2⟩
        | succ i => exact ih.step i (by simpa using h)
      · cases i with
        | zero => simp at he
        | succ i => exact ih.end_ i (by simpa using h) (by simpa using he)

/-- The greatest number of a list, -1 for none. -/
def lastL (l : List Int) : Int := l.foldl max (-1)
theorem foldl_max_le : ∀ (l : List Int) (a B : Int), a ≤ B → (∀ x ∈ l, x ≤ B) → l.foldl max a ≤ B
  | [], _, _, h, _ => h
  | x :: l, a, B, h, hl => foldl_max_le l (max a x) B (Int.max_le.2 ⟨h, hl x (List.mem_cons_self ..)⟩) (fun y hy => hl y (List.mem_cons_of_mem _ hy))
theorem le_foldl_max : ∀ (l : List Int) (a : Int), a ≤ l.foldl max a ∧ ∀ x ∈ l, x ≤ l.foldl max a
  | [], a => ⟨Int.le_refl _, fun x h => by cases h⟩
  | y :: l, a => by
    obtain ⟨h1, h2⟩ := le_foldl_max l (max a y)
    refine ⟨Int.le_trans (Int.le_max_left _ _) h1, fun x hx => ?_⟩
    rcases List.mem_cons.1 hx with rfl | hx
    · exact Int.le_trans (Int.le_max_right _ _) h1
    · exact h2 x hx
theorem lastL_of {l : List Int} {T : Int} (h1 : T ∈ l) (h2 : ∀ x ∈ l, x ≤ T) (h3 : -1 ≤ T) : lastL l = T :=
  Int.le_antisymm (foldl_max_le l (-1) T h3 h2) ((le_foldl_max l (-1)).2 T h1)

/-- The last day is that of the last patch. -/
theorem last_days (hd : 0 ≤ dry ∧ dry ≤ 30) (hl : l.length = W.n) (h24 : W.n ≤ 24) (hin : ∀ p ∈ l, 0 ≤ p ∧ p < (W.n : Int)) (hnd : l.Nodup) (h0 : 0 < l.length) : lastL (daysOf W dry l) = (daysOf W dry l).getD (l.getD (l.length - 1) 0).toNat 0 := by
  obtain ⟨p, hp, hpn, hp'⟩ := getD_nat (W := W) hin (show l.length - 1 < l.length by omega)
  have hrow := daysOf_row (W := W) (dry := dry) hd (l := l) (by omega)
  have e : (l.getD (l.length - 1) 0).toNat = p := by rw [hp]; rfl
  rw [e]
  have hpd : p < (daysOf W dry l).length := by rw [hrow.1]; exact hpn
  have hg : (daysOf W dry l).getD p 0 = (daysOf W dry l)[p] := by rw [List.getD_eq_getElem?_getD, List.getElem?_eq_getElem hpd]; rfl
  refine lastL_of (by rw [hg]; exact List.getElem_mem hpd) (fun x hx => ?_) (by have := (hrow.getD (by omega) p).1; omega)
  obtain ⟨q, hq, rfl⟩ := List.getElem_of_mem hx
  have hqn : q < W.n := by rw [← hrow.1]; exact hq
  have hm := mem_full hl hin hnd hqn
  obtain ⟨j, hj, hjq⟩ := List.getElem_of_mem hm
  have ej : l.getD j 0 = (q : Int) := by rw [List.getD_eq_getElem?_getD, List.getElem?_eq_getElem hj]; exact hjq
  have hgq : (daysOf W dry l).getD q 0 = (daysOf W dry l)[q] := by rw [List.getD_eq_getElem?_getD, List.getElem?_eq_getElem hq]; rfl
  rw [← hgq]
  by_cases hjl : j = l.length - 1
  · subst hjl
    rw [hp] at ej
    have : p = q := by omega
    rw [this]; exact Int.le_refl _
  · have := days_lt (W := W) (dry := dry) hin hnd (i := j) (l.length - 1) (by omega) (by omega)
    rw [ej, e, Int.toNat_natCast] at this
    omega
end

end Go.Proofs.Yteljjkghjbofnaa
