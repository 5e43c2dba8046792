/- Plain law: the days of an order. -/
import Derived.Test.YteljjkghjbofnaaWi
set_option maxRecDepth 100000
namespace Go.Proofs.Yteljjkghjbofnaa
open Go Go.Proofs Go.RowKit

theorem getD_set_same {l : List Int} {p : Nat} (h : p < l.length) (x d : Int) : (l.set p x).getD p d = x := by
  rw [List.getD_eq_getElem?_getD, List.getElem?_set_self h]; rfl
theorem getD_set_other {l : List Int} {p q : Nat} (h : p ≠ q) (x d : Int) : (l.set p x).getD q d = l.getD q d := by
  rw [List.getD_eq_getElem?_getD, List.getD_eq_getElem?_getD, List.getElem?_set_ne h]

theorem dayNear_other {W : Web} {dry : Int} {p x : Nat} {out : List Int} {q : Int} (h : p ≠ x) : (dayNear W dry p out q).getD x 0 = out.getD x 0 := by
  unfold dayNear; split
  · exact getD_set_other h _ _
  · rfl
theorem dayNear_ge {W : Web} {dry : Int} {p : Nat} {out : List Int} {q : Int} (hp : p < out.length) : out.getD p 0 ≤ (dayNear W dry p out q).getD p 0 := by
  unfold dayNear; split
  · rw [getD_set_same hp]; exact Int.le_max_left _ _
  · exact Int.le_refl _
theorem near_fold {W : Web} {dry : Int} {p : Nat} : ∀ (qs : List Int) (out : List Int), p < out.length →
    (∀ x, p ≠ x → (qs.foldl (dayNear W dry p) out).getD x 0 = out.getD x 0) ∧ out.getD p 0 ≤ (qs.foldl (dayNear W dry p) out).getD p 0 ∧ (qs.foldl (dayNear W dry p) out).length = out.length
  | [], out, _ => ⟨fun _ _ => rfl, Int.le_refl _, rfl⟩
  | q :: qs, out, h => by
    have hl := dayNear_length W dry p out q
    obtain ⟨h1, h2, h3⟩ := near_fold (W := W) (dry := dry) (p := p) qs (dayNear W dry p out q) (by rw [hl]; exact h)
    exact ⟨fun x hx => (h1 x hx).trans (dayNear_other hx), Int.le_trans (dayNear_ge h) h2, h3.trans hl⟩

section
variable {W : Web} {dry : Int} {l : List Int}
theorem getD_nat (hin : ∀ p ∈ l, 0 ≤ p ∧ p < (W.n : Int)) {i : Nat} (hi : i < l.length) : ∃ p : Nat, l.getD i 0 = (p : Int) ∧ p < W.n ∧ l[i] = (p : Int) := by
  have h := hin l[i] (List.getElem_mem hi)
  refine ⟨l[i].toNat, ?_, by omega, by omega⟩
  rw [List.getD_eq_getElem?_getD, List.getElem?_eq_getElem hi]
  show l[i] = _
  omega
theorem dayStep_facts {i : Nat} {out : List Int} (hout : out.length = W.n) {p : Nat} (hp : l.getD i 0 = (p : Int)) (hpn : p < W.n) :
    (∀ x, p ≠ x → (dayStep W dry l out i).getD x 0 = out.getD x 0) ∧
    (0 < i → out.getD (l.getD (i - 1) 0).toNat 0 + 1 ≤ (dayStep W dry l out i).getD p 0) ∧ (i = 0 → dayStep W dry l out i = out) := by
  have hfl : (dayFirst l i out).length = out.length := by unfold dayFirst; split <;> simp
  have e : (l.getD i 0).toNat = p := by rw [hp]; rfl
  obtain ⟨h1, h2, h3⟩ := near_fold (W := W) (dry := dry) (p := p) (l.take i) (dayFirst l i out) (by rw [hfl, hout]; exact hpn)
  unfold dayStep
  rw [e]
  refine ⟨fun x hx => ?_, fun h0 => ?_, fun h0 => ?_⟩
  · rw [h1 x hx]
    unfold dayFirst
    split
    · rw [e]; exact getD_set_other hx _ _
    · rfl
  · refine Int.le_trans ?_ h2
    unfold dayFirst
    rw [if_pos h0, e, getD_set_same (by rw [hout]; exact hpn)]
    exact Int.le_refl _
  · subst h0
    simp [dayFirst]

/-- The days of what is placed stand. -/
theorem daysPart_stays (hin : ∀ p ∈ l, 0 ≤ p ∧ p < (W.n : Int)) (hnd : l.Nodup) {i : Nat} (hi : i < l.length) : ∀ (k : Nat), i < k → k ≤ l.length →
    (daysPart W dry l k).getD (l.getD i 0).toNat 0 = (daysPart W dry l (i + 1)).getD (l.getD i 0).toNat 0 := by
  intro k
  induction k with
  | zero => intro h; omega
  | succ k ih =>
    intro h1 h2
    by_cases e : k = i
    · subst e; rfl
    · rw [daysPart_succ]
      obtain ⟨p, hp, hpn, hp'⟩ := getD_nat (W := W) hin (show k < l.length by omega)
      obtain ⟨q, hq, hqn, hq'⟩ := getD_nat (W := W) hin hi
      have hne : p ≠ q := by
        rintro rfl
        have := (List.getElem_inj hnd).1 (hp'.trans hq'.symm)
        exact e this
      rw [hq]
      rw [(dayStep_facts (dry := dry) (daysPart_length W dry l k) hp hpn).1 _ (by simpa using hne), ← hq]
      exact ih (by omega) (by omega)
theorem days_zero (hin : ∀ p ∈ l, 0 ≤ p ∧ p < (W.n : Int)) (hnd : l.Nodup) (h : 0 < l.length) : (daysOf W dry l).getD (l.getD 0 0).toNat 0 = 0 := by
  unfold daysOf
  rw [daysPart_stays hin hnd h l.length h (Nat.le_refl _), daysPart_succ]
  obtain ⟨p, hp, hpn, _⟩ := getD_nat (W := W) hin h
  rw [(dayStep_facts (dry := dry) (daysPart_length W dry l 0) hp hpn).2.2 rfl]
  unfold daysPart
  rw [List.range_zero, List.foldl_nil, List.getD_eq_getElem?_getD, List.getElem?_replicate]
  split <;> rfl
theorem days_succ (hin : ∀ p ∈ l, 0 ≤ p ∧ p < (W.n : Int)) (hnd : l.Nodup) {i : Nat} (h0 : 0 < i) (h : i < l.length) :
    (daysOf W dry l).getD (l.getD (i - 1) 0).toNat 0 + 1 ≤ (daysOf W dry l).getD (l.getD i 0).toNat 0 := by
  unfold daysOf
  rw [daysPart_stays hin hnd h l.length h (Nat.le_refl _), daysPart_stays hin hnd (show i - 1 < l.length by omega) l.length (by omega) (Nat.le_refl _), daysPart_succ W dry l i]
  obtain ⟨p, hp, hpn, _⟩ := getD_nat (W := W) hin h
  have := (dayStep_facts (dry := dry) (daysPart_length W dry l i) hp hpn).2.1 h0
  rw [daysPart_stays hin hnd (show i - 1 < l.length by omega) i (by omega) (by omega)] at this
  rw [show (l.getD i 0).toNat = p by rw [hp]; rfl]
  exact this
theorem days_lt (hin : ∀ p ∈ l, 0 ≤ p ∧ p < (W.n : Int)) (hnd : l.Nodup) {i : Nat} : ∀ (j : Nat), i < j → j < l.length → (daysOf W dry l).getD (l.getD i 0).toNat 0 < (daysOf W dry l).getD (l.getD j 0).toNat 0 := by
  intro j
  induction j with
  | zero => intro h; omega
  | succ j ih =>
    intro h1 h2
    have h3 := days_succ (W := W) (dry := dry) hin hnd (show 0 < j + 1 by omega) h2
    rw [Nat.add_sub_cancel] at h3
    by_cases e : i = j
    · subst e; omega
    · have := ih (by omega) (by omega)
      omega
end

end Go.Proofs.Yteljjkghjbofnaa
