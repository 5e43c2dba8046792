/- Further facts on order problems (drawn out of the texts of seat Yteljjkghjbofnaa): nearness is mutual. -/
import Derived.Test.YtgmodcipbklejaaBk
set_option maxRecDepth 100000
namespace Go.Proofs.Ytgmodcipbklejaa
open Go Go.Proofs Go.RowKit
theorem datErr_ok {o : Prob} {dry : Int} {l : List Int} (h : datErr o dry l = 0) : chk o = 0 ∧ (0 ≤ dry ∧ dry ≤ 30) ∧ orderedB (webOf o) l = true := by
  unfold datErr at h
  split at h
  · rename_i h1
    split at h
    · rename_i h2; exact ⟨h1, h2⟩
    · cases h
  · rename_i h1; exact absurd h h1
def nearR (o : Prob) (a b : Int) : Bool := decide ((min a b, max a b) ∈ o.near)
theorem near_step (f : Nat → S) {p q : Nat} (hp : p < 32) (hq : q < 32) (a b : Nat) : hasS (upd (upd f p (f p ||| oneS q)) q (upd f p (f p ||| oneS q) q ||| oneS p) a) b = true ↔ hasS (f a) b = true ∨ (p = a ∧ q = b) ∨ (p = b ∧ q = a) := by
  unfold upd
  by_cases h1 : a = q
  · subst h1
    rw [if_pos rfl, hasS_or, hasS_one _ _ hp]
    by_cases h2 : a = p
    · subst h2
      rw [if_pos rfl, hasS_or, hasS_one _ _ hp]
      cases hasS (f _) b <;> simp <;> omega
    · rw [if_neg h2]
      cases hasS (f _) b <;> simp <;> omega
  · rw [if_neg h1]
    by_cases h2 : a = p
    · subst h2
      rw [if_pos rfl, hasS_or, hasS_one _ _ hq]
      cases hasS (f _) b <;> simp <;> omega
    · rw [if_neg h2]
      cases hasS (f _) b <;> simp <;> omega
theorem nearS_has : ∀ (l : List (Int × Int)) (f : Nat → S), (∀ x ∈ l, 0 ≤ x.1 ∧ x.1 < 32 ∧ 0 ≤ x.2 ∧ x.2 < 32) → ∀ a b, hasS (l.foldl (fun f x => stepBack (stepTo f x) x) f a) b = true ↔ hasS (f a) b = true ∨ ∃ x ∈ l, (x.1.toNat = a ∧ x.2.toNat = b) ∨ (x.1.toNat = b ∧ x.2.toNat = a)
  | [], f, _, a, b => by simp
  | x :: l, f, h, a, b => by
    have hx := h x (List.mem_cons_self ..)
    rw [List.foldl_cons, nearS_has l _ (fun y hy => h y (List.mem_cons_of_mem _ hy)) a b]
    have e : hasS (stepBack (stepTo f x) x a) b = true ↔ hasS (f a) b = true ∨ (x.1.toNat = a ∧ x.2.toNat = b) ∨ (x.1.toNat = b ∧ x.2.toNat = a) := near_step f (by omega) (by omega) a b
    rw [e]
    simp only [List.mem_cons, exists_eq_or_imp, or_assoc]
theorem nearR_eq {o : Prob} (hc : chk o = 0) (a b : Nat) : nearR o a b = hasS ((webOf o).near b) a := by
  have hp := (pair_of_chk hc).2.2.2
  have h24 := (pair_of_chk hc).2.1
  rw [Bool.eq_iff_iff]
  show _ ↔ hasS (nearS o.near b) a = true
  unfold nearS
  rw [nearS_has o.near _ (fun x hx => by have := hp x hx; omega)]
  unfold nearR
  simp only [decide_eq_true_eq, hasS_zero, Bool.false_eq_true, false_or]
  constructor
  · intro h
    refine ⟨_, h, ?_⟩
    simp
    omega
  · rintro ⟨x, hx, h⟩
    have := hp x hx
    have e : x = (min (a : Int) b, max (a : Int) b) := Prod.ext (by simp; omega) (by simp; omega)
    rw [← e]; exact hx
theorem near_sym {o : Prob} (hc : chk o = 0) (a b : Nat) (h : hasS ((webOf o).near a) b = true) : hasS ((webOf o).near b) a = true := by
  rw [← nearR_eq hc] at h ⊢
  unfold nearR at *
  rw [Int.min_comm, Int.max_comm]
  exact h
end Go.Proofs.Ytgmodcipbklejaa
