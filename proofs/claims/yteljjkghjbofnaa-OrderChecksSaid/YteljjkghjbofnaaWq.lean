/- Nth: the model and what counts it goes by. -/
import Derived.Test.YteljjkghjbofnaaWp
set_option maxRecDepth 100000
namespace Go.Proofs.Yteljjkghjbofnaa
open Go Go.Proofs Go.RowKit

def fct : Nat → Nat
  | 0 => 1
  | n + 1 => (n + 1) * fct n
theorem fct_pos : ∀ n, 1 ≤ fct n
  | 0 => Nat.le_refl _
  | n + 1 => Nat.mul_pos (Nat.succ_pos n) (fct_pos n)
theorem fct_mono {a b : Nat} (h : a ≤ b) : fct a ≤ fct b := by
  induction h with
  | refl => exact Nat.le_refl _
  | step h ih =>
    refine Nat.le_trans ih ?_
    show fct _ ≤ (_ + 1) * fct _
    exact Nat.le_mul_of_pos_left _ (Nat.succ_pos _)

def sumC (W : Web) (d : S) (l : List Nat) : Int := (l.map fun p => cnt W (d ||| oneS p)).sum

theorem fold_sum {W : Web} {d : S} {F : Nat} : ∀ (l : List Nat) (s : Int), (∀ p ∈ l, 0 ≤ cnt W (d ||| oneS p) ∧ cnt W (d ||| oneS p) ≤ F) → 0 ≤ s → s + l.length * F < 9223372036854775808 →
    l.foldl (fun s p => wrap64 (s + cnt W (d ||| oneS p))) s = s + sumC W d l ∧ 0 ≤ sumC W d l ∧ sumC W d l ≤ l.length * F
  | [], s, _, _, _ => by simp [sumC]
  | p :: l, s, h, h0, hb => by
    have hp := h p (List.mem_cons_self ..)
    have hlen : ((p :: l).length : Int) * F = (l.length : Int) * F + F := by
      rw [List.length_cons, Int.natCast_add, Int.add_mul]
      simp
    rw [hlen] at hb ⊢
    have hnn : 0 ≤ (l.length : Int) * F := Int.mul_nonneg (Int.natCast_nonneg _) (Int.natCast_nonneg _)
    have hw : wrap64 (s + cnt W (d ||| oneS p)) = s + cnt W (d ||| oneS p) := IntWalk.wrap64_in _ (by omega)
    have := fold_sum l (s + cnt W (d ||| oneS p)) (fun q hq => h q (List.mem_cons_of_mem _ hq)) (by omega) (by omega)
    simp only [List.foldl_cons]
    rw [hw, this.1]
    have e : sumC W d (p :: l) = cnt W (d ||| oneS p) + sumC W d l := by simp [sumC]
    rw [e]
    omega

theorem readyL_rest (W : Web) (d : S) : (readyL W d).length ≤ rest W d := by
  unfold readyL rest
  have : ∀ l : List Nat, (l.filter (readyB W d)).length ≤ (l.filter fun p => !hasS d p).length := by
    intro l
    induction l with
    | nil => simp
    | cons p l ih =>
      simp only [List.filter_cons]
      split
      · rename_i h
        have : hasS d p = false := by unfold readyB at h; simp at h; exact h.1
        simp [this]; exact ih
      · split <;> (try simp only [List.length_cons]) <;> omega
  exact this _

theorem rest_le (W : Web) (d : S) : rest W d ≤ W.n := by
  unfold rest
  have := List.length_filter_le (fun p => !hasS d p) (List.range W.n)
  simpa using this

theorem cnt_bound {W : Web} (hn : W.n ≤ 12) : ∀ (f : Nat) (d : S), rest W d ≤ f → 0 ≤ cnt W d ∧ cnt W d ≤ fct (rest W d) ∧ (d ≠ wholeS W.n → cnt W d = sumC W d (readyL W d)) := by
  intro f
  induction f with
  | zero =>
    intro d h
    have h0 : readyL W d = [] := List.eq_nil_of_length_eq_zero (by have := readyL_rest W d; omega)
    rw [cnt_eq (by omega)]
    have := fct_pos (rest W d)
    split
    · rename_i e; exact ⟨by omega, by omega, fun h => absurd e h⟩
    · rw [h0]; simp [cntSum, sumC]
  | succ f ih =>
    intro d h
    rw [cnt_eq (by omega)]
    have hp := fct_pos (rest W d)
    split
    · rename_i e; exact ⟨by omega, by omega, fun h => absurd e h⟩
    · by_cases hz : rest W d = 0
      · have h0 : readyL W d = [] := List.eq_nil_of_length_eq_zero (by have := readyL_rest W d; omega)
        rw [h0]; simp [cntSum, sumC]
      · have hF : ∀ p ∈ readyL W d, 0 ≤ cnt W (d ||| oneS p) ∧ cnt W (d ||| oneS p) ≤ fct (rest W d - 1) := fun p hp => by
          have hr := rest_lt (by omega) hp
          have := ih (d ||| oneS p) (by omega)
          have hm := fct_mono (a := rest W (d ||| oneS p)) (b := rest W d - 1) (by omega)
          exact ⟨this.1, by omega⟩
        have hl := readyL_rest W d
        have hle := rest_le W d
        have e1 : fct (rest W d) = rest W d * fct (rest W d - 1) := by
          obtain ⟨r, hr⟩ : ∃ r, rest W d = r + 1 := ⟨rest W d - 1, by omega⟩
          rw [hr]; rfl
        have h12 : fct (rest W d) ≤ 479001600 := fct_mono (b := 12) (by omega)
        have hmul : (readyL W d).length * fct (rest W d - 1) ≤ rest W d * fct (rest W d - 1) := Nat.mul_le_mul_right _ hl
        have hcast : ((readyL W d).length : Int) * (fct (rest W d - 1) : Int) = (((readyL W d).length * fct (rest W d - 1) : Nat) : Int) := by simp
        have := fold_sum (W := W) (d := d) (readyL W d) 0 hF (by omega) (by rw [hcast]; omega)
        unfold cntSum
        rw [this.1]
        rw [hcast] at this
        refine ⟨by omega, by omega, fun _ => by omega⟩

/-- The first of the patches ps that k's order goes on with, and what is left of k. -/
def nthScan (W : Web) (d : S) : List Nat → Int → Option Nat × Int
  | [], k => (none, k)
  | p :: ps, k => if k < cnt W (d ||| oneS p) then (some p, k) else nthScan W d ps (k - cnt W (d ||| oneS p))

theorem nthScan_some {W : Web} {d : S} : ∀ (ps : List Nat) (k : Int), 0 ≤ k → k < sumC W d ps → ∃ p k', nthScan W d ps k = (some p, k') ∧ p ∈ ps ∧ 0 ≤ k' ∧ k' < cnt W (d ||| oneS p)
  | [], k, h0, h => by simp [sumC] at h; omega
  | p :: ps, k, h0, h => by
    have e : sumC W d (p :: ps) = cnt W (d ||| oneS p) + sumC W d ps := by simp [sumC]
    rw [e] at h
    unfold nthScan
    by_cases hk : k < cnt W (d ||| oneS p)
    · rw [if_pos hk]; exact ⟨p, k, rfl, List.mem_cons_self .., h0, hk⟩
    · rw [if_neg hk]
      obtain ⟨q, k', h1, h2, h3, h4⟩ := nthScan_some (W := W) (d := d) ps (k - cnt W (d ||| oneS p)) (by omega) (by omega)
      exact ⟨q, k', h1, List.mem_cons_of_mem _ h2, h3, h4⟩

def nthStep (W : Web) (s : List Int × Int) : List Int × Int :=
  match nthScan W (setS s.1) (readyL W (setS s.1)) s.2 with
  | (some p, k) => (s.1 ++ [(p : Int)], k)
  | (none, k) => (s.1, k)
def nthSt (W : Web) (k : Int) : Nat → List Int × Int
  | 0 => ([], k)
  | j + 1 => nthStep W (nthSt W k j)
def nthOf (W : Web) (k : Int) : List Int := (nthSt W k W.n).1
def NthR (o : Prob) (k : Int) : List Int × Int :=
  if errC o = 0 then (if k < 0 ∨ cnt (webOf o) 0#32 ≤ k then ([], 1) else (nthOf (webOf o) k, 0)) else ([], errC o)

theorem hasS_whole {n p : Nat} (hn : n < 32) : hasS (wholeS n) p = decide (p < n) := by
  have h1 : (wholeS n).toNat = 2 ^ n - 1 := by
    have h2 : 0 < 2 ^ n := Nat.two_pow_pos n
    have h3 : 2 ^ n < 2 ^ 32 := Nat.pow_lt_pow_right (by decide) hn
    have h4 : (oneS n).toNat = 2 ^ n := by
      unfold oneS
      simp
      omega
    unfold wholeS
    rw [BitVec.toNat_sub, h4]
    simp
    omega
  unfold hasS
  rw [BitVec.getLsbD, h1, Nat.testBit_two_pow_sub_one]

/-- Fewer patches than there are make no whole. -/
theorem setS_not_whole {W : Web} (hn : W.n ≤ 24) {l : List Int} (hin : ∀ p ∈ l, 0 ≤ p ∧ p < (W.n : Int)) (hl : l.length < W.n) : setS l ≠ wholeS W.n := by
  intro e
  have hsub : (List.range W.n).map (fun p : Nat => (p : Int)) ⊆ l := by
    intro x hx
    obtain ⟨p, hp, rfl⟩ := List.mem_map.1 hx
    have hp' := List.mem_range.1 hp
    have h1 : hasS (wholeS W.n) p = true := by rw [hasS_whole (by omega)]; simpa using hp'
    rw [← e, hasS_setS l (fun p hp => by have := hin p hp; omega)] at h1
    simpa using h1
  have := List.Nodup.length_le_of_subset (by
    rw [List.nodup_iff_pairwise_ne, List.pairwise_map]
    exact List.Pairwise.imp (fun h => by omega) List.nodup_range) hsub
  simp at this
  omega

end Go.Proofs.Yteljjkghjbofnaa
