/- Plain law: the chains of a web; where there is no circle, some patch may come next. -/
import Derived.Test.YteljjkghjbofnaaWi
set_option maxRecDepth 100000
namespace Go.Proofs.Yteljjkghjbofnaa
open Go Go.Proofs Go.RowKit

/-! ### Warshall's table -/

theorem stepR_same (c : Nat) (f : Nat → S) (a : Nat) : stepR c f a c = f c := by
  unfold stepR upd
  by_cases h : hasS (f a) c = true
  · rw [if_pos h]
    by_cases e : c = a
    · subst e; simp
    · simp [e]
  · rw [if_neg h]
theorem stepR_val (c : Nat) (f : Nat → S) (a x : Nat) : stepR c f a x = if x = a ∧ hasS (f x) c = true then f x ||| f c else f x := by
  unfold stepR upd
  by_cases h : hasS (f a) c = true
  · rw [if_pos h]
    by_cases e : x = a
    · subst e; simp [h]
    · simp [e]
  · rw [if_neg h]
    by_cases e : x = a
    · subst e; simp [h]
    · simp [e]
theorem partR_same (c : Nat) (f : Nat → S) (k : Nat) : partR c f k c = f c := by
  induction k with
  | zero => rfl
  | succ k ih => rw [partR_succ, stepR_same, ih]
theorem partR_val (c : Nat) (f : Nat → S) (k x : Nat) : partR c f k x = if x < k ∧ hasS (f x) c = true then f x ||| f c else f x := by
  induction k with
  | zero => simp [partR]
  | succ k ih =>
    rw [partR_succ, stepR_val, partR_same]
    by_cases e : x = k
    · subst e
      rw [ih]
      simp
    · rw [if_neg (fun h => e h.1), ih]
      have : x < k + 1 ↔ x < k := by omega
      simp only [this]
theorem partS_step (n : Nat) (f : Nat → S) (c a b : Nat) (ha : a < n) : hasS (partS n f (c + 1) a) b = (hasS (partS n f c a) b || (hasS (partS n f c a) c && hasS (partS n f c c) b)) := by
  rw [partS_succ, partR_val]
  by_cases h : hasS (partS n f c a) c = true
  · rw [if_pos ⟨ha, h⟩, hasS_or, h]; simp
  · rw [if_neg (fun x => h x.2)]
    simp at h
    rw [h]; simp

/-- A chain of arcs leads from a to b. -/
inductive Path (to : Nat → S) (n : Nat) : Nat → Nat → Prop
  | arc {a b : Nat} (h : hasS (to a) b = true) : Path to n a b
  | cons {a m b : Nat} (h : hasS (to a) m = true) (hm : m < n) (h2 : Path to n m b) : Path to n a b
theorem Path.trans {to : Nat → S} {n a m b : Nat} (h : Path to n a m) (hm : m < n) (h2 : Path to n m b) : Path to n a b := by
  induction h with
  | arc h => exact .cons h hm h2
  | cons h hm' _ ih => exact .cons h hm' (ih hm h2)

theorem partS_path (n : Nat) (f : Nat → S) : ∀ (c : Nat), c ≤ n → ∀ a b, a < n → hasS (partS n f c a) b = true → Path f n a b
  | 0, _, a, b, _, h => .arc h
  | c + 1, hc, a, b, ha, h => by
    rw [partS_step n f c a b ha] at h
    simp only [Bool.or_eq_true, Bool.and_eq_true] at h
    rcases h with h | ⟨h1, h2⟩
    · exact partS_path n f c (by omega) a b ha h
    · exact (partS_path n f c (by omega) a c ha h1).trans (by omega) (partS_path n f c (by omega) c b (by omega) h2)
theorem partS_mono (n : Nat) (f : Nat → S) (a b : Nat) (ha : a < n) : ∀ (c : Nat), hasS (f a) b = true → hasS (partS n f c a) b = true
  | 0, h => h
  | c + 1, h => by rw [partS_step n f c a b ha, partS_mono n f a b ha c h]; rfl
theorem partS_trans (n : Nat) (f : Nat → S) : ∀ (c : Nat), c ≤ n → ∀ a m b, a < n → m < c → hasS (partS n f c a) m = true → hasS (partS n f c m) b = true → hasS (partS n f c a) b = true
  | 0, _, a, m, b, _, hm, _, _ => by omega
  | c + 1, hc, a, m, b, ha, hm, h1, h2 => by
    have T := partS_trans n f c (by omega)
    rw [partS_step n f c _ _ ha] at h1 ⊢
    rw [partS_step n f c _ _ (by omega)] at h2
    simp only [Bool.or_eq_true, Bool.and_eq_true] at h1 h2 ⊢
    by_cases e : m = c
    · subst e
      have h1' : hasS (partS n f m a) m = true := by rcases h1 with h | h; exact h; exact h.1
      have h2' : hasS (partS n f m m) b = true := by rcases h2 with h | h; exact h; exact h.2
      exact .inr ⟨h1', h2'⟩
    · have hm' : m < c := by omega
      rcases h1 with h1 | h1 <;> rcases h2 with h2 | h2
      · exact .inl (T a m b ha hm' h1 h2)
      · exact .inr ⟨T a m c ha hm' h1 h2.1, h2.2⟩
      · exact .inr ⟨h1.1, T c m b (by omega) hm' h1.2 h2⟩
      · exact .inr ⟨h1.1, h2.2⟩

/-- The web has the chains of its arcs. -/
structure Woven (W : Web) : Prop where
  arc : ∀ a b, a < W.n → hasS (W.to a) b = true → hasS (W.reach a) b = true
  trans : ∀ a m b, a < W.n → m < W.n → hasS (W.reach a) m = true → hasS (W.reach m) b = true → hasS (W.reach a) b = true
  path : ∀ a b, a < W.n → hasS (W.reach a) b = true → Path W.to W.n a b
theorem woven_of (o : Prob) : Woven (webOf o) :=
  ⟨fun a b ha h => partS_mono _ _ a b ha _ h, fun a m b ha hm h1 h2 => partS_trans _ _ _ (Nat.le_refl _) a m b ha hm h1 h2, fun a b ha h => partS_path _ _ _ (Nat.le_refl _) a b ha h⟩
theorem Woven.iff {W : Web} (h : Woven W) (a b : Nat) (ha : a < W.n) : hasS (W.reach a) b = true ↔ Path W.to W.n a b := by
  refine ⟨h.path a b ha, fun p => ?_⟩
  induction p with
  | arc h1 => exact h.arc _ _ ha h1
  | cons h1 hm _ ih => exact h.trans _ _ _ ha hm (h.arc _ _ ha h1) (ih hm)

theorem circB_false {W : Web} (h : circB W = false) (a : Nat) (ha : a < W.n) : hasS (W.reach a) a = false := by
  unfold circB at h
  rw [List.any_eq_false] at h
  simpa using h a (List.mem_range.2 ha)

/-! ### Something may come next -/

theorem filter_len_lt {α : Type} {p q : α → Bool} {l : List α} (h : ∀ x ∈ l, p x = true → q x = true) {y : α} (hy : y ∈ l) (hp : p y = false) (hq : q y = true) : (l.filter p).length < (l.filter q).length := by
  have hle : ∀ l : List α, (∀ x ∈ l, p x = true → q x = true) → (l.filter p).length ≤ (l.filter q).length := by
    intro l
    induction l with
    | nil => intro _; simp
    | cons z l ih =>
      intro h
      have := ih (fun u hu => h u (List.mem_cons_of_mem _ hu))
      have h1 := h z (List.mem_cons_self ..)
      simp only [List.filter_cons]
      split <;> split <;> simp_all <;> omega
  induction l with
  | nil => cases hy
  | cons x l ih =>
    have h' := fun u hu => h u (List.mem_cons_of_mem _ hu)
    have h1 := h x (List.mem_cons_self ..)
    rcases List.mem_cons.1 hy with rfl | hy
    · have := hle l h'
      simp [hp, hq]; omega
    · have := ih h' hy
      simp only [List.filter_cons]
      split <;> split <;> simp_all <;> omega

/-- Some patch that is not done has to wait for no other one that is not done. -/
theorem first_of {W : Web} (hw : Woven W) (hc : circB W = false) (u : Nat → Bool) : ∀ (k p : Nat), p < W.n → u p = true → ((List.range W.n).filter fun a => u a && hasS (W.reach a) p).length ≤ k →
    ∃ q, q < W.n ∧ u q = true ∧ ∀ a, a < W.n → u a = true → hasS (W.reach a) q = false := by
  intro k
  induction k with
  | zero =>
    intro p hp hu hk
    refine ⟨p, hp, hu, fun a ha hua => ?_⟩
    have h0 := List.eq_nil_of_length_eq_zero (Nat.le_zero.1 hk)
    rw [List.filter_eq_nil_iff] at h0
    have := h0 a (List.mem_range.2 ha)
    simpa [hua] using this
  | succ k ih =>
    intro p hp hu hk
    by_cases h : ∀ a, a < W.n → u a = true → hasS (W.reach a) p = false
    · exact ⟨p, hp, hu, h⟩
    · obtain ⟨a, ha, hua, hr⟩ : ∃ a, a < W.n ∧ u a = true ∧ hasS (W.reach a) p = true := by
        refine Classical.byContradiction fun hn => h fun a ha hua => ?_
        cases hh : hasS (W.reach a) p
        · rfl
        · exact absurd ⟨a, ha, hua, hh⟩ hn
      refine ih a ha hua (Nat.le_of_lt_succ (Nat.lt_of_lt_of_le (filter_len_lt (y := a) (fun x hx hxx => ?_) (List.mem_range.2 ha) ?_ ?_) hk))
      · simp only [Bool.and_eq_true] at hxx ⊢
        exact ⟨hxx.1, hw.trans x a p (List.mem_range.1 hx) ha hxx.2 hr⟩
      · simp [circB_false hc a ha]
      · simp [hua, hr]

theorem goes_of {W : Web} (hn : W.n ≤ 24) (hw : Woven W) (hc : circB W = false) : Goes W := by
  intro l hin hnd hlt h0
  obtain ⟨p, hp, hpl⟩ : ∃ p, p < W.n ∧ ((p : Nat) : Int) ∉ l := by
    refine Classical.byContradiction fun hn' => ?_
    have h2 : ((List.range W.n).map (fun p : Nat => (p : Int))) ⊆ l := by
      intro x hx
      obtain ⟨q, hq, rfl⟩ := List.mem_map.1 hx
      refine Classical.byContradiction fun h => hn' ⟨q, List.mem_range.1 hq, h⟩
    have h3 : ((List.range W.n).map (fun p : Nat => (p : Int))).Nodup := by
      unfold List.Nodup
      rw [List.pairwise_map]
      exact List.nodup_range.imp fun h e => h (by omega)
    have := List.Nodup.length_le_of_subset h3 h2
    simp at this
    omega
  have hs := hasS_setS l (fun q hq => by have := hin q hq; omega)
  obtain ⟨q, hq, huq, hall⟩ := first_of hw hc (fun a => !hasS (setS l) a) _ p hp (by rw [hs]; simpa using hpl) (Nat.le_refl _)
  have : q ∈ readyL W (setS l) := by
    rw [mem_readyL]
    refine ⟨hq, ?_⟩
    unfold readyB
    simp only [Bool.and_eq_true, List.all_eq_true, List.mem_range]
    refine ⟨huq, fun a ha => ?_⟩
    cases hd : hasS (setS l) a
    · have := hall a ha (by simp [hd])
      cases ht : hasS (W.to a) q
      · rfl
      · rw [hw.arc a q ha ht] at this; cases this
    · simp
  rw [h0] at this
  cases this
theorem goes_webOf {o : Prob} (h : errS o = 0) : Goes (webOf o) := by
  obtain ⟨h1, h2⟩ := errS_ok h
  exact goes_of (webOf_n h1) (woven_of o) h2

end Go.Proofs.Yteljjkghjbofnaa
