/- Plain law: how many arcs lead back to a patch. -/
import Derived.Test.YteljjkghjbofnaaPb
import Derived.Test.YteljjkghjbofnaaWl
set_option maxRecDepth 100000
namespace Go.Proofs.Yteljjkghjbofnaa
open Go Go.Proofs Go.RowKit

/-! ### Walks back to a -/

/-- m arcs lead from p to a, by patches above a. -/
inductive WalkTo (W : Web) (a : Nat) : Nat → Nat → Prop
  | one {p : Nat} (h : hasS (W.to p) a = true) : WalkTo W a 1 p
  | step {p q m : Nat} (h : hasS (W.to p) q = true) (h1 : a < q) (h2 : q < W.n) (h3 : WalkTo W a m q) : WalkTo W a (m + 1) p
theorem WalkTo.pos {W : Web} {a m p : Nat} (h : WalkTo W a m p) : 0 < m := by cases h <;> omega

section
variable {W : Web} {a : Nat}

/-- What p gets in a layer. -/
def gets (W : Web) (now : S) (left : List Int) (p : Nat) : Prop := ¬ (W.to p &&& now = 0#32) ∧ left.getD p 0 = 0
instance (W : Web) (now : S) (left : List Int) (p : Nat) : Decidable (gets W now left p) := by unfold gets; infer_instance

theorem getD_set_same' {l : List Int} {p : Nat} (h : p < l.length) (x d : Int) : (l.set p x).getD p d = x := by
  rw [List.getD_eq_getElem?_getD, List.getElem?_set_self h]; rfl
theorem getD_set_other' {l : List Int} {p q : Nat} (h : p ≠ q) (x d : Int) : (l.set p x).getD q d = l.getD q d := by
  rw [List.getD_eq_getElem?_getD, List.getD_eq_getElem?_getD, List.getElem?_set_ne h]

theorem layerPart_val {now : S} {m : Int} {left : List Int} (hl : left.length = 24) : ∀ (j : Nat), a + j ≤ 24 →
    (layerPart W now m a left j).1.length = 24 ∧
    (∀ p, (layerPart W now m a left j).1.getD p 0 = if (a ≤ p ∧ p < a + j) ∧ gets W now left p then m else left.getD p 0) ∧
    (∀ p, hasS (layerPart W now m a left j).2 p = decide ((a ≤ p ∧ p < a + j) ∧ gets W now left p))
  | 0, _ => by
    refine ⟨by simpa [layerPart] using hl, fun p => ?_, fun p => ?_⟩
    · rw [if_neg (by omega)]; simp [layerPart]
    · rw [decide_eq_false (fun h => by omega)]
      simp [layerPart]
  | j + 1, h => by
    obtain ⟨h1, h2, h3⟩ := layerPart_val (now := now) (m := m) hl j (by omega)
    have e : layerPart W now m a left (j + 1) = layerStep W now m (layerPart W now m a left j) (a + j) := by
      unfold layerPart; rw [List.range'_concat, List.foldl_append]; simp
    rw [e]
    have hold : (layerPart W now m a left j).1.getD (a + j) 0 = left.getD (a + j) 0 := by rw [h2, if_neg (by omega)]
    have e2 : layerStep W now m (layerPart W now m a left j) (a + j) = if gets W now left (a + j) then ((layerPart W now m a left j).1.set (a + j) m, (layerPart W now m a left j).2 ||| oneS (a + j)) else layerPart W now m a left j := by
      unfold layerStep gets
      rw [hold]
    rw [e2]
    by_cases hg : gets W now left (a + j)
    · rw [if_pos hg]
      refine ⟨by simpa using h1, fun p => ?_, fun p => ?_⟩
      · by_cases e : p = a + j
        · subst e
          rw [getD_set_same' (by omega), if_pos ⟨by omega, hg⟩]
        · rw [getD_set_other' (Ne.symm e), h2]
          have : (a ≤ p ∧ p < a + j) ↔ (a ≤ p ∧ p < a + (j + 1)) := by omega
          simp only [this]
      · rw [hasS_or, h3, hasS_one _ _ (by omega)]
        by_cases e : p = a + j
        · subst e; simp [hg]
        · have : (a ≤ p ∧ p < a + j) ↔ (a ≤ p ∧ p < a + (j + 1)) := by omega
          simp [this, e]
    · rw [if_neg hg]
      refine ⟨h1, fun p => ?_, fun p => ?_⟩
      · rw [h2]
        by_cases e : p = a + j
        · subst e; simp [hg]
        · have : (a ≤ p ∧ p < a + j) ↔ (a ≤ p ∧ p < a + (j + 1)) := by omega
          simp only [this]
      · rw [h3]
        by_cases e : p = a + j
        · subst e; simp [hg]
        · have : (a ≤ p ∧ p < a + j) ↔ (a ≤ p ∧ p < a + (j + 1)) := by omega
          simp [this]

theorem layer_val (hn : W.n ≤ 24) (ha : a ≤ W.n) {now : S} {m : Int} {left : List Int} (hl : left.length = 24) :
    (layer W a now m left).1.length = 24 ∧
    (∀ p, (layer W a now m left).1.getD p 0 = if (a ≤ p ∧ p < W.n) ∧ gets W now left p then m else left.getD p 0) ∧
    (∀ p, hasS (layer W a now m left).2 p = decide ((a ≤ p ∧ p < W.n) ∧ gets W now left p)) := by
  have h := layerPart_val (W := W) (a := a) (now := now) (m := m) hl (W.n - a) (by omega)
  rw [show a + (W.n - a) = W.n by omega] at h
  exact h

theorem inter_some {s t : S} (h : ¬ (s &&& t = 0#32)) : ∃ q, hasS s q = true ∧ hasS t q = true := by
  refine Classical.byContradiction fun hn => h (hasS_ext fun x _ => ?_)
  rw [hasS_and, hasS_zero]
  cases h1 : hasS s x
  · rfl
  · cases h2 : hasS t x
    · rfl
    · exact absurd ⟨x, h1, h2⟩ hn
theorem inter_of {s t : S} {q : Nat} (h1 : hasS s q = true) (h2 : hasS t q = true) : ¬ (s &&& t = 0#32) := fun h => by
  have : hasS (s &&& t) q = true := by rw [hasS_and, h1, h2]; rfl
  rw [h, hasS_zero] at this
  cases this

/-- What is known after m layers. -/
structure Back (W : Web) (a : Nat) (left : List Int) : Prop where
  len : left.length = 24
  back : ∀ p, left.getD p 0 ≠ 0 → a ≤ p ∧ p < W.n ∧ ∃ j : Nat, left.getD p 0 = ((j + 1 : Nat) : Int) ∧ ((j = 0 ∧ hasS (W.to p) a = true) ∨ (0 < j ∧ ∃ q, hasS (W.to p) q = true ∧ a < q ∧ q < W.n ∧ left.getD q 0 = (j : Int)))
structure Lay (W : Web) (a m : Nat) (left : List Int) (now : S) : Prop extends Back W a left where
  le : ∀ p, left.getD p 0 ≤ (m : Int)
  now0 : m = 0 → now = oneS a
  now1 : 0 < m → ∀ p, hasS now p = true → left.getD p 0 = (m : Int)
  now2 : 0 < m → ∀ p, left.getD p 0 = (m : Int) → hasS now p = true
  comp : ∀ j, j ≤ m → ∀ p, a ≤ p → p < W.n → WalkTo W a j p → left.getD p 0 ≠ 0 ∧ left.getD p 0 ≤ (j : Int)

theorem Back.walk {left : List Int} (h : Back W a left) : ∀ (j p : Nat), left.getD p 0 = ((j + 1 : Nat) : Int) → WalkTo W a (j + 1) p
  | j, p, hp => by
    obtain ⟨_, _, i, hi, h1⟩ := h.back p (by omega)
    have e : i = j := by omega
    subst e
    rcases h1 with ⟨rfl, h1⟩ | ⟨h0, q, h1, h2, h3, h4⟩
    · exact .one h1
    · obtain ⟨i', rfl⟩ : ∃ i', i = i' + 1 := ⟨i - 1, by omega⟩
      exact .step h1 h2 h3 (h.walk i' q h4)

/-- One layer more, where a has not been found. -/
theorem Lay.next (hn : W.n ≤ 24) (ha : a < W.n) {m : Nat} {left : List Int} {now : S} (h : Lay W a m left now) (h0 : left.getD a 0 = 0) :
    Lay W a (m + 1) (layer W a now ((m + 1 : Nat) : Int) left).1 (layer W a now ((m + 1 : Nat) : Int) left).2 := by
  obtain ⟨h1, h2, h3⟩ := layer_val hn (Nat.le_of_lt ha) (W := W) (now := now) (m := ((m + 1 : Nat) : Int)) h.len
  generalize layer W a now ((m + 1 : Nat) : Int) left = r at *
  have hold : ∀ p, left.getD p 0 ≠ 0 → r.1.getD p 0 = left.getD p 0 := fun p hp => by rw [h2, if_neg (fun x => hp x.2.2)]
  refine { len := h1, back := fun p hp => ?_, le := fun p => ?_, now0 := fun h => by omega, now1 := fun _ p hp => ?_, now2 := fun _ p hp => ?_, comp := fun j hj p hap hpn hw => ?_ }
  · by_cases hc : (a ≤ p ∧ p < W.n) ∧ gets W now left p
    · refine ⟨hc.1.1, hc.1.2, m, by rw [h2, if_pos hc], ?_⟩
      obtain ⟨q, hq1, hq2⟩ := inter_some hc.2.1
      by_cases hm : m = 0
      · rw [h.now0 hm, hasS_one a q (by omega)] at hq2
        have : q = a := by simpa using hq2
        subst this
        exact .inl ⟨hm, hq1⟩
      · have hlq := h.now1 (by omega) q hq2
        obtain ⟨hq3, hq4, _⟩ := h.back q (by omega)
        have hqa : q ≠ a := by rintro rfl; omega
        exact .inr ⟨by omega, q, hq1, by omega, hq4, by rw [hold q (by omega)]; exact hlq⟩
    · rw [h2, if_neg hc] at hp
      obtain ⟨hq3, hq4, j, hj, h5⟩ := h.back p hp
      refine ⟨hq3, hq4, j, by rw [hold p hp]; exact hj, ?_⟩
      rcases h5 with h5 | ⟨h5, q, h6, h7, h8, h9⟩
      · exact .inl h5
      · exact .inr ⟨h5, q, h6, h7, h8, by rw [hold q (by omega)]; exact h9⟩
  · rw [h2]
    split
    · exact Int.le_refl _
    · have := h.le p; omega
  · rw [h3] at hp
    rw [h2, if_pos (of_decide_eq_true hp)]
  · rw [h3]
    rw [h2] at hp
    refine decide_eq_true (Classical.byContradiction fun hc => ?_)
    rw [if_neg hc] at hp
    have := h.le p
    omega
  · by_cases hp0 : left.getD p 0 = 0
    · have hjm : j = m + 1 := Nat.le_antisymm hj (Nat.lt_of_not_le fun hle => (h.comp j hle p hap hpn hw).1 hp0)
      subst hjm
      have hg : gets W now left p := by
        refine ⟨?_, hp0⟩
        cases hw with
        | one hw =>
          rw [h.now0 rfl]
          exact inter_of hw (by rw [hasS_one a a (by omega)]; simp)
        | step hw hq1 hq2 hw2 =>
          rename_i q
          obtain ⟨h5, h6⟩ := h.comp m (Nat.le_refl _) q (Nat.le_of_lt hq1) hq2 hw2
          have hlt : left.getD q 0 = (m : Int) := by
            refine Int.le_antisymm h6 (Int.not_lt.1 fun hlt => ?_)
            obtain ⟨_, _, i, hi, _⟩ := h.back q h5
            have hw3 := WalkTo.step hw hq1 hq2 (h.walk i q hi)
            exact (h.comp (i + 1 + 1) (by omega) p hap hpn hw3).1 hp0
          exact inter_of hw (h.now2 hw2.pos q hlt)
      rw [h2, if_pos ⟨⟨hap, hpn⟩, hg⟩]
      exact ⟨by omega, Int.le_refl _⟩
    · rw [hold p hp0]
      refine ⟨hp0, ?_⟩
      by_cases hjm : j ≤ m
      · exact (h.comp j hjm p hap hpn hw).2
      · have := h.le p; omega

theorem layer_none {m : Int} {left : List Int} : (layer W a 0#32 m left).1 = left ∧ (layer W a 0#32 m left).2 = 0#32 := by
  have : ∀ j, layerPart W 0#32 m a left j = (left, 0#32) := by
    intro j
    induction j with
    | zero => simp [layerPart]
    | succ j ih =>
      have e : layerPart W 0#32 m a left (j + 1) = layerStep W 0#32 m (layerPart W 0#32 m a left j) (a + j) := by
        unfold layerPart; rw [List.range'_concat, List.foldl_append]; simp
      rw [e, ih]
      unfold layerStep
      rw [if_neg (fun h => h.1 (by simp))]
  unfold layer
  rw [this]
  exact ⟨rfl, rfl⟩

theorem bfs_spec (hn : W.n ≤ 24) (ha : a < W.n) : ∀ (f m : Nat) (left : List Int) (now : S), Lay W a m left now → left.getD a 0 = 0 →
    Back W a (bfs W a f now ((m + 1 : Nat) : Int) left) ∧ ∀ j, j ≤ m + f → WalkTo W a j a → (bfs W a f now ((m + 1 : Nat) : Int) left).getD a 0 ≠ 0 ∧ (bfs W a f now ((m + 1 : Nat) : Int) left).getD a 0 ≤ (j : Int)
  | 0, m, left, now, h, _ => ⟨h.toBack, fun j hj hw => h.comp j hj a (Nat.le_refl _) ha hw⟩
  | f + 1, m, left, now, h, h0 => by
    have hx := h.next hn ha h0
    unfold bfs
    by_cases hz : now = 0#32
    · rw [if_pos hz]
      subst hz
      obtain ⟨e1, e2⟩ := layer_none (W := W) (a := a) (m := ((m + 1 : Nat) : Int)) (left := left)
      rw [e1, e2] at hx
      have ih := bfs_spec hn ha f (m + 1) left 0#32 hx h0
      have e : bfs W a f 0#32 ((m + 1 + 1 : Nat) : Int) left = left := by
        cases f with
        | zero => rfl
        | succ f => unfold bfs; rw [if_pos rfl]
      rw [e] at ih
      exact ⟨ih.1, fun j hj hw => ih.2 j (by omega) hw⟩
    · rw [if_neg hz]
      by_cases hf : hasS (layer W a now ((m + 1 : Nat) : Int) left).2 a = true
      · rw [if_pos hf]
        refine ⟨hx.toBack, fun j hj hw => ?_⟩
        have e := hx.now1 (by omega) a hf
        rw [e]
        refine ⟨by omega, Int.not_lt.1 fun hlt => ?_⟩
        have := (hx.comp j (by omega) a (Nat.le_refl _) ha hw).2
        omega
      · rw [if_neg hf]
        have h0' : (layer W a now ((m + 1 : Nat) : Int) left).1.getD a 0 = 0 := by
          refine Classical.byContradiction fun hne => ?_
          obtain ⟨_, h2, h3⟩ := layer_val hn (Nat.le_of_lt ha) (W := W) (now := now) (m := ((m + 1 : Nat) : Int)) h.len
          rw [h2] at hne
          split at hne
          · rename_i hc
            rw [h3] at hf
            exact hf (decide_eq_true hc)
          · exact hne h0
        have ih := bfs_spec hn ha f (m + 1) _ _ hx h0'
        have e : ((m + 1 : Nat) : Int) + 1 = ((m + 1 + 1 : Nat) : Int) := by omega
        rw [e]
        exact ⟨ih.1, fun j hj hw => ih.2 j (by omega) hw⟩

theorem leftOf_spec (hn : W.n ≤ 24) (ha : a < W.n) : Back W a (leftOf W a) ∧ ∀ j, j ≤ 25 → WalkTo W a j a → (leftOf W a).getD a 0 ≠ 0 ∧ (leftOf W a).getD a 0 ≤ (j : Int) := by
  have hz : ∀ p, (List.replicate 24 (0 : Int)).getD p 0 = 0 := fun p => by
    rw [List.getD_eq_getElem?_getD, List.getElem?_replicate]; split <;> rfl
  have h0 : Lay W a 0 (List.replicate 24 0) (oneS a) :=
    { len := by simp, back := fun p hp => absurd (hz p) hp, le := fun p => by rw [hz p]; omega, now0 := fun _ => rfl, now1 := fun h => by omega, now2 := fun h => by omega,
      comp := fun j hj p _ _ hw => by have := hw.pos; omega }
  have := bfs_spec hn ha 25 0 _ _ h0 (hz a)
  simpa [leftOf] using this
end
end Go.Proofs.Yteljjkghjbofnaa
