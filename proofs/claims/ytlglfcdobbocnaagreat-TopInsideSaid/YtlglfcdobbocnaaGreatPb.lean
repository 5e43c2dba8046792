/- Lists turned in place: swaps, ranges swapped, rotated, merged: what they hold, and that they rise. -/
import Derived.Test.YtlglfcdobbocnaaGreatPa
/-! Lists turned in place: swaps, ranges swapped, rotated, merged: what they hold, and that they rise. -/
namespace Go.Proofs.YtlglfcdobbocnaaGreat
section
variable {α : Type} [Inhabited α]
/-- The element at a place. -/
def gt (l : List α) (i : Nat) : α := l.getD i default
theorem gt_eq {l : List α} {i : Nat} (h : i < l.length) : gt l i = l[i] := by unfold gt; rw [List.getD_eq_getElem?_getD, List.getElem?_eq_getElem h]; rfl
theorem ext_gt {l m : List α} (hl : l.length = m.length) (h : ∀ q, q < l.length → gt l q = gt m q) : l = m := by
  refine List.ext_getElem hl fun i h1 h2 => ?_
  rw [← gt_eq h1, ← gt_eq h2]
  exact h i h1
/-- Two elements change places. -/
def swapAt (l : List α) (i j : Nat) : List α := (l.set i (gt l j)).set j (gt l i)
theorem swapAt_len (l : List α) (i j : Nat) : (swapAt l i j).length = l.length := by simp [swapAt]
theorem gt_set {l : List α} {i : Nat} (h : i < l.length) (x : α) (q : Nat) : gt (l.set i x) q = if q = i then x else gt l q := by
  unfold gt
  simp only [List.getD_eq_getElem?_getD, List.getElem?_set]
  by_cases e : q = i
  · subst e; simp [h]
  · rw [if_neg (fun k => e k.symm), if_neg e]
theorem gt_swap {l : List α} {i j : Nat} (hi : i < l.length) (hj : j < l.length) (q : Nat) : gt (swapAt l i j) q = if q = j then gt l i else if q = i then gt l j else gt l q := by
  unfold swapAt
  rw [gt_set (by simpa using hj), gt_set hi]
theorem perm_swapAt {l : List α} {i j : Nat} (hi : i < l.length) (hj : j < l.length) : (swapAt l i j).Perm l := by
  unfold swapAt
  rw [gt_eq hi, gt_eq hj]
  exact List.set_set_perm hi hj
/-- Turned into another list by swaps in a range. -/
inductive Ed (l : List α) (a b : Nat) : List α → Prop
  | refl : Ed l a b l
  | step {m : List α} {i j : Nat} : Ed l a b m → a ≤ i → i < b → a ≤ j → j < b → i < l.length → j < l.length → Ed l a b (swapAt m i j)
theorem Ed.len {l m : List α} {a b : Nat} (h : Ed l a b m) : m.length = l.length := by
  induction h with
  | refl => rfl
  | step _ _ _ _ _ _ _ ih => rw [swapAt_len, ih]
theorem Ed.trans {l m k : List α} {a b : Nat} (h : Ed l a b m) (h2 : Ed m a b k) : Ed l a b k := by
  induction h2 with
  | refl => exact h
  | step _ h1 h2 h3 h4 h5 h6 ih => exact .step ih h1 h2 h3 h4 (h.len ▸ h5) (h.len ▸ h6)
theorem Ed.wide {l m : List α} {a b a' b' : Nat} (h : Ed l a b m) (ha : a' ≤ a) (hb : b ≤ b') : Ed l a' b' m := by
  induction h with
  | refl => exact .refl
  | step _ h1 h2 h3 h4 h5 h6 ih => exact .step ih (by omega) (by omega) (by omega) (by omega) h5 h6
theorem Ed.perm {l m : List α} {a b : Nat} (h : Ed l a b m) : m.Perm l := by
  induction h with
  | refl => exact List.Perm.refl _
  | step h _ _ _ _ h5 h6 ih => exact (perm_swapAt (h.len ▸ h5) (h.len ▸ h6)).trans ih
theorem Ed.out {l m : List α} {a b : Nat} (h : Ed l a b m) {q : Nat} (hq : q < a ∨ b ≤ q) : gt m q = gt l q := by
  induction h with
  | refl => rfl
  | step h h1 h2 h3 h4 h5 h6 ih => rw [gt_swap (h.len ▸ h5) (h.len ▸ h6), if_neg (by omega), if_neg (by omega), ih]
theorem Ed.inn {l m : List α} {a b : Nat} (h : Ed l a b m) {P : α → Prop} (hp : ∀ q, a ≤ q → q < b → q < l.length → P (gt l q)) : ∀ q, a ≤ q → q < b → q < l.length → P (gt m q) := by
  induction h with
  | refl => exact hp
  | step h h1 h2 h3 h4 h5 h6 ih =>
    intro q q1 q2 q3
    rw [gt_swap (h.len ▸ h5) (h.len ▸ h6)]
    split
    · exact ih _ h1 h2 h5
    · split
      · exact ih _ h3 h4 h6
      · exact ih q q1 q2 q3
/-- Two ranges of n elements change places. -/
def srF (l : List α) (a b n q : Nat) : α := if a ≤ q ∧ q < a + n then gt l (q - a + b) else if b ≤ q ∧ q < b + n then gt l (q - b + a) else gt l q
theorem srF_step {l m : List α} {a b n k : Nat} (hd : a + n ≤ b) (hl : b + n ≤ l.length) (hk : k < n) (hm : m.length = l.length) (h : ∀ q, gt m q = srF l a b k q) (q : Nat) : gt (swapAt m (a + k) (b + k)) q = srF l a b (k + 1) q := by
  rw [gt_swap (by omega) (by omega), h, h, h]
  unfold srF
  repeat' split
  all_goals first | rfl | (exfalso; omega) | (congr 1; omega)
theorem srF_zero (l : List α) (a b q : Nat) : gt l q = srF l a b 0 q := by unfold srF; rw [if_neg (by omega), if_neg (by omega)]
/-- What is before m in a range goes behind what is from m on. -/
def rotF (f : Nat → α) (a m b q : Nat) : α := if a ≤ q ∧ q < a + (b - m) then f (q + (m - a)) else if a + (b - m) ≤ q ∧ q < b then f (q - (b - m)) else f q
theorem rot_left {l : List α} {cur : List α} {m i j : Nat} (hij : j < i) (him : i ≤ m) (hj : 0 < j) (h : ∀ q, gt cur q = srF l (m - i) m j q) (q : Nat) : rotF (gt cur) (m - (i - j)) m (m + j) q = rotF (gt l) (m - i) m (m + j) q := by
  unfold rotF
  simp only [h]
  unfold srF
  repeat' split
  all_goals first | rfl | (exfalso; omega) | (congr 1; omega)
theorem rot_right {l : List α} {cur : List α} {m i j : Nat} (hij : i < j) (him : i ≤ m) (hi : 0 < i) (h : ∀ q, gt cur q = srF l (m - i) (m + j - i) i q) (q : Nat) : rotF (gt cur) (m - i) m (m + (j - i)) q = rotF (gt l) (m - i) m (m + j) q := by
  unfold rotF
  simp only [h]
  unfold srF
  repeat' split
  all_goals first | rfl | (exfalso; omega) | (congr 1; omega)
theorem rot_last {l : List α} {cur : List α} {m i : Nat} (him : i ≤ m) (h : ∀ q, gt cur q = srF l (m - i) m i q) (q : Nat) : gt cur q = rotF (gt l) (m - i) m (m + i) q := by
  unfold rotF
  simp only [h]
  unfold srF
  repeat' split
  all_goals first | rfl | (exfalso; omega) | (congr 1; omega)
/-- A strict order on what is considered. -/
structure Lin (D : α → Prop) (lt : α → α → Prop) : Prop where
  asymm : ∀ x y, D x → D y → lt x y → ¬ lt y x
  trans : ∀ x y z, D x → D y → D z → lt x y → lt y z → lt x z
  tri : ∀ x y, D x → D y → x ≠ y → lt x y ∨ lt y x
theorem Lin.le_trans {β : Type} {D : β → Prop} {lt : β → β → Prop} (h : Lin D lt) {x y z : β} (hx : D x) (hy : D y) (hz : D z) (h1 : ¬ lt y x) (h2 : ¬ lt z y) : ¬ lt z x := by
  intro k
  by_cases e : x = y
  · subst e; exact h2 k
  · have l := (h.tri x y hx hy e).resolve_right h1
    exact h2 (h.trans z x y hz hx hy k l)
theorem Lin.irrefl {β : Type} {D : β → Prop} {lt : β → β → Prop} (h : Lin D lt) {x : β} (hx : D x) : ¬ lt x x := fun k => h.asymm x x hx hx k k
/-- The elements from a to b rise. -/
def Srt (lt : α → α → Prop) (l : List α) (a b : Nat) : Prop := ∀ p q, a ≤ p → p < q → q < b → ¬ lt (gt l q) (gt l p)
def All (D : α → Prop) (l : List α) : Prop := ∀ q, q < l.length → D (gt l q)
theorem Ed.all {D : α → Prop} {l m : List α} {a b : Nat} (h : Ed l a b m) (hd : All D l) : All D m := by
  intro q hq
  rw [h.len] at hq
  by_cases c : a ≤ q ∧ q < b
  · exact h.inn (P := D) (fun q _ _ h3 => hd q h3) q c.1 c.2 hq
  · rw [h.out (by omega)]
    exact hd q hq
theorem Srt.out {lt : α → α → Prop} {l m : List α} {a b c d : Nat} (h : Srt lt l c d) (he : Ed l a b m) (hc : d ≤ a ∨ b ≤ c) : Srt lt m c d := by
  intro p q h1 h2 h3
  rw [he.out (by omega), he.out (by omega)]
  exact h p q h1 h2 h3
theorem Srt.short {lt : α → α → Prop} {l : List α} {a b : Nat} (h : b ≤ a + 1) : Srt lt l a b := fun p q h1 h2 h3 => by omega
theorem Srt.sub {lt : α → α → Prop} {l : List α} {a b c d : Nat} (h : Srt lt l a b) (h1 : a ≤ c) (h2 : d ≤ b) : Srt lt l c d := fun p q k1 k2 k3 => h p q (by omega) k2 (by omega)
/-- Two ranges that rise, the first below the second. -/
theorem Srt.glue {lt : α → α → Prop} {l : List α} {a m b : Nat} (h1 : Srt lt l a m) (h2 : Srt lt l m b) (h : ∀ p q, a ≤ p → p < m → m ≤ q → q < b → ¬ lt (gt l q) (gt l p)) : Srt lt l a b := by
  intro p q k1 k2 k3
  by_cases c1 : q < m
  · exact h1 p q k1 k2 c1
  · by_cases c2 : m ≤ p
    · exact h2 p q c2 k2 k3
    · exact h p q k1 (by omega) (by omega) k3
/-- Rising but for the element at j, which is below all behind it. -/
def But (lt : α → α → Prop) (l : List α) (a i j : Nat) : Prop := (∀ p q, a ≤ p → p < q → q ≤ i → p ≠ j → q ≠ j → ¬ lt (gt l q) (gt l p)) ∧ ∀ q, j < q → q ≤ i → ¬ lt (gt l q) (gt l j)
theorem But.start {lt : α → α → Prop} {l : List α} {a i : Nat} (h : Srt lt l a i) : But lt l a i i := ⟨fun p q h1 h2 h3 h4 h5 => h p q h1 h2 (by omega), fun q h1 h2 => by omega⟩
theorem But.done {D : α → Prop} {lt : α → α → Prop} (hl : Lin D lt) {l : List α} (hd : All D l) {a i j : Nat} (h : But lt l a i j) (hj : a ≤ j) (hji : j ≤ i) (hil : i < l.length) (hs : j = a ∨ ¬ lt (gt l j) (gt l (j - 1))) : Srt lt l a (i + 1) := by
  intro p q h1 h2 h3
  by_cases e1 : p = j
  · subst e1; exact h.2 q h2 (by omega)
  · by_cases e2 : q = j
    · subst e2
      rcases hs with hs | hs
      · omega
      · by_cases e3 : p = q - 1
        · subst e3; exact hs
        · exact hl.le_trans (hd _ (by omega)) (hd _ (by omega)) (hd _ (by omega)) (h.1 p (q - 1) h1 (by omega) (by omega) e1 (by omega)) hs
    · exact h.1 p q h1 h2 (by omega) e1 e2
theorem But.step {D : α → Prop} {lt : α → α → Prop} (hl : Lin D lt) {l : List α} (hd : All D l) {a i j : Nat} (h : But lt l a i j) (hj : a < j) (hji : j ≤ i) (hil : i < l.length) (hs : lt (gt l j) (gt l (j - 1))) : But lt (swapAt l j (j - 1)) a i (j - 1) := by
  have g := gt_swap (l := l) (i := j) (j := j - 1) (by omega) (by omega)
  refine ⟨fun p q h1 h2 h3 h4 h5 => ?_, fun q h1 h2 => ?_⟩
  · rw [g, g, if_neg h4, if_neg h5]
    by_cases e1 : p = j
    · rw [if_pos e1, if_neg (by omega)]
      exact h.1 (j - 1) q (by omega) (by omega) h3 (by omega) (by omega)
    · rw [if_neg e1]
      by_cases e2 : q = j
      · rw [if_pos e2]
        exact h.1 p (j - 1) h1 (by omega) (by omega) e1 (by omega)
      · rw [if_neg e2]
        exact h.1 p q h1 h2 h3 e1 e2
  · rw [g, g, if_pos rfl, if_neg (by omega)]
    by_cases e2 : q = j
    · rw [if_pos e2]
      exact hl.asymm _ _ (hd _ (by omega)) (hd _ (by omega)) hs
    · rw [if_neg e2]
      exact h.2 q (by omega) h2
end
end Go.Proofs.YtlglfcdobbocnaaGreat

/-! Merging two ranges that rise: by one element, or by turning the middle round. -/
namespace Go.Proofs.YtlglfcdobbocnaaGreat
section
variable {α : Type} [Inhabited α] {D : α → Prop} {lt : α → α → Prop}
/-- The first element moved up to place k. -/
def upF (l : List α) (a k q : Nat) : α := if a ≤ q ∧ q < k then gt l (q + 1) else if q = k then gt l a else gt l q
theorem upF_step {l m : List α} {a k : Nat} (hak : a ≤ k) (hk : k + 1 < l.length) (hm : m.length = l.length) (h : ∀ q, gt m q = upF l a k q) (q : Nat) : gt (swapAt m k (k + 1)) q = upF l a (k + 1) q := by
  rw [gt_swap (by omega) (by omega), h, h, h]
  unfold upF
  repeat' split
  all_goals first | rfl | (exfalso; omega) | (congr 1; omega)
theorem upF_zero (l : List α) (a q : Nat) : gt l q = upF l a a q := by
  unfold upF
  repeat' split
  all_goals first | rfl | (exfalso; omega) | (congr 1 <;> omega)
/-- The last element moved down to place k. -/
def dnF (l : List α) (k m q : Nat) : α := if k < q ∧ q ≤ m then gt l (q - 1) else if q = k then gt l m else gt l q
theorem dnF_step {l c : List α} {k m : Nat} (hk : 0 < k) (hkm : k ≤ m) (hm : m < l.length) (hc : c.length = l.length) (h : ∀ q, gt c q = dnF l k m q) (q : Nat) : gt (swapAt c k (k - 1)) q = dnF l (k - 1) m q := by
  rw [gt_swap (by omega) (by omega), h, h, h]
  unfold dnF
  repeat' split
  all_goals first | rfl | (exfalso; omega) | (congr 1; omega)
theorem dnF_zero (l : List α) (m q : Nat) : gt l q = dnF l m m q := by
  unfold dnF
  repeat' split
  all_goals first | rfl | (exfalso; omega) | (congr 1 <;> omega)
theorem up_srt (hl : Lin D lt) {l c : List α} (hd : All D l) {a i b : Nat} (h1 : a + 1 ≤ i) (h2 : i ≤ b) (hb : b ≤ l.length) (hs : Srt lt l (a + 1) b) (hlo : a + 1 < i → lt (gt l (i - 1)) (gt l a)) (hhi : i < b → ¬ lt (gt l i) (gt l a)) (hc : ∀ q, gt c q = upF l a (i - 1) q) : Srt lt c a b := by
  intro p q k1 k2 k3
  rw [hc, hc]
  have da := hd a (by omega)
  have low : ∀ p, a + 1 ≤ p → p < i → lt (gt l p) (gt l a) := by
    intro p p1 p2
    by_cases e : p = i - 1
    · rw [e]; exact hlo (by omega)
    · have n := hs p (i - 1) p1 (by omega) (by omega)
      have t := hlo (by omega)
      by_cases e2 : gt l p = gt l (i - 1)
      · rw [e2]; exact t
      · exact hl.trans _ _ _ (hd p (by omega)) (hd (i - 1) (by omega)) da ((hl.tri _ _ (hd p (by omega)) (hd (i - 1) (by omega)) e2).resolve_right n) t
  have high : ∀ q, i ≤ q → q < b → ¬ lt (gt l q) (gt l a) := by
    intro q q1 q2
    by_cases e : q = i
    · rw [e]; exact hhi (by omega)
    · exact hl.le_trans da (hd i (by omega)) (hd q (by omega)) (hhi (by omega)) (hs i q (by omega) (by omega) q2)
  unfold upF
  by_cases c1 : q < i - 1
  · rw [if_pos (by omega), if_pos (by omega)]
    exact hs _ _ (by omega) (by omega) (by omega)
  · rw [if_neg (by omega : ¬ (a ≤ q ∧ q < i - 1))]
    by_cases c2 : q = i - 1
    · rw [if_pos c2, if_pos (by omega)]
      exact hl.asymm _ _ (hd _ (by omega)) da (low (p + 1) (by omega) (by omega))
    · rw [if_neg c2]
      by_cases c3 : p < i - 1
      · rw [if_pos (by omega)]
        exact hs _ _ (by omega) (by omega) k3
      · rw [if_neg (by omega)]
        by_cases c4 : p = i - 1
        · rw [if_pos c4]; exact high q (by omega) k3
        · rw [if_neg c4]; exact hs p q (by omega) k2 k3
theorem dn_srt (hl : Lin D lt) {l c : List α} (hd : All D l) {a i m : Nat} (h1 : a ≤ i) (h2 : i ≤ m) (hb : m < l.length) (hs : Srt lt l a m) (hlo : a < i → ¬ lt (gt l m) (gt l (i - 1))) (hhi : i < m → lt (gt l m) (gt l i)) (hc : ∀ q, gt c q = dnF l i m q) : Srt lt c a (m + 1) := by
  intro p q k1 k2 k3
  rw [hc, hc]
  have dm := hd m hb
  have low : ∀ p, a ≤ p → p < i → ¬ lt (gt l m) (gt l p) := by
    intro p p1 p2
    by_cases e : p = i - 1
    · rw [e]; exact hlo (by omega)
    · exact hl.le_trans (hd p (by omega)) (hd (i - 1) (by omega)) dm (hs p (i - 1) p1 (by omega) (by omega)) (hlo (by omega))
  have high : ∀ q, i ≤ q → q < m → ¬ lt (gt l q) (gt l m) := by
    intro q q1 q2
    have t := hhi (by omega)
    by_cases e : q = i
    · rw [e]; exact hl.asymm _ _ dm (hd i (by omega)) t
    · intro k
      have n := hs i q h1 (by omega) q2
      exact n (hl.trans _ _ _ (hd q (by omega)) dm (hd i (by omega)) k t)
  unfold dnF
  by_cases c1 : q < i
  · rw [if_neg (by omega : ¬ (i < q ∧ q ≤ m)), if_neg (by omega : ¬ q = i), if_neg (by omega : ¬ (i < p ∧ p ≤ m)), if_neg (by omega : ¬ p = i)]
    exact hs p q k1 k2 (by omega)
  · by_cases c2 : q = i
    · rw [if_neg (by omega : ¬ (i < q ∧ q ≤ m)), if_pos c2, if_neg (by omega : ¬ (i < p ∧ p ≤ m)), if_neg (by omega : ¬ p = i)]
      exact low p k1 (by omega)
    · rw [if_pos (by omega : i < q ∧ q ≤ m)]
      by_cases c3 : p < i
      · rw [if_neg (by omega), if_neg (by omega)]
        exact hs _ _ k1 (by omega) (by omega)
      · by_cases c4 : p = i
        · rw [if_neg (by omega), if_pos c4]
          exact high (q - 1) (by omega) (by omega)
        · rw [if_pos (by omega)]
          exact hs _ _ (by omega) (by omega) (by omega)
/-- Behind the middle's turning. -/
structure Split (lt : α → α → Prop) (c : List α) (a s mid t b : Nat) : Prop where
  s1 : Srt lt c a s
  s2 : Srt lt c s mid
  s3 : Srt lt c mid t
  s4 : Srt lt c t b
  cr : ∀ p q, a ≤ p → p < mid → mid ≤ q → q < b → ¬ lt (gt c q) (gt c p)
theorem split_of (hl : Lin D lt) {l c : List α} (hd : All D l) {a m b s lo r0 mid : Nat} (ham : a < m) (hmb : m < b) (hb : b ≤ l.length) (hmid : mid = (a + b) / 2)
    (hcase : (mid < m ∧ lo = mid + m - b ∧ r0 = mid) ∨ (m ≤ mid ∧ lo = a ∧ r0 = m)) (h1 : lo ≤ s) (h2 : s ≤ r0) (k1 : Srt lt l a m) (k2 : Srt lt l m b)
    (c1 : lo < s → ¬ lt (gt l (mid + m - s)) (gt l (s - 1))) (c2 : s < r0 → lt (gt l (mid + m - 1 - s)) (gt l s)) (hc : ∀ q, gt c q = rotF (gt l) s m (mid + m - s) q) : Split lt c a s mid (mid + m - s) b := by
  have b1 : a ≤ s := by omega
  have b2 : s ≤ mid := by omega
  have b3 : s ≤ m := by omega
  have b4 : m ≤ mid + m - s := by omega
  have b5 : mid + m - s ≤ b := by omega
  have e : s + (mid + m - s - m) = mid := by omega
  have r1 : ∀ q, q < s → gt c q = gt l q := fun q h => by rw [hc]; unfold rotF; rw [if_neg (by omega), if_neg (by omega)]
  have r2 : ∀ q, s ≤ q → q < mid → gt c q = gt l (q + (m - s)) := fun q h h' => by rw [hc]; unfold rotF; rw [if_pos (by omega)]
  have r3 : ∀ q, mid ≤ q → q < mid + m - s → gt c q = gt l (q - (mid - s)) := fun q h h' => by
    rw [hc]; unfold rotF; rw [if_neg (by omega), if_pos (by omega)]
    congr 1; omega
  have r4 : ∀ q, mid + m - s ≤ q → gt c q = gt l q := fun q h => by rw [hc]; unfold rotF; rw [if_neg (by omega), if_neg (by omega)]
  refine ⟨fun p q h1 h2 h3 => ?_, fun p q h1 h2 h3 => ?_, fun p q h1 h2 h3 => ?_, fun p q h1 h2 h3 => ?_, fun p q h1 h2 h3 h4 => ?_⟩
  · rw [r1 p (by omega), r1 q h3]; exact k1 p q h1 h2 (by omega)
  · rw [r2 p h1 (by omega), r2 q (by omega) h3]; exact k2 _ _ (by omega) (by omega) (by omega)
  · rw [r3 p h1 (by omega), r3 q (by omega) h3]; exact k1 _ _ (by omega) (by omega) (by omega)
  · rw [r4 p h1, r4 q (by omega)]; exact k2 p q (by omega) h2 h3
  · by_cases g1 : p < s
    · rw [r1 p g1]
      by_cases g2 : q < mid + m - s
      · rw [r3 q h3 g2]; exact k1 _ _ h1 (by omega) (by omega)
      · rw [r4 q (by omega)]
        have hlos : lo < s := by omega
        have x1 : ¬ lt (gt l (s - 1)) (gt l p) := by
          by_cases e1 : p = s - 1
          · rw [e1]; exact hl.irrefl (hd _ (by omega))
          · exact k1 p (s - 1) h1 (by omega) (by omega)
        have x2 : ¬ lt (gt l q) (gt l (mid + m - s)) := by
          by_cases e1 : q = mid + m - s
          · rw [e1]; exact hl.irrefl (hd _ (by omega))
          · exact k2 _ q (by omega) (by omega) h4
        exact hl.le_trans (hd p (by omega)) (hd (mid + m - s) (by omega)) (hd q (by omega)) (hl.le_trans (hd p (by omega)) (hd (s - 1) (by omega)) (hd _ (by omega)) x1 (c1 hlos)) x2
    · rw [r2 p (by omega) h2]
      by_cases g2 : q < mid + m - s
      · rw [r3 q h3 g2]
        have hsr : s < r0 := by omega
        have t := c2 hsr
        have x1 : ¬ lt (gt l (mid + m - 1 - s)) (gt l (p + (m - s))) := by
          by_cases e1 : p + (m - s) = mid + m - 1 - s
          · rw [e1]; exact hl.irrefl (hd _ (by omega))
          · exact k2 _ _ (by omega) (by omega) (by omega)
        have x2 : ¬ lt (gt l (q - (mid - s))) (gt l s) := by
          by_cases e1 : q - (mid - s) = s
          · rw [e1]; exact hl.irrefl (hd _ (by omega))
          · exact k1 _ _ (by omega) (by omega) (by omega)
        exact hl.le_trans (hd _ (by omega)) (hd s (by omega)) (hd _ (by omega)) (hl.le_trans (hd _ (by omega)) (hd (mid + m - 1 - s) (by omega)) (hd s (by omega)) x1 (hl.asymm _ _ (hd _ (by omega)) (hd _ (by omega)) t)) x2
      · rw [r4 q (by omega)]; exact k2 _ _ (by omega) (by omega) h4
/-- What holds between two ranges holds when each is turned in itself. -/
theorem cross_ed {c c' c'' : List α} {a mid b : Nat} (hb : b ≤ c.length) (hcr : ∀ p q, a ≤ p → p < mid → mid ≤ q → q < b → ¬ lt (gt c q) (gt c p)) (e1 : Ed c a mid c') (e2 : Ed c' mid b c'') :
    ∀ p q, a ≤ p → p < mid → mid ≤ q → q < b → ¬ lt (gt c'' q) (gt c'' p) := by
  have x1 : ∀ p q, a ≤ p → p < mid → mid ≤ q → q < b → ¬ lt (gt c' q) (gt c' p) := by
    intro p q p1 p2 q1 q2
    rw [e1.out (q := q) (by omega)]
    exact e1.inn (P := fun x => ¬ lt (gt c q) x) (fun p p1 p2 _ => hcr p q p1 p2 q1 q2) p p1 p2 (by omega)
  intro p q p1 p2 q1 q2
  rw [e2.out (q := p) (by omega)]
  exact e2.inn (P := fun x => ¬ lt x (gt c' p)) (fun q q1 q2 _ => x1 p q p1 p2 q1 q2) q q1 q2 (by rw [e1.len]; omega)
end
end Go.Proofs.YtlglfcdobbocnaaGreat

/-! What the program's functions answer, in plain Lean. -/
namespace Go.Proofs.YtlglfcdobbocnaaGreat
/-! ### Order -/
/-- cmp.Compare. -/
def cmpI (x y : Int) : Int := if x < y then -1 else if y < x then 1 else 0
/-- cmp.Or. -/
def orI : List Int → Int
  | [] => 0
  | x :: l => if x = 0 then orI l else x
/-- By X and then by Y. -/
def cmpP (a b : Pt) : Int := orI [cmpI a.1 b.1, cmpI a.2 b.2]
theorem cmpI_lt (x y : Int) : cmpI x y < 0 ↔ x < y := by unfold cmpI; split <;> (try split) <;> omega
theorem cmpI_gt (x y : Int) : 0 < cmpI x y ↔ y < x := by unfold cmpI; split <;> (try split) <;> omega
theorem cmpI_eq (x y : Int) : cmpI x y = 0 ↔ x = y := by unfold cmpI; split <;> (try split) <;> omega
theorem cmpI_cases (x y : Int) : (x < y ∧ cmpI x y = -1) ∨ (x = y ∧ cmpI x y = 0) ∨ (y < x ∧ cmpI x y = 1) := by unfold cmpI; split <;> (try split) <;> omega
theorem or2 (x y : Int) : orI [x, y] = if x = 0 then y else x := by
  unfold orI
  split
  · unfold orI
    split
    · rename_i h; unfold orI; exact h.symm
    · rfl
  · rfl
theorem cmpP_cases (a b : Pt) : (ltP a b ∧ cmpP a b = -1) ∨ (a = b ∧ cmpP a b = 0) ∨ (ltP b a ∧ cmpP a b = 1) := by
  unfold cmpP
  rw [or2]
  rcases cmpI_cases a.1 b.1 with ⟨h, e⟩ | ⟨h, e⟩ | ⟨h, e⟩ <;> rw [e]
  · exact .inl ⟨.inl h, by simp⟩
  · rw [if_pos rfl]
    rcases cmpI_cases a.2 b.2 with ⟨k, e⟩ | ⟨k, e⟩ | ⟨k, e⟩ <;> rw [e]
    · exact .inl ⟨.inr ⟨h, k⟩, rfl⟩
    · exact .inr (.inl ⟨Prod.ext h k, rfl⟩)
    · exact .inr (.inr ⟨.inr ⟨h.symm, k⟩, rfl⟩)
  · exact .inr (.inr ⟨.inl h, by simp⟩)
theorem cmpP_lt (a b : Pt) : cmpP a b < 0 ↔ ltP a b := by
  rcases cmpP_cases a b with ⟨h, e⟩ | ⟨h, e⟩ | ⟨h, e⟩ <;> rw [e]
  · exact ⟨fun _ => h, fun _ => by omega⟩
  · exact ⟨fun k => by omega, fun k => by rw [h] at k; exact absurd k (ltP_irrefl _)⟩
  · exact ⟨fun k => by omega, fun k => absurd k (ltP_asymm h)⟩
theorem cmpP_gt (a b : Pt) : 0 < cmpP a b ↔ ltP b a := by
  rcases cmpP_cases a b with ⟨h, e⟩ | ⟨h, e⟩ | ⟨h, e⟩ <;> rw [e]
  · exact ⟨fun k => by omega, fun k => absurd k (ltP_asymm h)⟩
  · exact ⟨fun k => by omega, fun k => by rw [h] at k; exact absurd k (ltP_irrefl _)⟩
  · exact ⟨fun _ => h, fun _ => by omega⟩
theorem cmpP_eq (a b : Pt) : cmpP a b = 0 ↔ a = b := by
  rcases cmpP_cases a b with ⟨h, e⟩ | ⟨h, e⟩ | ⟨h, e⟩ <;> rw [e]
  · exact ⟨fun k => by omega, fun k => by rw [k] at h; exact absurd h (ltP_irrefl _)⟩
  · exact ⟨fun _ => h, fun _ => rfl⟩
  · exact ⟨fun k => by omega, fun k => by rw [k] at h; exact absurd h (ltP_irrefl _)⟩
/-- The sign of the cross product. -/
def turnZ (a b c : Pt) : Int := cmpI (cr a b c) 0
/-! ### Sorted lists -/
section
variable {α : Type}
/-- An element put where it belongs. -/
def ins (lt : α → α → Bool) (x : α) : List α → List α
  | [] => [x]
  | y :: l => if lt x y then x :: y :: l else y :: ins lt x l
def isort (lt : α → α → Bool) : List α → List α
  | [] => []
  | x :: l => ins lt x (isort lt l)
theorem ins_perm (lt : α → α → Bool) (x : α) (l : List α) : (ins lt x l).Perm (x :: l) := by
  induction l with
  | nil => exact List.Perm.refl _
  | cons y l ih =>
    unfold ins
    split
    · exact List.Perm.refl _
    · exact (List.Perm.cons y ih).trans (List.Perm.swap x y l)
theorem isort_perm (lt : α → α → Bool) (l : List α) : (isort lt l).Perm l := by
  induction l with
  | nil => exact List.Perm.refl _
  | cons x l ih => exact (ins_perm lt x _).trans (List.Perm.cons x ih)
/-- A list rises. -/
def Rise (lt : α → α → Bool) (l : List α) : Prop := l.Pairwise fun a b => lt b a = false
/-- A strict order, as a test. -/
structure LinB (D : α → Prop) (lt : α → α → Bool) : Prop where
  asymm : ∀ x y, D x → D y → lt x y = true → lt y x = false
  trans : ∀ x y z, D x → D y → D z → lt x y = true → lt y z = true → lt x z = true
  tri : ∀ x y, D x → D y → x ≠ y → lt x y = true ∨ lt y x = true
theorem LinB.irrefl {D : α → Prop} {lt : α → α → Bool} (h : LinB D lt) {x : α} (hx : D x) : lt x x = false := by
  cases e : lt x x with
  | false => rfl
  | true => have := h.asymm x x hx hx e; rw [e] at this; cases this
theorem LinB.le_trans {D : α → Prop} {lt : α → α → Bool} (h : LinB D lt) {x y z : α} (hx : D x) (hy : D y) (hz : D z) (h1 : lt y x = false) (h2 : lt z y = false) : lt z x = false := by
  cases k : lt z x with
  | false => rfl
  | true =>
    by_cases e : x = y
    · subst e; rw [k] at h2; cases h2
    · rcases h.tri x y hx hy e with l | l
      · have := h.trans z x y hz hx hy k l; rw [this] at h2; cases h2
      · rw [l] at h1; cases h1
theorem ins_rise {D : α → Prop} {lt : α → α → Bool} (h : LinB D lt) {x : α} (hx : D x) : ∀ {l : List α}, (∀ y ∈ l, D y) → Rise lt l → Rise lt (ins lt x l)
  | [], _, _ => by unfold ins Rise; simp
  | y :: l, hd, hr => by
    unfold Rise at hr ⊢
    rw [List.pairwise_cons] at hr
    unfold ins
    split
    · rename_i k
      rw [List.pairwise_cons]
      refine ⟨fun z hz => ?_, List.pairwise_cons.2 hr⟩
      rcases List.mem_cons.1 hz with rfl | hz
      · exact h.asymm _ _ hx (hd _ (by simp)) k
      · exact h.le_trans hx (hd y (by simp)) (hd z (by simp [hz])) (h.asymm _ _ hx (hd y (by simp)) k) (hr.1 z hz)
    · rename_i k
      rw [List.pairwise_cons]
      refine ⟨fun z hz => ?_, ins_rise h hx (fun z hz => hd z (by simp [hz])) hr.2⟩
      rcases List.mem_cons.1 ((ins_perm lt x l).mem_iff.1 hz) with rfl | hz
      · simpa using k
      · exact hr.1 z hz
theorem isort_rise {D : α → Prop} {lt : α → α → Bool} (h : LinB D lt) : ∀ {l : List α}, (∀ y ∈ l, D y) → Rise lt (isort lt l)
  | [], _ => List.Pairwise.nil
  | x :: l, hd => ins_rise h (hd x (by simp)) (fun y hy => hd y (by simp [(isort_perm lt l).mem_iff.1 hy])) (isort_rise h fun y hy => hd y (by simp [hy]))
theorem rise_uni {D : α → Prop} {lt : α → α → Bool} (h : LinB D lt) : ∀ {l m : List α}, (∀ y ∈ l, D y) → l.Perm m → Rise lt l → Rise lt m → l = m
  | [], m, _, hp, _, _ => (List.nil_perm.1 hp).symm
  | x :: l, [], _, hp, _, _ => absurd hp.symm (by simp)
  | x :: l, y :: m, hd, hp, hl, hm => by
    unfold Rise at hl hm
    rw [List.pairwise_cons] at hl hm
    have e : x = y := by
      apply Classical.byContradiction
      intro hn
      have hy : y ∈ l := by
        rcases List.mem_cons.1 (hp.mem_iff.2 (List.mem_cons_self ..)) with k | k
        · exact absurd k.symm hn
        · exact k
      have hx : x ∈ m := by
        rcases List.mem_cons.1 (hp.mem_iff.1 (List.mem_cons_self ..)) with k | k
        · exact absurd k hn
        · exact k
      have a := hl.1 y hy
      have b := hm.1 x hx
      rcases h.tri x y (hd x (by simp)) (hd y (by simp [hy])) hn with k | k
      · rw [k] at b; cases b
      · rw [k] at a; cases a
    subst e
    rw [rise_uni h (fun z hz => hd z (by simp [hz])) (List.Perm.cons_inv hp) hl.2 hm.2]
theorem isort_uni {D : α → Prop} {lt : α → α → Bool} (h : LinB D lt) {l m : List α} (hd : ∀ y ∈ l, D y) (hp : m.Perm l) (hr : Rise lt m) : m = isort lt l :=
  rise_uni h (fun y hy => hd y (hp.mem_iff.1 hy)) (hp.trans (isort_perm lt l).symm) hr (isort_rise h hd)
end
/-! ### Points in strict order -/
/-- A point put into a list in strict order, once. -/
def insP : List Pt → Pt → List Pt
  | [], x => [x]
  | y :: l, x => if ltP x y then x :: y :: l else if x = y then y :: l else y :: insP l x
def uniP (l : List Pt) : List Pt := l.foldl insP []
def StrictP (l : List Pt) : Prop := l.Pairwise ltP
theorem insP_mem : ∀ (l : List Pt) (x y : Pt), y ∈ insP l x ↔ y ∈ l ∨ y = x
  | [], x, y => by simp [insP]
  | z :: l, x, y => by
    unfold insP
    split
    · simp only [List.mem_cons]; exact ⟨fun h => by rcases h with h | h | h; exact .inr h; exact .inl (.inl h); exact .inl (.inr h), fun h => by rcases h with (h | h) | h; exact .inr (.inl h); exact .inr (.inr h); exact .inl h⟩
    · split
      · rename_i h; subst h; simp only [List.mem_cons]; exact ⟨fun h => .inl h, fun h => by rcases h with h | h; exact h; exact .inl h⟩
      · simp only [List.mem_cons, insP_mem l x y]; exact ⟨fun h => by rcases h with h | h | h; exact .inl (.inl h); exact .inl (.inr h); exact .inr h, fun h => by rcases h with (h | h) | h; exact .inl h; exact .inr (.inl h); exact .inr (.inr h)⟩
theorem insP_strict : ∀ (l : List Pt) (x : Pt), StrictP l → StrictP (insP l x)
  | [], x, _ => by simp [insP, StrictP]
  | z :: l, x, h => by
    unfold StrictP at h ⊢
    rw [List.pairwise_cons] at h
    unfold insP
    split
    · rename_i k
      rw [List.pairwise_cons]
      refine ⟨fun y hy => ?_, List.pairwise_cons.2 h⟩
      rcases List.mem_cons.1 hy with rfl | hy
      · exact k
      · exact ltP_trans k (h.1 y hy)
    · rename_i k
      split
      · exact List.pairwise_cons.2 h
      · rename_i k2
        rw [List.pairwise_cons]
        refine ⟨fun y hy => ?_, insP_strict l x h.2⟩
        rcases (insP_mem l x y).1 hy with hy | rfl
        · exact h.1 y hy
        · exact (ltP_total (fun e => k2 e.symm)).resolve_right k
theorem foldP_facts : ∀ (l acc : List Pt), StrictP acc → StrictP (l.foldl insP acc) ∧ ∀ y, y ∈ l.foldl insP acc ↔ y ∈ acc ∨ y ∈ l
  | [], acc, h => ⟨h, fun y => by simp⟩
  | x :: l, acc, h => by
    have := foldP_facts l (insP acc x) (insP_strict acc x h)
    refine ⟨this.1, fun y => ?_⟩
    rw [List.foldl_cons, this.2, insP_mem, List.mem_cons, or_assoc]
theorem uniP_strict (l : List Pt) : StrictP (uniP l) := (foldP_facts l [] List.Pairwise.nil).1
theorem uniP_mem (l : List Pt) (y : Pt) : y ∈ uniP l ↔ y ∈ l := by
  have := (foldP_facts l [] List.Pairwise.nil).2 y
  simpa [uniP] using this
theorem strict_ext : ∀ {l m : List Pt}, StrictP l → StrictP m → (∀ x, x ∈ l ↔ x ∈ m) → l = m
  | [], [], _, _, _ => rfl
  | [], y :: m, _, _, h => absurd ((h y).2 (by simp)) (by simp)
  | x :: l, [], _, _, h => absurd ((h x).1 (by simp)) (by simp)
  | x :: l, y :: m, hl, hm, h => by
    unfold StrictP at hl hm
    rw [List.pairwise_cons] at hl hm
    have e : x = y := by
      rcases List.mem_cons.1 ((h x).1 (by simp)) with k | k
      · exact k
      · rcases List.mem_cons.1 ((h y).2 (by simp)) with k2 | k2
        · exact k2.symm
        · exact absurd (hl.1 y k2) (ltP_asymm (hm.1 x k))
    subst e
    congr 1
    refine strict_ext hl.2 hm.2 fun z => ⟨fun hz => ?_, fun hz => ?_⟩
    · rcases List.mem_cons.1 ((h z).1 (by simp [hz])) with rfl | k
      · exact absurd (hl.1 z hz) (ltP_irrefl _)
      · exact k
    · rcases List.mem_cons.1 ((h z).2 (by simp [hz])) with rfl | k
      · exact absurd (hm.1 z hz) (ltP_irrefl _)
      · exact k
/-- What is in strict order with the same points. -/
theorem uniP_uni {l m : List Pt} (h : StrictP m) (hm : ∀ x, x ∈ m ↔ x ∈ l) : m = uniP l := strict_ext h (uniP_strict l) fun x => (hm x).trans (uniP_mem l x).symm
/-! ### Points, segments, polygons -/
def okB (p : Pt) : Bool := decide (0 ≤ p.1) && decide (p.1 ≤ 10000) && decide (0 ≤ p.2) && decide (p.2 ≤ 10000)
def okS (s : Sg) : Bool := okB s.1 && okB s.2 && decide (s.1 ≠ s.2)
def onB (p : Pt) (s : Sg) : Bool := decide (OnS p s)
/-- plane.Meet. -/
def MeetF (s t : Sg) : Int := if okS s && okS t then meetF s t else 0
def farB (s t : Sg) : Bool := (decide (max s.1.1 s.2.1 < min t.1.1 t.2.1) || decide (max t.1.1 t.2.1 < min s.1.1 s.2.1)) || (decide (max s.1.2 s.2.2 < min t.1.2 t.2.2) || decide (max t.1.2 t.2.2 < min s.1.2 s.2.2))
/-- faces.meet. -/
def meetG (s t : Sg) : Int := if farB s t then 0 else MeetF s t
/-- The edge of a polygon that begins at a corner. -/
def edgeF (l : List Pt) (i : Nat) : Sg := (l.getD i (0, 0), l.getD ((i + 1) % l.length) (0, 0))
def wantF (n i k : Nat) : Int := if k = i + 1 ∨ i = 0 ∧ k = n - 1 then 1 else 0
def pairsOk (l : List Pt) : Bool := (List.range l.length).all fun i => (List.range l.length).all fun k => decide (i < k → meetF (edgeF l i) (edgeF l k) = wantF l.length i k)
/-- plane.CheckPoly. -/
def polyF (l : List Pt) : Int :=
  if 200 < l.length then 2 else if l.length < 3 ∨ ¬ l.all okB = true then 1 else if ¬ l.Nodup then 6 else if pairsOk l then 0 else 10
/-- Crossed to the right, as a test. -/
def hcB (p a b : Pt) : Bool := decide (Hc p a b)
def inF (l : List Pt) (p : Pt) (k : Nat) : Bool := ((List.range k).filter fun i => hcB p (edgeF l i).1 (edgeF l i).2).length % 2 == 1
/-- plane.where. -/
def whereF (l : List Pt) (p : Pt) : Int := if (List.range l.length).any fun i => onB p (edgeF l i) then 1 else if inF l p l.length then 2 else 0
/-- plane.Where. -/
def WhereF (l : List Pt) (p : Pt) : Int := if polyF l ≠ 0 ∨ okB p = false then 0 else whereF l p
def insideB (p : Pt) (s : Sg) : Bool := decide (p ≠ s.1) && decide (p ≠ s.2) && onB p s
def ltPB (a b : Pt) : Bool := decide (ltP a b)
def stopsF (l : List Pt) (s : Sg) : List Pt := isort ltPB ([s.1, s.2] ++ l.filter fun p => insideB p s)
def addP (p q : Pt) : Pt := (p.1 + q.1, p.2 + q.2)
/-- plane.Within. -/
def withinF (l : List Pt) (s : Sg) : Bool :=
  decide (polyF l = 0) && okS s && ((List.range l.length).all fun i => decide (meetF (edgeF l i) s ≠ 3)) && decide (whereF l s.1 ≠ 0) && decide (whereF l s.2 ≠ 0) &&
    (List.range ((stopsF l s).length - 1)).all fun i => decide (whereF (l.map dP) (addP ((stopsF l s).getD i (0, 0)) ((stopsF l s).getD (i + 1) (0, 0))) ≠ 0)
end Go.Proofs.YtlglfcdobbocnaaGreat

/-! The web of a map: darts by their numbers, their order about a point, the next dart. -/
namespace Go.Proofs.YtlglfcdobbocnaaGreat
theorem ang_trans_up {w v u : Pt} (hw : ¬ low w) (hv : ¬ low v) (hu : ¬ low u) (h1 : 0 < crs w v) (h2 : 0 < crs v u) : 0 < crs w u := by
  obtain ⟨a, b⟩ := w
  obtain ⟨c, d⟩ := v
  obtain ⟨x, y⟩ := u
  unfold low at hw hv hu
  unfold crs at h1 h2 ⊢
  simp only [] at *
  have hd : 0 < d := by
    apply Classical.byContradiction
    intro k
    have d0 : d = 0 := by omega
    subst d0
    have := sgnc b c
    rw [Int.mul_zero] at h1
    omega
  have hy : 0 < y := by
    apply Classical.byContradiction
    intro k
    have y0 : y = 0 := by omega
    subst y0
    have := sgnc d x
    rw [Int.mul_zero] at h2
    omega
  have e : (a * y - b * x) * d = (a * d - b * c) * y + (c * y - d * x) * b := by grind
  have p1 := Int.mul_pos h1 hy
  have p2 := Int.mul_nonneg (Int.le_of_lt h2) (show 0 ≤ b by omega)
  have := sgnc (a * y - b * x) d
  omega
theorem crs_neg (w v : Pt) : crs (-w.1, -w.2) (-v.1, -v.2) = crs w v := by unfold crs; grind
theorem ang_trans {w v u : Pt} (h1 : angLt w v) (h2 : angLt v u) : angLt w u := by
  unfold angLt at *
  by_cases a : low w <;> by_cases b : low v <;> by_cases c : low u <;> simp only [a, b, c, not_true, not_false_eq_true, false_and, true_and, and_true, and_false, iff_self, iff_true, iff_false, or_false, false_or] at h1 h2 ⊢
  · have g : ∀ z : Pt, low z → ¬ low (-z.1, -z.2) := by intro z hz; unfold low at *; simp only []; omega
    rw [← crs_neg] at h1 h2 ⊢
    exact ang_trans_up (g _ a) (g _ b) (g _ c) h1 h2
  · exact ang_trans_up a b c h1 h2
/-- Once each in the other, and not fewer: the same. -/
theorem perm_of_sub {α : Type} [DecidableEq α] : ∀ {l m : List α}, l.Nodup → (∀ x ∈ l, x ∈ m) → m.length ≤ l.length → l.Perm m
  | [], m, _, _, h => by
    have : m = [] := List.eq_nil_of_length_eq_zero (by simpa using h)
    rw [this]
  | x :: l, m, hn, hs, h => by
    rw [List.nodup_cons] at hn
    have hx : x ∈ m := hs x (by simp)
    have hp := List.perm_cons_erase hx
    have hl := hp.length_eq
    refine (List.Perm.cons x ?_).trans hp.symm
    refine perm_of_sub hn.2 (fun y hy => ?_) (by simp at hl h ⊢; omega)
    have hy2 := hp.mem_iff.1 (hs y (by simp [hy]))
    rcases List.mem_cons.1 hy2 with rfl | k
    · exact absurd hy hn.1
    · exact k
theorem sm_list (n : Nat) (f : Nat → Int) : sm n f = ((List.range n).map f).sum := by
  induction n with
  | zero => rfl
  | succ n ih => rw [List.range_succ, List.map_append, List.sum_append, ← ih]; simp [sm]
theorem sum_perm {α : Type} (f : α → Int) {l m : List α} (h : l.Perm m) : (l.map f).sum = (m.map f).sum := by
  induction h with
  | nil => rfl
  | cons x _ ih => simp [ih]
  | swap x y l => simp; omega
  | trans _ _ i1 i2 => rw [i1, i2]
/-- A sum over all is that over where a one-to-one function leads. -/
theorem sm_perm {n : Nat} {g : Nat → Nat} (hl : ∀ d, d < n → g d < n) (hi : ∀ d d', d < n → d' < n → g d = g d' → d = d') (f : Nat → Int) : sm n (fun d => f (g d)) = sm n f := by
  rw [sm_list, sm_list]
  have hp : ((List.range n).map g).Perm (List.range n) := by
    refine perm_of_sub ?_ (fun x hx => ?_) (by simp)
    · refine List.nodup_iff_pairwise_ne.2 (List.pairwise_map.2 ?_)
      refine (List.nodup_iff_pairwise_ne.1 List.nodup_range).imp_of_mem fun {a b} ha hb hne e => ?_
      exact hne (hi a b (List.mem_range.1 ha) (List.mem_range.1 hb) e)
    · obtain ⟨d, hd, rfl⟩ := List.mem_map.1 hx
      exact List.mem_range.2 (hl d (List.mem_range.1 hd))
  rw [show (fun d => f (g d)) = f ∘ g from rfl, ← List.map_map]
  exact sum_perm f hp
section
variable (P : List Pt) (E : List (Nat × Nat))
/-- The segment of an edge. -/
def eS (i : Nat) : Sg := (P.getD (E.getD i (0, 0)).1 (0, 0), P.getD (E.getD i (0, 0)).2 (0, 0))
def dTail (d : Nat) : Nat := if d % 2 = 0 then (E.getD (d / 2) (0, 0)).1 else (E.getD (d / 2) (0, 0)).2
def dHead (d : Nat) : Nat := if d % 2 = 0 then (E.getD (d / 2) (0, 0)).2 else (E.getD (d / 2) (0, 0)).1
def angB (x y : Nat) : Bool := decide (angLt (dDir (eS P E) x) (dDir (eS P E) y))
/-- The darts that lead from a point, counterclockwise. -/
def outF (p : Nat) : List Nat := isort (angB P E) ((List.range (2 * E.length)).filter fun d => dTail E d == p)
def nxtF (d : Nat) : Nat := (outF P E (dHead E d)).getD (((outF P E (dHead E d)).idxOf (dRev d) + (outF P E (dHead E d)).length - 1) % (outF P E (dHead E d)).length) 0
end
variable {P : List Pt} {E : List (Nat × Nat)}
theorem dFrom_tail (d : Nat) : dFrom (eS P E) d = P.getD (dTail E d) (0, 0) := by unfold dFrom dTail eS; split <;> rfl
theorem dTo_head (d : Nat) : dTo (eS P E) d = P.getD (dHead E d) (0, 0) := by unfold dTo dHead eS; split <;> rfl
theorem dTail_rev (d : Nat) : dTail E (dRev d) = dHead E d := by
  unfold dTail dHead dRev
  by_cases h : d % 2 = 0
  · rw [if_pos h, if_pos h, if_neg (by omega), show (d + 1) / 2 = d / 2 by omega]
  · rw [if_neg h, if_neg h, if_pos (by omega), show (d - 1) / 2 = d / 2 by omega]
theorem dHead_rev (d : Nat) : dHead E (dRev d) = dTail E d := by
  unfold dTail dHead dRev
  by_cases h : d % 2 = 0
  · rw [if_pos h, if_pos h, if_neg (by omega), show (d + 1) / 2 = d / 2 by omega]
  · rw [if_neg h, if_neg h, if_pos (by omega), show (d - 1) / 2 = d / 2 by omega]
theorem dRev_lt' {n d : Nat} (h : d < 2 * n) : dRev d < 2 * n := by unfold dRev; split <;> omega
theorem dRev_rev (d : Nat) : dRev (dRev d) = d := by unfold dRev; split <;> split <;> omega
theorem dRev_inj {d d' : Nat} (h : dRev d = dRev d') : d = d' := by rw [← dRev_rev d, h, dRev_rev]
theorem out_mem {p d : Nat} : d ∈ outF P E p ↔ d < 2 * E.length ∧ dTail E d = p := by
  unfold outF
  rw [(isort_perm _ _).mem_iff, List.mem_filter, List.mem_range]
  simp
theorem out_nodup (p : Nat) : (outF P E p).Nodup := by
  unfold outF
  exact (isort_perm _ _).nodup_iff.2 (List.nodup_range.sublist List.filter_sublist)
/-- Where the way back lies, and where the next one. -/
theorem nxt_place {d : Nat} (hd : d < 2 * E.length) : ∃ i, ∃ h : i < (outF P E (dHead E d)).length, (outF P E (dHead E d))[i] = dRev d ∧
    ∃ h2 : (i + (outF P E (dHead E d)).length - 1) % (outF P E (dHead E d)).length < (outF P E (dHead E d)).length, nxtF P E d = (outF P E (dHead E d))[(i + (outF P E (dHead E d)).length - 1) % (outF P E (dHead E d)).length] := by
  have hm : dRev d ∈ outF P E (dHead E d) := out_mem.2 ⟨dRev_lt' hd, dTail_rev d⟩
  have hi : (outF P E (dHead E d)).idxOf (dRev d) < (outF P E (dHead E d)).length := List.idxOf_lt_length_of_mem hm
  refine ⟨_, hi, List.getElem_idxOf hi, Nat.mod_lt _ (by omega), ?_⟩
  unfold nxtF
  rw [List.getD_eq_getElem?_getD, List.getElem?_eq_getElem (Nat.mod_lt _ (by omega))]
  rfl
theorem nxt_out {d : Nat} (hd : d < 2 * E.length) : nxtF P E d < 2 * E.length ∧ dTail E (nxtF P E d) = dHead E d := by
  obtain ⟨i, hi, _, h2, e⟩ := nxt_place (P := P) hd
  rw [e]
  exact out_mem.1 (List.getElem_mem _)
theorem nodup_inj {l : List Nat} (hn : l.Nodup) {i j : Nat} (hi : i < l.length) (hj : j < l.length) (h : l[i] = l[j]) : i = j := by
  have hp := List.pairwise_iff_getElem.1 (List.nodup_iff_pairwise_ne.1 hn)
  rcases Nat.lt_trichotomy i j with k | k | k
  · exact absurd h (hp i j hi hj k)
  · exact k
  · exact absurd h.symm (hp j i hj hi k)
theorem mod_pred {i j n : Nat} (hi : i < n) (hj : j < n) (h : (i + n - 1) % n = (j + n - 1) % n) : i = j := by
  have e : ∀ k, k < n → (k + n - 1) % n = if k = 0 then n - 1 else k - 1 := by
    intro k hk
    split
    · rename_i h0; subst h0; rw [Nat.zero_add]; exact Nat.mod_eq_of_lt (by omega)
    · rw [show k + n - 1 = k - 1 + n by omega, Nat.add_mod_right]; exact Nat.mod_eq_of_lt (by omega)
  rw [e i hi, e j hj] at h
  split at h <;> split at h <;> omega
theorem nxt_inj {d d' : Nat} (hd : d < 2 * E.length) (hd' : d' < 2 * E.length) (h : nxtF P E d = nxtF P E d') : d = d' := by
  have hh : dHead E d = dHead E d' := by rw [← (nxt_out (P := P) hd).2, h, (nxt_out hd').2]
  obtain ⟨i, hi, r1, h2, e1⟩ := nxt_place (P := P) hd
  obtain ⟨j, hj, r2, h3, e2⟩ := nxt_place (P := P) hd'
  rw [e1, e2] at h
  have key : ∀ (l m : List Nat), l = m → l.Nodup → ∀ (hi : i < l.length) (hj : j < m.length) (h2 : (i + l.length - 1) % l.length < l.length) (h3 : (j + m.length - 1) % m.length < m.length), l[(i + l.length - 1) % l.length] = m[(j + m.length - 1) % m.length] → l[i] = m[j] := by
    rintro l m rfl hn hi hj h2 h3 he
    have := nodup_inj hn h2 h3 he
    have := mod_pred hi hj this
    subst this
    rfl
  have := key _ _ (by rw [hh]) (out_nodup _) hi hj h2 h3 h
  rw [r1, r2] at this
  exact dRev_inj this
end Go.Proofs.YtlglfcdobbocnaaGreat

/-! The web of a map is a Web. -/
namespace Go.Proofs.YtlglfcdobbocnaaGreat
variable {P : List Pt} {E : List (Nat × Nat)}
theorem strict_inj {P : List Pt} (h : StrictP P) {a b : Nat} (ha : a < P.length) (hb : b < P.length) (he : P.getD a (0, 0) = P.getD b (0, 0)) : a = b := by
  rw [List.getD_eq_getElem?_getD, List.getD_eq_getElem?_getD, List.getElem?_eq_getElem ha, List.getElem?_eq_getElem hb] at he
  simp only [Option.getD_some] at he
  have hp := List.pairwise_iff_getElem.1 h
  rcases Nat.lt_trichotomy a b with k | k | k
  · have := hp a b ha hb k; rw [he] at this; exact absurd this (ltP_irrefl _)
  · exact k
  · have := hp b a hb ha k; rw [he] at this; exact absurd this (ltP_irrefl _)
/-- Points in strict order, edges between them that make a figure. -/
structure Laid (P : List Pt) (E : List (Nat × Nat)) : Prop where
  strict : StrictP P
  ends : ∀ i, i < E.length → (E.getD i (0, 0)).1 < P.length ∧ (E.getD i (0, 0)).2 < P.length
  fig : Figure E.length (eS P E)
theorem Laid.tail (h : Laid P E) {d : Nat} (hd : d < 2 * E.length) : dTail E d < P.length ∧ dHead E d < P.length := by
  have := h.ends (d / 2) (by omega)
  unfold dTail dHead
  split
  · exact this
  · exact ⟨this.2, this.1⟩
theorem Laid.tail_eq (h : Laid P E) {d d' : Nat} (hd : d < 2 * E.length) (hd' : d' < 2 * E.length) (he : dFrom (eS P E) d = dFrom (eS P E) d') : dTail E d = dTail E d' := by
  rw [dFrom_tail, dFrom_tail] at he
  exact strict_inj h.strict (h.tail hd).1 (h.tail hd').1 he
def Leaves (E : List (Nat × Nat)) (p d : Nat) : Prop := d < 2 * E.length ∧ dTail E d = p
theorem Laid.lin (h : Laid P E) (p : Nat) : LinB (Leaves E p) (angB P E) := by
  refine ⟨fun x y _ _ k => ?_, fun x y z _ _ _ k1 k2 => ?_, fun x y hx hy hn => ?_⟩
  · unfold angB at *; rw [decide_eq_true_eq] at k; rw [decide_eq_false_iff_not]; exact ang_asymm k
  · unfold angB at *; rw [decide_eq_true_eq] at *; exact ang_trans k1 k2
  · unfold angB
    rw [decide_eq_true_eq, decide_eq_true_eq]
    exact dart_tri h.fig hx.1 hy.1 hn (by rw [dFrom_tail, dFrom_tail, hx.2, hy.2])
theorem Laid.lt_iff (h : Laid P E) (p : Nat) {s t : Nat} (hs : s < (outF P E p).length) (ht : t < (outF P E p).length) : angLt (dDir (eS P E) (outF P E p)[s]) (dDir (eS P E) (outF P E p)[t]) ↔ s < t := by
  have hr : Rise (angB P E) (outF P E p) := isort_rise (h.lin p) fun y hy => by
    rw [List.mem_filter, List.mem_range] at hy
    exact ⟨hy.1, by simpa using hy.2⟩
  have hlt : ∀ s t (hs : s < (outF P E p).length) (ht : t < (outF P E p).length), s < t → angLt (dDir (eS P E) (outF P E p)[s]) (dDir (eS P E) (outF P E p)[t]) := by
    intro s t hs ht hst
    have h1 := List.pairwise_iff_getElem.1 hr s t hs ht hst
    unfold angB at h1
    rw [decide_eq_false_iff_not] at h1
    have hne : (outF P E p)[s] ≠ (outF P E p)[t] := fun e => by have := nodup_inj (out_nodup p) hs ht e; omega
    have m1 := out_mem.1 (List.getElem_mem hs)
    have m2 := out_mem.1 (List.getElem_mem ht)
    exact (dart_tri h.fig m1.1 m2.1 hne (by rw [dFrom_tail, dFrom_tail, m1.2, m2.2])).resolve_right h1
  refine ⟨fun k => ?_, hlt s t hs ht⟩
  rcases Nat.lt_trichotomy s t with g | g | g
  · exact g
  · subst g; exact absurd k (ang_irrefl _)
  · exact absurd k (ang_asymm (hlt t s ht hs g))
theorem Laid.pred (h : Laid P E) {d : Nat} (hd : d < 2 * E.length) : Pred E.length (eS P E) (nxtF P E d) (dRev d) := by
  obtain ⟨i, hi, r1, h2, e1⟩ := nxt_place (P := P) hd
  have hall : ∀ j, j < 2 * E.length → dFrom (eS P E) j = dFrom (eS P E) (dRev d) → ∃ t, ∃ ht : t < (outF P E (dHead E d)).length, (outF P E (dHead E d))[t] = j := by
    intro j hj he
    have := h.tail_eq hj (dRev_lt' hd) he
    rw [dTail_rev] at this
    exact List.mem_iff_getElem.1 (out_mem.2 ⟨hj, this⟩)
  rw [e1, ← r1]
  rw [← r1] at hall
  by_cases h0 : i = 0
  · right
    intro j hj he
    obtain ⟨t, ht, rfl⟩ := hall j hj he
    rw [h.lt_iff _ h2 ht, h.lt_iff _ ht hi]
    have e : (i + (outF P E (dHead E d)).length - 1) % (outF P E (dHead E d)).length = (outF P E (dHead E d)).length - 1 := by
      subst h0; rw [Nat.zero_add]; exact Nat.mod_eq_of_lt (by omega)
    rw [e]
    omega
  · left
    intro j hj he
    obtain ⟨t, ht, rfl⟩ := hall j hj he
    rw [h.lt_iff _ h2 ht, h.lt_iff _ ht hi]
    have e : (i + (outF P E (dHead E d)).length - 1) % (outF P E (dHead E d)).length = i - 1 := by
      rw [show i + (outF P E (dHead E d)).length - 1 = i - 1 + (outF P E (dHead E d)).length by omega, Nat.add_mod_right]; exact Nat.mod_eq_of_lt (by omega)
    rw [e]
    omega
/-- Reached from the first point. -/
inductive Reach (E : List (Nat × Nat)) : Nat → Prop
  | zero : Reach E 0
  | step {d : Nat} : Reach E (dTail E d) → d < 2 * E.length → Reach E (dHead E d)
/-- What is the same on the next dart is the same about a point. -/
theorem about_same {D : Nat → Int} (h1 : ∀ d, d < 2 * E.length → D (nxtF P E d) = D d) (h2 : ∀ d, d < 2 * E.length → D (dRev d) = D d) (p : Nat) : ∀ d d', d ∈ outF P E p → d' ∈ outF P E p → D d = D d' := by
  have back : ∀ i (hi : i + 1 < (outF P E p).length), D ((outF P E p)[i]) = D ((outF P E p)[i + 1]) := by
    intro i hi
    have m := out_mem.1 (List.getElem_mem hi)
    obtain ⟨d, hd⟩ : ∃ d, d = dRev (outF P E p)[i + 1] := ⟨_, rfl⟩
    have hdl : d < 2 * E.length := by rw [hd]; exact dRev_lt' m.1
    have hh : dHead E d = p := by rw [hd, dHead_rev, m.2]
    have hr : dRev d = (outF P E p)[i + 1] := by rw [hd, dRev_rev]
    obtain ⟨j, hj, r1, h3, e1⟩ := nxt_place (P := P) hdl
    have key : ∀ l : List Nat, l = outF P E p → ∀ (hj : j < l.length) (h3 : (j + l.length - 1) % l.length < l.length), l[j] = dRev d → l[(j + l.length - 1) % l.length] = (outF P E p)[i] := by
      rintro l rfl hj h3 he
      rw [hr] at he
      have := nodup_inj (out_nodup p) hj hi he
      subst this
      congr 1
      rw [show i + 1 + (outF P E p).length - 1 = i + (outF P E p).length by omega, Nat.add_mod_right]
      exact Nat.mod_eq_of_lt (by omega)
    rw [← key _ (by rw [hh]) hj h3 r1, ← e1, h1 d hdl, ← h2 d hdl, hr]
  have all : ∀ i (hi : i < (outF P E p).length), D ((outF P E p)[i]) = D ((outF P E p)[0]) := by
    intro i
    induction i with
    | zero => intro _; rfl
    | succ i ih => intro hi; rw [← back i hi]; exact ih (by omega)
  intro d d' hd hd'
  obtain ⟨i, hi, rfl⟩ := List.mem_iff_getElem.1 hd
  obtain ⟨j, hj, rfl⟩ := List.mem_iff_getElem.1 hd'
  rw [all i hi, all j hj]
theorem Laid.web (h : Laid P E) (hc : ∀ p, p < P.length → Reach E p) : Web E.length (eS P E) (nxtF P E) := by
  refine ⟨h.fig, fun d hd => (nxt_out hd).1, fun d hd => ?_, fun d hd => h.pred hd, fun f => sm_perm (fun d hd => (nxt_out hd).1) (fun d d' hd hd' => nxt_inj hd hd') f, fun D h1 h2 d d' hd hd' => ?_⟩
  · rw [dFrom_tail, dTo_head, (nxt_out hd).2]
  · have hsame := about_same (P := P) h1 h2
    have hr : ∀ p, Reach E p → ∀ d ∈ outF P E p, ∀ d0 ∈ outF P E 0, D d = D d0 := by
      intro p hp
      induction hp with
      | zero => exact fun d hd d0 hd0 => hsame 0 d d0 hd hd0
      | @step x hx hxl ih =>
        intro d hd d0 hd0
        rw [← ih x (out_mem.2 ⟨hxl, rfl⟩) d0 hd0, ← h2 x hxl]
        exact hsame _ _ _ hd (out_mem.2 ⟨dRev_lt' hxl, dTail_rev x⟩)
    by_cases hz : ∃ d0, d0 ∈ outF P E 0
    · obtain ⟨d0, hd0⟩ := hz
      rw [hr _ (hc _ (h.tail hd).1) d (out_mem.2 ⟨hd, rfl⟩) d0 hd0, hr _ (hc _ (h.tail hd').1) d' (out_mem.2 ⟨hd', rfl⟩) d0 hd0]
    · have h0 : ∀ p, Reach E p → p = 0 := by
        intro p hp
        induction hp with
        | zero => rfl
        | @step x hx hxl ih => exact absurd ⟨x, out_mem.2 ⟨hxl, ih⟩⟩ hz
      exact absurd ⟨d, out_mem.2 ⟨hd, h0 _ (hc _ (h.tail hd).1)⟩⟩ hz
end Go.Proofs.YtlglfcdobbocnaaGreat

/-! Where a one-to-one function leads, again and again: walks. -/
namespace Go.Proofs.YtlglfcdobbocnaaGreat
theorem len_of_sub {α : Type} [DecidableEq α] : ∀ {l m : List α}, l.Nodup → (∀ x ∈ l, x ∈ m) → l.length ≤ m.length
  | [], m, _, _ => Nat.zero_le _
  | x :: l, m, hn, hs => by
    rw [List.nodup_cons] at hn
    have hx : x ∈ m := hs x (by simp)
    have hp := List.perm_cons_erase hx
    have hl := hp.length_eq
    have := len_of_sub (l := l) (m := m.erase x) hn.2 fun y hy => by
      rcases List.mem_cons.1 (hp.mem_iff.1 (hs y (by simp [hy]))) with rfl | k
      · exact absurd hy hn.1
      · exact k
    simp at hl ⊢
    omega
def it (g : Nat → Nat) (d : Nat) : Nat → Nat
  | 0 => d
  | i + 1 => g (it g d i)
theorem it_succ (g : Nat → Nat) (d i : Nat) : it g d (i + 1) = it g (g d) i := by
  induction i with
  | zero => rfl
  | succ i ih => show g (it g d (i + 1)) = g (it g (g d) i); rw [ih]
theorem it_add (g : Nat → Nat) (d i j : Nat) : it g d (i + j) = it g (it g d i) j := by
  induction j with
  | zero => rfl
  | succ j ih => show g (it g d (i + j)) = g (it g (it g d i) j); rw [ih]
/-- A one-to-one function of the numbers before n. -/
structure Inj (n : Nat) (g : Nat → Nat) : Prop where
  lt : ∀ d, d < n → g d < n
  inj : ∀ d d', d < n → d' < n → g d = g d' → d = d'
variable {n : Nat} {g : Nat → Nat}
theorem Inj.it_lt (h : Inj n g) {d : Nat} (hd : d < n) (i : Nat) : it g d i < n := by
  induction i with
  | zero => exact hd
  | succ i ih => exact h.lt _ ih
theorem Inj.cancel (h : Inj n g) {d : Nat} (hd : d < n) {i j : Nat} (e : it g d (i + j) = it g d i) : it g d j = d := by
  induction i with
  | zero => rw [Nat.zero_add] at e; exact e
  | succ i ih =>
    refine ih (h.inj _ _ (h.it_lt hd _) (h.it_lt hd _) ?_)
    have e' : it g d (i + j + 1) = it g d (i + 1) := by rw [← e]; congr 1; omega
    exact e'
/-- It comes back. -/
theorem Inj.period (h : Inj n g) {d : Nat} (hd : d < n) : ∃ k, 0 < k ∧ k ≤ n ∧ it g d k = d ∧ ∀ i, 0 < i → i < k → it g d i ≠ d := by
  have ex : ∃ k, 0 < k ∧ k ≤ n ∧ it g d k = d := by
    apply Classical.byContradiction
    intro hno
    have hn : ((List.range (n + 1)).map (it g d)).Nodup := by
      refine List.nodup_iff_pairwise_ne.2 (List.pairwise_map.2 ?_)
      refine List.pairwise_lt_range.imp_of_mem fun {a b} ha hb hlt e => hno ⟨b - a, by omega, by have := List.mem_range.1 hb; omega, ?_⟩
      exact h.cancel hd (i := a) (j := b - a) (by rw [show a + (b - a) = b by omega]; exact e.symm)
    have := len_of_sub (m := List.range n) hn fun x hx => by
      obtain ⟨i, _, rfl⟩ := List.mem_map.1 hx
      exact List.mem_range.2 (h.it_lt hd i)
    simp at this
    omega
  obtain ⟨k, h1, h2, h3⟩ := ex
  induction k using Nat.strongRecOn with
  | _ k ih =>
    by_cases hm : ∃ i, 0 < i ∧ i < k ∧ it g d i = d
    · obtain ⟨i, i1, i2, i3⟩ := hm
      exact ih i i2 i1 (by omega) i3
    · exact ⟨k, h1, h2, h3, fun i i1 i2 e => hm ⟨i, i1, i2, e⟩⟩
def walkL (g : Nat → Nat) (d : Nat) : Nat → Nat → List Nat
  | 0, _ => []
  | k + 1, x => if x = d then [] else x :: walkL g d k (g x)
/-- The walk that begins with d. -/
def orbF (n : Nat) (g : Nat → Nat) (d : Nat) : List Nat := d :: walkL g d n (g d)
theorem walkL_eq {d k : Nat} (hk : it g d k = d) (hmin : ∀ i, 0 < i → i < k → it g d i ≠ d) : ∀ (f i : Nat), 0 < i → i ≤ k → k ≤ i + f → walkL g d f (it g d i) = (List.range' i (k - i)).map (it g d)
  | 0, i, h1, h2, h3 => by rw [show k - i = 0 by omega]; rfl
  | f + 1, i, h1, h2, h3 => by
    unfold walkL
    by_cases e : i = k
    · subst e
      rw [if_pos hk, show i - i = 0 by omega]
      rfl
    · rw [if_neg (hmin i h1 (by omega)), show k - i = (k - (i + 1)) + 1 by omega, List.range'_succ, List.map_cons]
      congr 1
      exact walkL_eq hk hmin f (i + 1) (by omega) (by omega) (by omega)
theorem orbF_eq {d k : Nat} (h0 : 0 < k) (hkn : k ≤ n) (hk : it g d k = d) (hmin : ∀ i, 0 < i → i < k → it g d i ≠ d) : orbF n g d = (List.range k).map (it g d) := by
  unfold orbF
  rw [show g d = it g d 1 from rfl, walkL_eq hk hmin n 1 (by omega) (by omega) (by omega), List.range_eq_range', show k = k - 1 + 1 by omega, List.range'_succ, List.map_cons]
  simp [it]
structure OrbIs (n : Nat) (g : Nat → Nat) (d : Nat) (l : List Nat) : Prop where
  ex : ∃ k, 0 < k ∧ k ≤ n ∧ it g d k = d ∧ (∀ i, 0 < i → i < k → it g d i ≠ d) ∧ l = (List.range k).map (it g d)
theorem Inj.orb (h : Inj n g) {d : Nat} (hd : d < n) : OrbIs n g d (orbF n g d) := by
  obtain ⟨k, h0, h1, h2, h3⟩ := h.period hd
  exact ⟨k, h0, h1, h2, h3, orbF_eq h0 h1 h2 h3⟩
theorem it_mod {d k : Nat} (h0 : 0 < k) (hk : it g d k = d) (i : Nat) : it g d i = it g d (i % k) := by
  induction i using Nat.strongRecOn with
  | _ i ih =>
    rcases Nat.lt_or_ge i k with c | c
    · rw [Nat.mod_eq_of_lt c]
    · rw [show i = k + (i - k) by omega, it_add, hk, ih (i - k) (by omega), Nat.add_mod_left]
theorem Inj.mem_orb (h : Inj n g) {d : Nat} (hd : d < n) (x : Nat) : x ∈ orbF n g d ↔ ∃ i, x = it g d i := by
  obtain ⟨k, h0, h1, h2, h3, e⟩ := (h.orb hd).ex
  rw [e, List.mem_map]
  constructor
  · rintro ⟨i, _, rfl⟩; exact ⟨i, rfl⟩
  · rintro ⟨i, rfl⟩
    exact ⟨i % k, List.mem_range.2 (Nat.mod_lt _ h0), (it_mod h0 h2 i).symm⟩
theorem Inj.orb_lt (h : Inj n g) {d : Nat} (hd : d < n) {x : Nat} (hx : x ∈ orbF n g d) : x < n := by
  obtain ⟨i, rfl⟩ := (h.mem_orb hd x).1 hx
  exact h.it_lt hd i
theorem Inj.orb_nodup (h : Inj n g) {d : Nat} (hd : d < n) : (orbF n g d).Nodup := by
  obtain ⟨k, h0, h1, h2, h3, e⟩ := (h.orb hd).ex
  rw [e]
  refine List.nodup_iff_pairwise_ne.2 (List.pairwise_map.2 ?_)
  refine List.pairwise_lt_range.imp_of_mem fun {a b} ha hb hlt ee => ?_
  exact h3 (b - a) (by omega) (by have := List.mem_range.1 hb; omega) (h.cancel hd (i := a) (j := b - a) (by rw [show a + (b - a) = b by omega]; exact ee.symm))
theorem orb_self {d : Nat} : d ∈ orbF n g d := by unfold orbF; simp
theorem Inj.orb_len (h : Inj n g) {d : Nat} (hd : d < n) : (orbF n g d).length ≤ n := by
  obtain ⟨k, h0, h1, h2, h3, e⟩ := (h.orb hd).ex
  rw [e]; simpa using h1
/-- The same walk, begun elsewhere. -/
theorem Inj.orb_back (h : Inj n g) {d x : Nat} (hd : d < n) (hx : x ∈ orbF n g d) : d ∈ orbF n g x := by
  obtain ⟨i, rfl⟩ := (h.mem_orb hd x).1 hx
  obtain ⟨k, h0, h1, h2, h3, e⟩ := (h.orb hd).ex
  refine (h.mem_orb (h.it_lt hd i) d).2 ⟨k * (i + 1) - i, ?_⟩
  rw [← it_add, show i + (k * (i + 1) - i) = k * (i + 1) by
    have := Nat.mul_le_mul_right (i + 1) h0
    omega, it_mod h0 h2, Nat.mul_mod_right]
  rfl
theorem Inj.orb_trans (h : Inj n g) {d x y : Nat} (hd : d < n) (hx : x ∈ orbF n g d) (hy : y ∈ orbF n g x) : y ∈ orbF n g d := by
  obtain ⟨i, rfl⟩ := (h.mem_orb hd x).1 hx
  obtain ⟨j, rfl⟩ := (h.mem_orb (h.it_lt hd i) y).1 hy
  exact (h.mem_orb hd _).2 ⟨i + j, by rw [it_add]⟩
theorem Inj.orb_same (h : Inj n g) {d x : Nat} (hd : d < n) (hx : x ∈ orbF n g d) (y : Nat) : y ∈ orbF n g x ↔ y ∈ orbF n g d :=
  ⟨h.orb_trans hd hx, fun hy => h.orb_trans (h.orb_lt hd hx) (h.orb_back hd hx) hy⟩
theorem Inj.orb_next (h : Inj n g) {d : Nat} (hd : d < n) : g d ∈ orbF n g d := (h.mem_orb hd _).2 ⟨1, rfl⟩
theorem orb_D {D : Nat → Int} (h : Inj n g) (hD : ∀ d, d < n → D (g d) = D d) {d x : Nat} (hd : d < n) (hx : x ∈ orbF n g d) : D x = D d := by
  obtain ⟨i, rfl⟩ := (h.mem_orb hd x).1 hx
  induction i with
  | zero => rfl
  | succ i ih =>
    show D (g (it g d i)) = D d
    rw [hD _ (h.it_lt hd i)]
    exact ih ((h.mem_orb hd _).2 ⟨i, rfl⟩)
/-- The sum over a list, as a sum over all. -/
theorem list_sm {n : Nat} {l : List Nat} (hn : l.Nodup) (hl : ∀ x ∈ l, x < n) (f : Nat → Int) : (l.map f).sum = sm n (fun x => ind (x ∈ l) * f x) := by
  have hp : l.Perm ((List.range n).filter fun x => decide (x ∈ l)) := by
    refine perm_of_sub hn (fun x hx => List.mem_filter.2 ⟨List.mem_range.2 (hl x hx), by simpa using hx⟩) ?_
    exact len_of_sub (List.nodup_range.sublist List.filter_sublist) fun x hx => by simpa using (List.mem_filter.1 hx).2
  rw [sum_perm f hp, sm_list]
  have : ∀ (m : List Nat), ((m.filter fun x => decide (x ∈ l)).map f).sum = (m.map fun x => ind (x ∈ l) * f x).sum := by
    intro m
    induction m with
    | nil => rfl
    | cons y m ih =>
      by_cases c : y ∈ l
      · rw [List.filter_cons_of_pos (by simpa using c), List.map_cons, List.map_cons, List.sum_cons, List.sum_cons, ih, ind_true c, Int.one_mul]
      · rw [List.filter_cons_of_neg (by simpa using c), List.map_cons, List.sum_cons, ih, ind_false c, Int.zero_mul, Int.zero_add]
  exact this _
end Go.Proofs.YtlglfcdobbocnaaGreat

/-! Faces given by walks: the numbering of all darts. -/
namespace Go.Proofs.YtlglfcdobbocnaaGreat
/-- A value put at many places. -/
def markF {α : Type} (l : List Nat) (v : α) (s : List α) : List α := l.foldl (fun s x => s.set x v) s
theorem markF_len {α : Type} (l : List Nat) (v : α) : ∀ s : List α, (markF l v s).length = s.length := by
  unfold markF
  induction l with
  | nil => intro s; rfl
  | cons x l ih => intro s; rw [List.foldl_cons, ih]; simp
theorem markF_get {α : Type} (l : List Nat) (v d : α) : ∀ (s : List α) (x : Nat), x < s.length → (markF l v s).getD x d = if x ∈ l then v else s.getD x d := by
  unfold markF
  induction l with
  | nil => intro s x _; simp
  | cons y l ih =>
    intro s x hx
    rw [List.foldl_cons, ih _ _ (by simpa using hx)]
    by_cases h : x ∈ l
    · rw [if_pos h, if_pos (by simp [h])]
    · rw [if_neg h]
      by_cases e : x = y
      · subst e
        rw [if_pos (by simp), List.getD_eq_getElem?_getD, List.getElem?_set_self hx]
        rfl
      · rw [if_neg (by simp [h, e]), List.getD_eq_getElem?_getD, List.getElem?_set_ne (Ne.symm e), List.getD_eq_getElem?_getD]
structure Num where
  face : List Int
  seen : List Bool
  many : Nat
  outside : Nat
  flat : Bool
/-- One dart more. -/
def numStep (n : Nat) (g : Nat → Nat) (A : Nat → Int) (s : Num) (d : Nat) : Num :=
  if s.seen.getD d false = true then s
  else if 0 < A d then { face := markF (orbF n g d) ((s.many + 1 : Nat) : Int) s.face, seen := markF (orbF n g d) true s.seen, many := s.many + 1, outside := s.outside, flat := s.flat }
  else if A d < 0 then { face := markF (orbF n g d) 0 s.face, seen := markF (orbF n g d) true s.seen, many := s.many, outside := s.outside + 1, flat := s.flat }
  else { face := markF (orbF n g d) 0 s.face, seen := markF (orbF n g d) true s.seen, many := s.many, outside := s.outside, flat := true }
def numG (n : Nat) (g : Nat → Nat) (A : Nat → Int) (k : Nat) : Num :=
  (List.range k).foldl (numStep n g A) { face := List.replicate n 0, seen := List.replicate n false, many := 0, outside := 0, flat := false }
theorem numG_succ (n : Nat) (g : Nat → Nat) (A : Nat → Int) (k : Nat) : numG n g A (k + 1) = numStep n g A (numG n g A k) k := by
  unfold numG
  rw [List.range_succ, List.foldl_append]
  rfl
variable {n : Nat} {g : Nat → Nat} {A : Nat → Int}
structure NumOk (n : Nat) (g : Nat → Nat) (A : Nat → Int) (k : Nat) (s : Num) : Prop where
  kn : k ≤ n
  fl : s.face.length = n
  sl : s.seen.length = n
  seen : ∀ x, x < n → (s.seen.getD x false = true ↔ ∃ d, d < k ∧ x ∈ orbF n g d)
  pos : ∀ x, x < n → s.seen.getD x false = true → 0 < A x → 1 ≤ s.face.getD x 0 ∧ s.face.getD x 0 ≤ s.many
  non : ∀ x, x < n → s.seen.getD x false = true → ¬ 0 < A x → s.face.getD x 0 = 0
  same : ∀ x y, x < n → y < n → s.seen.getD y false = true → x ∈ orbF n g y → s.face.getD x 0 = s.face.getD y 0
  apart : ∀ x y, x < n → y < n → s.seen.getD x false = true → s.seen.getD y false = true → 0 < A x → 0 < A y → s.face.getD x 0 = s.face.getD y 0 → x ∈ orbF n g y
  flat : s.flat = false → ∀ x, x < n → s.seen.getD x false = true → A x ≠ 0
  out0 : s.outside = 0 → ∀ x, x < n → s.seen.getD x false = true → ¬ A x < 0
  out1 : s.outside = 1 → ∀ x y, x < n → y < n → s.seen.getD x false = true → s.seen.getD y false = true → A x < 0 → A y < 0 → x ∈ orbF n g y
  all : ∀ f : Nat, 1 ≤ f → f ≤ s.many → ∃ x, x < n ∧ s.seen.getD x false = true ∧ s.face.getD x 0 = f ∧ 0 < A x
theorem NumOk.back (h : Inj n g) {k : Nat} {s : Num} (hs : NumOk n g A k s) {x y : Nat} (hx : x < n) (hy : y < n) (hxy : x ∈ orbF n g y) : s.seen.getD x false = true ↔ s.seen.getD y false = true := by
  rw [hs.seen x hx, hs.seen y hy]
  have kn := hs.kn
  constructor
  · rintro ⟨d, hd, hb⟩
    exact ⟨d, hd, h.orb_trans (by omega) hb (h.orb_back hy hxy)⟩
  · rintro ⟨d, hd, hb⟩
    exact ⟨d, hd, h.orb_trans (by omega) hb hxy⟩
theorem numOk_zero (n : Nat) (g : Nat → Nat) (A : Nat → Int) : NumOk n g A 0 (numG n g A 0) := by
  have hf : ∀ x, (numG n g A 0).seen.getD x false = true → False := by
    intro x hx
    unfold numG at hx
    simp only [List.range_zero, List.foldl_nil] at hx
    rw [List.getD_eq_getElem?_getD, List.getElem?_replicate] at hx
    split at hx <;> simp at hx
  refine ⟨Nat.zero_le _, by simp [numG], by simp [numG], fun x hx => ⟨fun k => (hf x k).elim, fun ⟨d, hd, _⟩ => by omega⟩, fun x _ k => (hf x k).elim, fun x _ k => (hf x k).elim, fun x y _ _ k => (hf y k).elim, fun x y _ _ k => (hf x k).elim, fun _ x _ k => (hf x k).elim, fun _ x _ k => (hf x k).elim, fun _ x y _ _ k => (hf x k).elim, fun f h1 h2 => ?_⟩
  simp [numG] at h2
  omega
/-- A new walk. -/
theorem NumOk.add (h : Inj n g) (hA : ∀ d x, d < n → x ∈ orbF n g d → A x = A d) {k : Nat} {s : Num} (hs : NumOk n g A k s) (hk : k < n) (hu : ¬ s.seen.getD k false = true) (s' : Num) (v : Int)
    (e1 : s'.face = markF (orbF n g k) v s.face) (e2 : s'.seen = markF (orbF n g k) true s.seen)
    (hc : (0 < A k ∧ v = (s.many + 1 : Nat) ∧ s'.many = s.many + 1 ∧ s'.outside = s.outside ∧ s'.flat = s.flat) ∨ (A k < 0 ∧ v = 0 ∧ s'.many = s.many ∧ s'.outside = s.outside + 1 ∧ s'.flat = s.flat) ∨ (A k = 0 ∧ v = 0 ∧ s'.many = s.many ∧ s'.outside = s.outside ∧ s'.flat = true)) : NumOk n g A (k + 1) s' := by
  have ef : ∀ x, x < n → s'.face.getD x 0 = if x ∈ orbF n g k then v else s.face.getD x 0 := fun x hx => by rw [e1, markF_get _ _ _ _ _ (by rw [hs.fl]; exact hx)]
  have es : ∀ x, x < n → (s'.seen.getD x false = true ↔ s.seen.getD x false = true ∨ x ∈ orbF n g k) := fun x hx => by
    rw [e2, markF_get _ _ _ _ _ (by rw [hs.sl]; exact hx)]
    by_cases c : x ∈ orbF n g k
    · rw [if_pos c]; simp [c]
    · rw [if_neg c]; simp [c]
  have new : ∀ x, x < n → x ∈ orbF n g k → ¬ s.seen.getD x false = true := fun x hx hm hh => hu ((hs.back h hx hk hm).1 hh)
  have old : ∀ x, x < n → s.seen.getD x false = true → x ∉ orbF n g k := fun x hx hh hm => new x hx hm hh
  have hm : s.many ≤ s'.many := by rcases hc with ⟨_, _, e, _⟩ | ⟨_, _, e, _⟩ | ⟨_, _, e, _⟩ <;> omega
  have kn := hs.kn
  refine ⟨by omega, by rw [e1, markF_len, hs.fl], by rw [e2, markF_len, hs.sl], ?_, ?_, ?_, ?_, ?_, ?_, ?_, ?_, ?_⟩
  · intro x hx
    rw [es x hx, hs.seen x hx]
    constructor
    · rintro (⟨d, hd, hm⟩ | hm)
      · exact ⟨d, by omega, hm⟩
      · exact ⟨k, by omega, hm⟩
    · rintro ⟨d, hd, hm⟩
      by_cases c : d = k
      · subst c; exact .inr hm
      · exact .inl ⟨d, by omega, hm⟩
  · intro x hx hh ha
    rw [ef x hx]
    rcases (es x hx).1 hh with c | c
    · rw [if_neg (old x hx c)]
      have := hs.pos x hx c ha
      omega
    · rw [if_pos c]
      rw [hA k x hk c] at ha
      rcases hc with ⟨_, e, e', _⟩ | ⟨_, _, _, _⟩ | ⟨_, _, _, _⟩ <;> omega
  · intro x hx hh ha
    rw [ef x hx]
    rcases (es x hx).1 hh with c | c
    · rw [if_neg (old x hx c)]
      exact hs.non x hx c ha
    · rw [if_pos c]
      rw [hA k x hk c] at ha
      rcases hc with ⟨_, e, e', _⟩ | ⟨_, _, _, _⟩ | ⟨_, _, _, _⟩ <;> omega
  · intro x y hx hy hh hxy
    rw [ef x hx, ef y hy]
    by_cases c : y ∈ orbF n g k
    · rw [if_pos c, if_pos (h.orb_trans hk c hxy)]
    · rw [if_neg c, if_neg (fun c2 => c (h.orb_trans hk c2 (h.orb_back hy hxy)))]
      rcases (es y hy).1 hh with c2 | c2
      · exact hs.same x y hx hy c2 hxy
      · exact absurd c2 c
  · intro x y hx hy hhx hhy hax hay he
    rw [ef x hx, ef y hy] at he
    rcases (es x hx).1 hhx with cx | cx <;> rcases (es y hy).1 hhy with cy | cy
    · rw [if_neg (old x hx cx), if_neg (old y hy cy)] at he
      exact hs.apart x y hx hy cx cy hax hay he
    · rw [if_neg (old x hx cx), if_pos cy] at he
      have := hs.pos x hx cx hax
      rw [hA k y hk cy] at hay
      rcases hc with ⟨_, e, e', _⟩ | ⟨_, _, _, _⟩ | ⟨_, _, _, _⟩ <;> omega
    · rw [if_pos cx, if_neg (old y hy cy)] at he
      have := hs.pos y hy cy hay
      rw [hA k x hk cx] at hax
      rcases hc with ⟨_, e, e', _⟩ | ⟨_, _, _, _⟩ | ⟨_, _, _, _⟩ <;> omega
    · exact h.orb_trans hy (h.orb_back hk cy) cx
  · intro hfl x hx hh
    rcases (es x hx).1 hh with c | c
    · refine hs.flat ?_ x hx c
      rcases hc with ⟨_, _, _, _, e⟩ | ⟨_, _, _, _, e⟩ | ⟨_, _, _, _, e⟩
      · rw [← e]; exact hfl
      · rw [← e]; exact hfl
      · rw [hfl] at e; cases e
    · rw [hA k x hk c]
      rcases hc with ⟨_, _, _, _, e⟩ | ⟨_, _, _, _, e⟩ | ⟨_, _, _, _, e⟩
      · omega
      · omega
      · rw [hfl] at e; cases e
  · intro ho x hx hh
    rcases (es x hx).1 hh with c | c
    · refine hs.out0 ?_ x hx c
      rcases hc with ⟨_, _, _, e, _⟩ | ⟨_, _, _, e, _⟩ | ⟨_, _, _, e, _⟩ <;> omega
    · rw [hA k x hk c]
      rcases hc with ⟨_, _, _, e, _⟩ | ⟨_, _, _, e, _⟩ | ⟨_, _, _, e, _⟩ <;> omega
  · intro ho x y hx hy hhx hhy hax hay
    have old0 : A k < 0 → ∀ z, z < n → s.seen.getD z false = true → ¬ A z < 0 := fun hk0 z hz hh => by
      refine hs.out0 ?_ z hz hh
      rcases hc with ⟨_, _, _, e, _⟩ | ⟨_, _, _, e, _⟩ | ⟨_, _, _, e, _⟩ <;> omega
    rcases (es x hx).1 hhx with cx | cx <;> rcases (es y hy).1 hhy with cy | cy
    · by_cases c : A k < 0
      · exact absurd hax (old0 c x hx cx)
      · refine hs.out1 ?_ x y hx hy cx cy hax hay
        rcases hc with ⟨_, _, _, e, _⟩ | ⟨_, _, _, e, _⟩ | ⟨_, _, _, e, _⟩ <;> omega
    · rw [hA k y hk cy] at hay
      exact absurd hax (old0 hay x hx cx)
    · rw [hA k x hk cx] at hax
      exact absurd hay (old0 hax y hy cy)
    · exact h.orb_trans hy (h.orb_back hk cy) cx
  · intro f h1 h2
    by_cases c : f ≤ s.many
    · obtain ⟨x, hx, hh, hf, ha⟩ := hs.all f h1 c
      exact ⟨x, hx, (es x hx).2 (.inl hh), by rw [ef x hx, if_neg (old x hx hh)]; exact hf, ha⟩
    · refine ⟨k, hk, (es k hk).2 (.inr orb_self), ?_, ?_⟩
      · rw [ef k hk, if_pos orb_self]
        rcases hc with ⟨_, e, e', _⟩ | ⟨_, _, _, _⟩ | ⟨_, _, _, _⟩ <;> omega
      · rcases hc with ⟨_, e, e', _⟩ | ⟨_, _, _, _⟩ | ⟨_, _, _, _⟩ <;> omega
theorem numOk_step (h : Inj n g) (hA : ∀ d x, d < n → x ∈ orbF n g d → A x = A d) {k : Nat} {s : Num} (hs : NumOk n g A k s) (hk : k < n) : NumOk n g A (k + 1) (numStep n g A s k) := by
  unfold numStep
  by_cases c : s.seen.getD k false = true
  · rw [if_pos c]
    have kn := hs.kn
    refine ⟨by omega, hs.fl, hs.sl, fun x hx => ?_, hs.pos, hs.non, hs.same, hs.apart, hs.flat, hs.out0, hs.out1, hs.all⟩
    rw [hs.seen x hx]
    constructor
    · rintro ⟨d, hd, hm⟩; exact ⟨d, by omega, hm⟩
    · rintro ⟨d, hd, hm⟩
      by_cases e : d = k
      · subst e
        obtain ⟨d', hd', hm'⟩ := (hs.seen d hk).1 c
        exact ⟨d', hd', h.orb_trans (by omega) hm' hm⟩
      · exact ⟨d, by omega, hm⟩
  · rw [if_neg c]
    split
    · exact hs.add h hA hk c _ _ rfl rfl (.inl ⟨by assumption, rfl, rfl, rfl, rfl⟩)
    · split
      · exact hs.add h hA hk c _ _ rfl rfl (.inr (.inl ⟨by assumption, rfl, rfl, rfl, rfl⟩))
      · exact hs.add h hA hk c _ _ rfl rfl (.inr (.inr ⟨by omega, rfl, rfl, rfl, rfl⟩))
theorem numOk_all (h : Inj n g) (hA : ∀ d x, d < n → x ∈ orbF n g d → A x = A d) : ∀ k, k ≤ n → NumOk n g A k (numG n g A k) := by
  intro k
  induction k with
  | zero => exact fun _ => numOk_zero n g A
  | succ k ih => intro hk; rw [numG_succ]; exact numOk_step h hA (ih (by omega)) (by omega)
/-- One outside, none flat: the faces are the walks. -/
structure Faces (n : Nat) (g : Nat → Nat) (A : Nat → Int) (face : Nat → Int) (many : Nat) : Prop where
  le : ∀ d, d < n → 0 ≤ face d ∧ face d ≤ many
  pos : ∀ d, d < n → (face d ≠ 0 ↔ 0 < A d)
  same : ∀ x y, x < n → y < n → (face x = face y ↔ x ∈ orbF n g y)
  all : ∀ f : Nat, 1 ≤ f → f ≤ many → ∃ x, x < n ∧ face x = f
theorem num_faces (h : Inj n g) (hA : ∀ d x, d < n → x ∈ orbF n g d → A x = A d) (ho : (numG n g A n).outside = 1) (hf : (numG n g A n).flat = false) : Faces n g A (fun d => (numG n g A n).face.getD d 0) (numG n g A n).many := by
  have hs := numOk_all h hA n (Nat.le_refl _)
  have hsn : ∀ x, x < n → (numG n g A n).seen.getD x false = true := fun x hx => (hs.seen x hx).2 ⟨x, hx, orb_self⟩
  have hpos : ∀ d, d < n → ((numG n g A n).face.getD d 0 ≠ 0 ↔ 0 < A d) := by
    intro d hd
    constructor
    · intro hn
      apply Classical.byContradiction
      intro c
      exact hn (hs.non d hd (hsn d hd) c)
    · intro c e
      have := hs.pos d hd (hsn d hd) c
      omega
  refine ⟨fun d hd => ?_, hpos, fun x y hx hy => ⟨fun e => ?_, fun e => hs.same x y hx hy (hsn y hy) e⟩, fun f h1 h2 => ?_⟩
  · by_cases c : 0 < A d
    · have := hs.pos d hd (hsn d hd) c
      omega
    · have := hs.non d hd (hsn d hd) c
      omega
  · by_cases c : 0 < A x
    · refine hs.apart x y hx hy (hsn x hx) (hsn y hy) c ?_ e
      rw [← hpos y hy, ← e]
      exact (hpos x hx).2 c
    · have c2 : ¬ 0 < A y := by
        rw [← hpos y hy, ← e]
        exact fun k => c ((hpos x hx).1 k)
      have a1 := hs.flat hf x hx (hsn x hx)
      have a2 := hs.flat hf y hy (hsn y hy)
      exact hs.out1 ho x y hx hy (hsn x hx) (hsn y hy) (by omega) (by omega)
  · obtain ⟨x, hx, _, e, _⟩ := hs.all f h1 h2
    exact ⟨x, hx, e⟩
end Go.Proofs.YtlglfcdobbocnaaGreat

/-! Of a connected web with one outside: its faces. -/
namespace Go.Proofs.YtlglfcdobbocnaaGreat
variable {P : List Pt} {E : List (Nat × Nat)}
section
variable (P : List Pt) (E : List (Nat × Nat))
/-- The doubled area of darts. -/
def areaW (l : List Nat) : Int := (l.map fun d => crossP (dFrom (eS P E) d) (dTo (eS P E) d)).sum
def orbE (d : Nat) : List Nat := orbF (2 * E.length) (nxtF P E) d
def numE (k : Nat) : Num := numG (2 * E.length) (nxtF P E) (fun d => areaW P E (orbE P E d)) k
def faceE (d : Nat) : Int := (numE P E (2 * E.length)).face.getD d 0
end
theorem inj_nxt (P : List Pt) (E : List (Nat × Nat)) : Inj (2 * E.length) (nxtF P E) := ⟨fun _ hd => (nxt_out hd).1, fun _ _ hd hd' h => nxt_inj hd hd' h⟩
theorem areaW_sm {d : Nat} (hd : d < 2 * E.length) : areaW P E (orbE P E d) = sm (2 * E.length) (fun x => ind (x ∈ orbE P E d) * crossP (dFrom (eS P E) x) (dTo (eS P E) x)) := by
  unfold areaW
  exact list_sm ((inj_nxt P E).orb_nodup hd) (fun x hx => (inj_nxt P E).orb_lt hd hx) _
theorem areaW_same {d x : Nat} (hd : d < 2 * E.length) (hx : x ∈ orbE P E d) : areaW P E (orbE P E x) = areaW P E (orbE P E d) := by
  unfold orbE at hx
  rw [areaW_sm hd, areaW_sm ((inj_nxt P E).orb_lt hd hx)]
  unfold orbE
  refine sm_congr fun y _ => ?_
  rw [ind_congr ((inj_nxt P E).orb_same hd hx y)]
theorem numE_ok (P : List Pt) (E : List (Nat × Nat)) (k : Nat) (hk : k ≤ 2 * E.length) : NumOk (2 * E.length) (nxtF P E) (fun d => areaW P E (orbE P E d)) k (numE P E k) :=
  numOk_all (inj_nxt P E) (fun _ _ hd hx => areaW_same hd hx) k hk
/-- One outside, nothing flat, a face at least. -/
structure Sound (P : List Pt) (E : List (Nat × Nat)) : Prop where
  laid : Laid P E
  reach : ∀ p, p < P.length → Reach E p
  outside : (numE P E (2 * E.length)).outside = 1
  flat : (numE P E (2 * E.length)).flat = false
  many : 1 ≤ (numE P E (2 * E.length)).many
  ok : ∀ x ∈ P, okB x = true
theorem Sound.faces (h : Sound P E) : Faces (2 * E.length) (nxtF P E) (fun d => areaW P E (orbE P E d)) (faceE P E) (numE P E (2 * E.length)).many :=
  num_faces (inj_nxt P E) (fun _ _ hd hx => areaW_same hd hx) h.outside h.flat
theorem Sound.web (h : Sound P E) : Web E.length (eS P E) (nxtF P E) := h.laid.web h.reach
theorem okB_iff (p : Pt) : okB p = true ↔ 0 ≤ p.1 ∧ p.1 ≤ 10000 ∧ 0 ≤ p.2 ∧ p.2 ≤ 10000 := by
  unfold okB
  simp [and_assoc]
theorem getD_mem {α : Type} {l : List α} {i : Nat} (d : α) (h : i < l.length) : l.getD i d ∈ l := by
  rw [List.getD_eq_getElem?_getD, List.getElem?_eq_getElem h]
  exact List.getElem_mem h
theorem Sound.ends (h : Sound P E) {i : Nat} (hi : i < E.length) : okB (eS P E i).1 = true ∧ okB (eS P E i).2 = true :=
  ⟨h.ok _ (getD_mem _ (h.laid.ends i hi).1), h.ok _ (getD_mem _ (h.laid.ends i hi).2)⟩
theorem Sound.faced (h : Sound P E) : Faced E.length (eS P E) (nxtF P E) (faceE P E) := by
  have hf := h.faces
  refine ⟨h.web, fun d hd => ?_, fun d hd hn => ?_, ?_, ⟨10000, fun i hi => ?_⟩⟩
  · exact (hf.same _ _ (nxt_out hd).1 hd).2 ((inj_nxt P E).orb_next hd)
  · have hp := (hf.pos d hd).1 hn

    rw [areaW_sm hd] at hp
    rw [sm_congr (g := fun x => ind (x ∈ orbE P E d) * crossP (dFrom (eS P E) x) (dTo (eS P E) x)) (fun x hx => by
      rw [ind_congr (hf.same x d hx hd)]
      rfl)]
    exact hp
  · obtain ⟨x, hx, e⟩ := hf.all 1 (Nat.le_refl _) h.many
    exact ⟨x, hx, by rw [e]; decide⟩
  · have := h.ends hi
    rw [okB_iff, okB_iff] at this
    omega
theorem Sound.orb (h : Sound P E) (D : Nat → Int) (hD : ∀ d, d < 2 * E.length → D (nxtF P E d) = D d) (d d' : Nat) (hd : d < 2 * E.length) (hd' : d' < 2 * E.length) (he : faceE P E d = faceE P E d') : D d = D d' :=
  orb_D (inj_nxt P E) hD hd' ((h.faces.same d d' hd hd').1 he)
/-- The walk round a face: its crossings are odd just where the point is in it. -/
theorem Sound.ring (h : Sound P E) {d : Nat} (hd : d < 2 * E.length) (hz : faceE P E d ≠ 0) {p : Pt} (hn : ∀ i, i < E.length → ¬ OnS p (eS P E i)) {a : Int} (ha : AtIs E.length (eS P E) (faceE P E) p a) :
    Par (((orbE P E d).map fun x => ind (Hc p (dFrom (eS P E) x) (dTo (eS P E) x))).sum) (ind (a = faceE P E d)) := by
  have := h.faced.cross hz hn ha
  unfold orbE
  rw [list_sm ((inj_nxt P E).orb_nodup hd) (fun x hx => (inj_nxt P E).orb_lt hd hx)]
  rw [sm_congr (g := fun x => ind (x ∈ orbF (2 * E.length) (nxtF P E) d) * ind (Hc p (dFrom (eS P E) x) (dTo (eS P E) x))) (fun x hx => by
      rw [ind_congr (h.faces.same x d hx hd)])] at this
  exact this
end Go.Proofs.YtlglfcdobbocnaaGreat

/-! A list of segments cut where their ends lie on one another. -/
namespace Go.Proofs.YtlglfcdobbocnaaGreat
/-- The points behind the first end at which a segment is cut. -/
def stopsC (s : Sg) (at_ : List Pt) : List Pt := uniP (at_.filter fun x => insideB x s) ++ [s.2]
def chainS : Pt → List Pt → List Sg
  | _, [] => []
  | a, x :: l => (a, x) :: chainS x l
/-- faces.cut. -/
def cutF (s : Sg) (at_ : List Pt) : List Sg := chainS s.1 (stopsC s at_)
def endsS (S : List Sg) : List Pt := S.flatMap fun s => [s.1, s.2]
def sgAt (S : List Sg) (i : Nat) : Sg := S.getD i ((0, 0), (0, 0))
def ptAt (l : List Pt) (i : Nat) : Pt := l.getD i (0, 0)
def cutR (S : List Sg) (i : Nat) : Nat := (stopsC (sgAt S i) (endsS S)).length
def cutQ (S : List Sg) (i j : Nat) : Pt := ptAt ((sgAt S i).1 :: stopsC (sgAt S i) (endsS S)) j
theorem sgAt_mem {S : List Sg} {i : Nat} (h : i < S.length) : sgAt S i ∈ S := getD_mem _ h
theorem sgAt_get {S : List Sg} {i : Nat} (h : i < S.length) : sgAt S i = S[i] := by
  unfold sgAt
  rw [List.getD_eq_getElem?_getD, List.getElem?_eq_getElem h]
  rfl
theorem ptAt_get {S : List Pt} {i : Nat} (h : i < S.length) : ptAt S i = S[i] := by
  unfold ptAt
  rw [List.getD_eq_getElem?_getD, List.getElem?_eq_getElem h]
  rfl
theorem mem_endsS {S : List Sg} {z : Pt} : z ∈ endsS S ↔ ∃ i, i < S.length ∧ (z = (sgAt S i).1 ∨ z = (sgAt S i).2) := by
  unfold endsS
  rw [List.mem_flatMap]
  constructor
  · rintro ⟨s, hs, hz⟩
    obtain ⟨i, hi, rfl⟩ := List.mem_iff_getElem.1 hs
    refine ⟨i, hi, ?_⟩
    rw [sgAt_get hi]
    simpa using hz
  · rintro ⟨i, hi, hz⟩
    exact ⟨sgAt S i, sgAt_mem hi, by simpa using hz⟩
theorem insideB_iff {x : Pt} {s : Sg} (hs : ltP s.1 s.2) : insideB x s = true ↔ Inside x s := by
  unfold insideB onB
  simp only [Bool.and_eq_true, decide_eq_true_eq]
  unfold OnS Inside
  rw [ends_lt hs]
  constructor
  · rintro ⟨⟨h1, h2⟩, h3, h4, h5⟩
    exact ⟨h3, (ltP_total (Ne.symm h1)).resolve_right h4, (ltP_total h2).resolve_right h5⟩
  · rintro ⟨h1, h2, h3⟩
    exact ⟨⟨fun e => ltP_irrefl _ (e ▸ h2), fun e => ltP_irrefl _ (e ▸ h3)⟩, h1, ltP_asymm h2, ltP_asymm h3⟩
theorem mem_stopsC {s : Sg} (hs : ltP s.1 s.2) {l : List Pt} {z : Pt} : z ∈ stopsC s l ↔ (z ∈ l ∧ Inside z s) ∨ z = s.2 := by
  unfold stopsC
  rw [List.mem_append, uniP_mem, List.mem_filter, insideB_iff hs, List.mem_singleton]
theorem stopsC_strict {s : Sg} (hs : ltP s.1 s.2) (l : List Pt) : StrictP (s.1 :: stopsC s l) := by
  unfold StrictP
  rw [List.pairwise_cons]
  refine ⟨fun z hz => ?_, ?_⟩
  · rcases (mem_stopsC hs).1 hz with ⟨_, k⟩ | rfl
    · exact k.2.1
    · exact hs
  · unfold stopsC
    rw [List.pairwise_append]
    refine ⟨uniP_strict _, by simp, fun a ha b hb => ?_⟩
    rw [uniP_mem, List.mem_filter, insideB_iff hs] at ha
    rw [List.mem_singleton] at hb
    subst hb
    exact ha.2.2.2
theorem stopsC_line {s : Sg} (hs : ltP s.1 s.2) {l : List Pt} {z : Pt} (hz : z ∈ s.1 :: stopsC s l) : cr s.1 s.2 z = 0 := by
  rcases List.mem_cons.1 hz with rfl | hz
  · exact cr_self1 _ _
  rcases (mem_stopsC hs).1 hz with ⟨_, k⟩ | rfl
  · exact k.1
  · exact cr_self2 _ _
structure CutOk (S : List Sg) : Prop where
  lt : ∀ s ∈ S, ltP s.1 s.2
  meet : ∀ i i', i < S.length → i' < S.length → i ≠ i' → meetF (sgAt S i) (sgAt S i') ≠ 3 ∧ meetF (sgAt S i) (sgAt S i') ≠ 4
theorem cutQ_mem {S : List Sg} {i j : Nat} (hj : j ≤ cutR S i) : cutQ S i j ∈ (sgAt S i).1 :: stopsC (sgAt S i) (endsS S) := by
  unfold cutQ ptAt
  exact getD_mem _ (by unfold cutR at hj; simp; omega)
theorem CutOk.cut {S : List Sg} (h : CutOk S) : Cut S.length (sgAt S) (cutR S) (cutQ S) := by
  have lt : ∀ i, i < S.length → ltP (sgAt S i).1 (sgAt S i).2 := fun i hi => h.lt _ (sgAt_mem hi)
  refine ⟨lt, fun i hi => rfl, fun i hi => ?_, fun i hi j hj => ?_, fun i hi j hj => stopsC_line (lt i hi) (cutQ_mem hj), fun i hi j hj => ?_, fun i i' hi hi' z hz hin => ?_, h.meet⟩
  · unfold cutQ cutR stopsC
    rw [List.length_append, List.length_singleton, ptAt_get (by simp)]
    simp
  · have hs := List.pairwise_iff_getElem.1 (stopsC_strict (lt i hi) (endsS S))
    unfold cutR at hj
    unfold cutQ
    rw [ptAt_get (by simp; omega), ptAt_get (by simp; omega)]
    exact hs j (j + 1) (by simp; omega) (by simp; omega) (by omega)
  · rcases List.mem_cons.1 (cutQ_mem hj) with e | hz
    · exact ⟨i, hi, .inl e⟩
    rcases (mem_stopsC (lt i hi)).1 hz with ⟨k, _⟩ | e
    · exact mem_endsS.1 k
    · exact ⟨i, hi, .inr e⟩
  · have : z ∈ stopsC (sgAt S i) (endsS S) := (mem_stopsC (lt i hi)).2 (.inl ⟨mem_endsS.2 ⟨i', hi', hz⟩, hin⟩)
    obtain ⟨j, hj, e⟩ := List.mem_iff_getElem.1 this
    refine ⟨j + 1, by unfold cutR; omega, ?_⟩
    unfold cutQ
    rw [ptAt_get (by simp; omega)]
    simp [e]
theorem chainS_sum (f : Sg → Int) : ∀ (a : Pt) (l : List Pt), ((chainS a l).map f).sum = sm l.length (fun j => f (ptAt (a :: l) j, ptAt (a :: l) (j + 1)))
  | a, [] => rfl
  | a, x :: l => by
    unfold chainS
    rw [List.map_cons, List.sum_cons, chainS_sum f x l, sm_list, sm_list, List.length_cons, List.range_succ_eq_map, List.map_cons, List.sum_cons, List.map_map]
    rfl
theorem chainS_mem : ∀ (a : Pt) (l : List Pt) (s : Sg), s ∈ chainS a l ↔ ∃ j, j < l.length ∧ s = (ptAt (a :: l) j, ptAt (a :: l) (j + 1))
  | a, [], s => by simp [chainS]
  | a, x :: l, s => by
    unfold chainS
    rw [List.mem_cons, chainS_mem x l s]
    constructor
    · rintro (rfl | ⟨j, hj, rfl⟩)
      · exact ⟨0, by simp, rfl⟩
      · exact ⟨j + 1, by simpa using hj, rfl⟩
    · rintro ⟨j, hj, rfl⟩
      match j, hj with
      | 0, _ => exact .inl rfl
      | j + 1, hj => exact .inr ⟨j, by simpa using hj, rfl⟩
theorem mem_cutF {S : List Sg} {i : Nat} {s : Sg} : s ∈ cutF (sgAt S i) (endsS S) ↔ ∃ j, j < cutR S i ∧ s = pc (cutQ S) i j := by
  unfold cutF
  rw [chainS_mem]
  rfl
theorem chain_nodup : ∀ {a : Pt} {l : List Pt}, StrictP (a :: l) → (chainS a l).Nodup
  | a, [], _ => by simp [chainS]
  | a, x :: l, h => by
    unfold StrictP at h
    rw [List.pairwise_cons] at h
    unfold chainS
    rw [List.nodup_cons]
    refine ⟨fun hm => ?_, chain_nodup h.2⟩
    obtain ⟨j, hj, e⟩ := (chainS_mem _ _ _).1 hm
    have e1 : a = ptAt (x :: l) j := congrArg Prod.fst e
    have : ptAt (x :: l) j ∈ x :: l := getD_mem _ (by simp; omega)
    have := h.1 _ this
    rw [← e1] at this
    exact ltP_irrefl _ this
/-- All pieces. -/
def cutsS (S : List Sg) : List Sg := S.flatMap fun s => cutF s (endsS S)
theorem map_sgAt (S : List Sg) : (List.range S.length).map (sgAt S) = S := by
  apply List.ext_getElem
  · simp
  · intro i h1 h2
    rw [List.getElem_map, List.getElem_range, sgAt_get h2]
theorem CutOk.nodup {S : List Sg} (h : CutOk S) : (cutsS S).Nodup := by
  have hc := h.cut
  unfold cutsS
  rw [← map_sgAt S, List.flatMap_map, map_sgAt, List.nodup_iff_pairwise_ne, List.pairwise_flatMap]
  refine ⟨fun i hi => ?_, ?_⟩
  · exact List.nodup_iff_pairwise_ne.1 (chain_nodup (stopsC_strict (h.lt _ (sgAt_mem (List.mem_range.1 hi))) _))
  · refine (List.nodup_iff_pairwise_ne.1 List.nodup_range).imp_of_mem fun {i i'} hi hi' hne x hx y hy e => ?_
    obtain ⟨j, hj, rfl⟩ := mem_cutF.1 hx
    obtain ⟨j', hj', rfl⟩ := mem_cutF.1 hy
    exact hne (hc.pc_inj (List.mem_range.1 hi) hj (List.mem_range.1 hi') hj' e).1
theorem cuts_sum (S : List Sg) (f : Sg → Int) : ((cutsS S).map f).sum = sm S.length (fun i => sm (cutR S i) (fun j => f (pc (cutQ S) i j))) := by
  have key : ∀ (T : List Sg) (l : List Pt), ((T.flatMap fun s => cutF s l).map f).sum = (T.map fun s => ((cutF s l).map f).sum).sum := by
    intro T l
    induction T with
    | nil => rfl
    | cons t T ih => rw [List.flatMap_cons, List.map_append, List.sum_append, ih]; rfl
  unfold cutsS
  rw [key, sm_list]
  have : (S.map fun s => ((cutF s (endsS S)).map f).sum) = (List.range S.length).map fun i => ((cutF (sgAt S i) (endsS S)).map f).sum := by
    conv => lhs; arg 2; rw [← map_sgAt S]
    rw [List.map_map]
    rfl
  rw [this]
  congr 1
  refine List.map_congr_left fun i _ => ?_
  exact chainS_sum f _ _
theorem mem_cutsS {S : List Sg} {s : Sg} : s ∈ cutsS S ↔ ∃ i, i < S.length ∧ ∃ j, j < cutR S i ∧ s = pc (cutQ S) i j := by
  unfold cutsS
  rw [List.mem_flatMap]
  constructor
  · rintro ⟨t, ht, hs⟩
    obtain ⟨i, hi, rfl⟩ := List.mem_iff_getElem.1 ht
    rw [← sgAt_get hi] at hs
    exact ⟨i, hi, mem_cutF.1 hs⟩
  · rintro ⟨i, hi, hj⟩
    exact ⟨sgAt S i, sgAt_mem hi, mem_cutF.2 hj⟩
/-- Segments told by e are the pieces, each once. -/
theorem CutOk.pieces {S : List Sg} (h : CutOk S) {n : Nat} {e : Nat → Sg} (hp : ((List.range n).map e).Perm (cutsS S)) : Pieces S.length (sgAt S) (cutR S) (cutQ S) n e := by
  have hnd : ((List.range n).map e).Nodup := hp.nodup_iff.2 h.nodup
  refine ⟨h.cut, fun f => ?_, fun k k' hk hk' he => ?_, fun k hk => ?_, fun i hi j hj => ?_⟩
  · rw [← cuts_sum, sm_list, ← sum_perm f hp, List.map_map]
    rfl
  · have hpw := List.pairwise_map.1 (List.nodup_iff_pairwise_ne.1 hnd)
    have hpw := List.pairwise_iff_getElem.1 hpw
    rcases Nat.lt_trichotomy k k' with c | c | c
    · have := hpw k k' (by simpa using hk) (by simpa using hk') c
      simp only [List.getElem_range] at this
      exact absurd he this
    · exact c
    · have := hpw k' k (by simpa using hk') (by simpa using hk) c
      simp only [List.getElem_range] at this
      exact absurd he.symm this
  · exact mem_cutsS.1 (hp.mem_iff.1 (List.mem_map.2 ⟨k, List.mem_range.2 hk, rfl⟩))
  · obtain ⟨k, hk, e⟩ := List.mem_map.1 (hp.mem_iff.2 (mem_cutsS.2 ⟨i, hi, j, hj, rfl⟩))
    exact ⟨k, List.mem_range.1 hk, e⟩
end Go.Proofs.YtlglfcdobbocnaaGreat

/-! Pieces put together: points in order, edges in order. -/
namespace Go.Proofs.YtlglfcdobbocnaaGreat
/-- A segment and its line. -/
abbrev Part := Sg × Int
def segsOf (L : List Part) : List Sg := L.map Prod.fst
def ptsF (S : List Sg) : List Pt := uniP (endsS S)
def ixF (S : List Sg) (i : Nat) : Nat × Nat := ((ptsF S).idxOf (sgAt S i).1, (ptsF S).idxOf (sgAt S i).2)
def ltN (a b : Nat × Nat) : Bool := decide (a.1 < b.1) || (decide (a.1 = b.1) && decide (a.2 < b.2))
def ltE (S : List Sg) (x y : Nat) : Bool := ltN (ixF S x) (ixF S y)
def orderF (S : List Sg) : List Nat := isort (ltE S) (List.range S.length)
def edgesF (S : List Sg) : List (Nat × Nat) := (orderF S).map (ixF S)
theorem ltN_iff (a b : Nat × Nat) : ltN a b = true ↔ a.1 < b.1 ∨ a.1 = b.1 ∧ a.2 < b.2 := by
  unfold ltN; simp
theorem orderF_perm (S : List Sg) : (orderF S).Perm (List.range S.length) := isort_perm _ _
theorem orderF_len (S : List Sg) : (orderF S).length = S.length := by rw [(orderF_perm S).length_eq]; simp
theorem edgesF_len (S : List Sg) : (edgesF S).length = S.length := by unfold edgesF; rw [List.length_map, orderF_len]
def ordAt (S : List Sg) (k : Nat) : Nat := (orderF S).getD k 0
theorem ordAt_lt {S : List Sg} {k : Nat} (h : k < S.length) : ordAt S k < S.length := by
  have : ordAt S k ∈ orderF S := getD_mem _ (by rw [orderF_len]; exact h)
  exact List.mem_range.1 ((orderF_perm S).mem_iff.1 this)
theorem edgesF_get {S : List Sg} {k : Nat} (h : k < S.length) : (edgesF S).getD k (0, 0) = ixF S (ordAt S k) := by
  have h2 : k < (orderF S).length := by rw [orderF_len]; exact h
  unfold edgesF ordAt
  rw [List.getD_eq_getElem?_getD, List.getD_eq_getElem?_getD, List.getElem?_map, List.getElem?_eq_getElem h2]
  rfl
theorem sg_ends {S : List Sg} {i : Nat} (h : i < S.length) : (sgAt S i).1 ∈ ptsF S ∧ (sgAt S i).2 ∈ ptsF S := by
  unfold ptsF
  rw [uniP_mem, uniP_mem]
  exact ⟨mem_endsS.2 ⟨i, h, .inl rfl⟩, mem_endsS.2 ⟨i, h, .inr rfl⟩⟩
theorem getD_idxOf {l : List Pt} {p : Pt} (h : p ∈ l) : l.getD (l.idxOf p) (0, 0) = p := by
  have hi := List.idxOf_lt_length_of_mem h
  rw [List.getD_eq_getElem?_getD, List.getElem?_eq_getElem hi, Option.getD_some]
  exact List.getElem_idxOf hi
theorem eS_get {S : List Sg} {k : Nat} (h : k < S.length) : eS (ptsF S) (edgesF S) k = sgAt S (ordAt S k) := by
  have := sg_ends (ordAt_lt h)
  unfold eS
  rw [edgesF_get h]
  unfold ixF
  simp only []
  rw [getD_idxOf this.1, getD_idxOf this.2]
theorem map_getD {α : Type} (l : List α) (d : α) : (List.range l.length).map (fun i => l.getD i d) = l := by
  apply List.ext_getElem
  · simp
  · intro i h1 h2
    rw [List.getElem_map, List.getElem_range, List.getD_eq_getElem?_getD, List.getElem?_eq_getElem h2]
    rfl
theorem edges_perm (S : List Sg) : ((List.range S.length).map (eS (ptsF S) (edgesF S))).Perm S := by
  rw [List.map_congr_left (g := fun k => sgAt S (ordAt S k)) (fun k hk => eS_get (List.mem_range.1 hk))]
  have h1 : (List.range S.length).map (fun k => sgAt S (ordAt S k)) = (orderF S).map (sgAt S) := by
    have := map_getD (orderF S) 0
    rw [orderF_len] at this
    conv => rhs; rw [← this]
    rw [List.map_map]
    rfl
  rw [h1]
  have h2 := (orderF_perm S).map (sgAt S)
  rw [map_sgAt] at h2
  exact h2
/-- Pieces, put together. -/
theorem CutOk.laid {S : List Sg} (h : CutOk S) : Pieces S.length (sgAt S) (cutR S) (cutQ S) (edgesF (cutsS S)).length (eS (ptsF (cutsS S)) (edgesF (cutsS S))) ∧ Laid (ptsF (cutsS S)) (edgesF (cutsS S)) := by
  have hp := h.pieces (n := (cutsS S).length) (e := eS (ptsF (cutsS S)) (edgesF (cutsS S))) (edges_perm _)
  rw [edgesF_len]
  refine ⟨hp, uniP_strict _, fun i hi => ?_, ?_⟩
  · rw [edgesF_len] at hi
    have := sg_ends (ordAt_lt hi)
    rw [edgesF_get hi]
    exact ⟨List.idxOf_lt_length_of_mem this.1, List.idxOf_lt_length_of_mem this.2⟩
  · rw [edgesF_len]
    exact hp.figure
theorem idx_strict {P : List Pt} (h : StrictP P) {a b : Pt} (ha : a ∈ P) (hb : b ∈ P) : ltP a b ↔ P.idxOf a < P.idxOf b := by
  have hi := List.idxOf_lt_length_of_mem ha
  have hj := List.idxOf_lt_length_of_mem hb
  have hp := List.pairwise_iff_getElem.1 h
  have e1 := List.getElem_idxOf hi
  have e2 := List.getElem_idxOf hj
  constructor
  · intro k
    rcases Nat.lt_trichotomy (P.idxOf a) (P.idxOf b) with c | c | c
    · exact c
    · have : a = b := by rw [← e1, ← e2]; congr 1
      rw [this] at k
      exact absurd k (ltP_irrefl _)
    · have := hp _ _ hj hi c
      rw [e1, e2] at this
      exact absurd k (ltP_asymm this)
  · intro k
    have := hp _ _ hi hj k
    rw [e1, e2] at this
    exact this
/-- The order of edges is strict where no two segments are the same. -/
theorem ltE_lin {S : List Sg} (hn : S.Nodup) : LinB (fun x => x < S.length) (ltE S) := by
  refine ⟨fun x y _ _ k => ?_, fun x y z _ _ _ k1 k2 => ?_, fun x y hx hy hne => ?_⟩
  · cases c : ltE S y x with
    | false => rfl
    | true =>
      unfold ltE at k c
      rw [ltN_iff] at k c
      omega
  · unfold ltE at *
    rw [ltN_iff] at *
    omega
  · unfold ltE
    rw [ltN_iff, ltN_iff]
    have hs := sg_ends hx
    have ht := sg_ends hy
    have ne : sgAt S x ≠ sgAt S y := by
      intro e
      rw [sgAt_get hx, sgAt_get hy] at e
      have hpw := List.pairwise_iff_getElem.1 (List.nodup_iff_pairwise_ne.1 hn)
      rcases Nat.lt_trichotomy x y with c | c | c
      · exact hpw x y hx hy c e
      · exact hne c
      · exact hpw y x hy hx c e.symm
    have : ¬ ((ixF S x).1 = (ixF S y).1 ∧ (ixF S x).2 = (ixF S y).2) := by
      rintro ⟨a, b⟩
      unfold ixF at a b
      simp only [] at a b
      refine ne (Prod.ext ?_ ?_)
      · have := getD_idxOf hs.1
        rw [a, getD_idxOf ht.1] at this
        exact this.symm
      · have := getD_idxOf hs.2
        rw [b, getD_idxOf ht.2] at this
        exact this.symm
    omega
/-- What a map must be to be put together. -/
structure Joined (S : List Sg) : Prop where
  few : S.length ≤ 400
  three : 3 ≤ S.length
  reach : ∀ p, p < (ptsF S).length → Reach (edgesF S) p
  points : (ptsF S).length ≤ 400
  faces : (numE (ptsF S) (edgesF S) (2 * S.length)).many ≤ 100
  one : (numE (ptsF S) (edgesF S) (2 * S.length)).outside = 1
  flat : (numE (ptsF S) (edgesF S) (2 * S.length)).flat = false
  many : 1 ≤ (numE (ptsF S) (edgesF S) (2 * S.length)).many
theorem Joined.sound {S : List Sg} (h : CutOk S) (hj : Joined (cutsS S)) (hok : ∀ s ∈ S, okB s.1 = true ∧ okB s.2 = true) : Sound (ptsF (cutsS S)) (edgesF (cutsS S)) := by
  have e := edgesF_len (cutsS S)
  refine ⟨h.laid.2, hj.reach, by rw [e]; exact hj.one, by rw [e]; exact hj.flat, by rw [e]; exact hj.many, fun x hx => ?_⟩
  unfold ptsF at hx
  rw [uniP_mem, mem_endsS] at hx
  obtain ⟨i, hi, hx⟩ := hx
  obtain ⟨i', hi', j, hj', e'⟩ := mem_cutsS.1 (sgAt_mem hi)
  have hq : ∀ j, j ≤ cutR S i' → okB (cutQ S i' j) = true := by
    intro j hj
    obtain ⟨i2, hi2, hz⟩ := h.cut.qend i' hi' j hj
    have := hok _ (sgAt_mem hi2)
    rcases hz with hz | hz <;> rw [hz]
    · exact this.1
    · exact this.2
  rw [e'] at hx
  rcases hx with rfl | rfl
  · exact hq _ (by omega)
  · exact hq _ (by omega)
end Go.Proofs.YtlglfcdobbocnaaGreat

/-! How two segments meet: in either order, either way round; far ones; an end inside the other. -/
namespace Go.Proofs.YtlglfcdobbocnaaGreat
theorem opp_comm (x y : Int) : Opp x y ↔ Opp y x := by unfold Opp; omega
theorem opp_neg (x y : Int) : Opp (-x) (-y) ↔ Opp x y := by unfold Opp; omega
theorem same_comm (x y : Int) : Same x y ↔ Same y x := by unfold Same; omega
theorem same_neg (x y : Int) : Same (-x) (-y) ↔ Same x y := by unfold Same; omega
theorem meet3_comm (s t : Sg) : meetF s t = 3 ↔ meetF t s = 3 := by rw [meet_3, meet_3]; exact And.comm
theorem lowP_lt {s t : Sg} (hs : ltP s.1 s.2) (ht : ltP t.1 t.2) : lowP s t = if ltP s.1 t.1 then t.1 else s.1 := by unfold lowP; rw [ends_lt hs, ends_lt ht]
theorem highP_lt {s t : Sg} (hs : ltP s.1 s.2) (ht : ltP t.1 t.2) : highP s t = if ltP t.2 s.2 then t.2 else s.2 := by unfold highP; rw [ends_lt hs, ends_lt ht]
theorem low_comm {s t : Sg} (hs : ltP s.1 s.2) (ht : ltP t.1 t.2) : lowP s t = lowP t s := by
  rw [lowP_lt hs ht, lowP_lt ht hs]
  by_cases h : s.1 = t.1
  · rw [h]
  · rcases ltP_total h with k | k
    · rw [if_pos k, if_neg (ltP_asymm k)]
    · rw [if_pos k, if_neg (ltP_asymm k)]
theorem high_comm {s t : Sg} (hs : ltP s.1 s.2) (ht : ltP t.1 t.2) : highP s t = highP t s := by
  rw [highP_lt hs ht, highP_lt ht hs]
  by_cases h : s.2 = t.2
  · rw [h]
  · rcases ltP_total h with k | k
    · rw [if_pos k, if_neg (ltP_asymm k)]
    · rw [if_pos k, if_neg (ltP_asymm k)]
theorem line_back {s t : Sg} (hs : ltP s.1 s.2) (ht : ltP t.1 t.2) (h1 : cr s.1 s.2 t.1 = 0) (h2 : cr s.1 s.2 t.2 = 0) : cr t.1 t.2 s.1 = 0 ∧ cr t.1 t.2 s.2 = 0 := by
  obtain ⟨p, q, hp, hq, -, -, hz⟩ := same_line hs ht h1 h2
  have a := hz s.1
  have b := hz s.2
  rw [cr_self1, Int.mul_zero] at a
  rw [cr_self2, Int.mul_zero] at b
  rcases Int.mul_eq_zero.1 a with k | k <;> rcases Int.mul_eq_zero.1 b with k2 | k2 <;> first | omega | exact ⟨k, k2⟩
theorem meet4_comm {s t : Sg} (hs : ltP s.1 s.2) (ht : ltP t.1 t.2) : meetF s t = 4 ↔ meetF t s = 4 := by
  have key : ∀ {s t : Sg}, ltP s.1 s.2 → ltP t.1 t.2 → meetF s t = 4 → meetF t s = 4 := by
    intro s t hs ht h
    rw [meet_4] at h ⊢
    have := line_back hs ht h.1 h.2.1
    exact ⟨this.1, this.2, by rw [low_comm ht hs, high_comm ht hs]; exact h.2.2⟩
  exact ⟨key hs ht, key ht hs⟩
theorem ends_flip {a b : Pt} : endsF (b, a) = endsF (a, b) := by
  unfold endsF
  simp only []
  by_cases h : a = b
  · rw [h]
  · rcases ltP_total h with k | k
    · rw [if_pos k, if_neg (ltP_asymm k)]
    · rw [if_pos k, if_neg (ltP_asymm k)]
theorem ends_ends (s : Sg) : endsF (endsF s) = endsF s := by
  unfold endsF
  split
  · rename_i h
    simp only []
    rw [if_neg (ltP_asymm h)]
  · rfl
theorem cr_flip (a b z : Pt) : cr b a z = - cr a b z := by unfold cr; grind
theorem meet_flip1 (a b : Pt) (t : Sg) : meetF (b, a) t = meetF (a, b) t := by
  unfold meetF lowP highP
  rw [ends_flip]
  simp only []
  rw [cr_flip a b t.1, cr_flip a b t.2]
  simp only [same_neg, Int.neg_eq_zero, same_comm (cr t.1 t.2 b) (cr t.1 t.2 a), or_comm (a := cr t.1 t.2 b = 0)]
theorem meet_flip2 (s : Sg) (a b : Pt) : meetF s (b, a) = meetF s (a, b) := by
  unfold meetF lowP highP
  rw [show endsF (b, a) = endsF (a, b) from ends_flip]
  simp only []
  rw [cr_flip a b s.1, cr_flip a b s.2]
  simp only [same_neg, Int.neg_eq_zero, same_comm (cr s.1 s.2 b) (cr s.1 s.2 a), or_comm (a := cr s.1 s.2 b = 0), and_comm (a := cr s.1 s.2 b = 0)]
theorem meet_ends1 (s t : Sg) : meetF (endsF s) t = meetF s t := by
  unfold endsF
  split
  · exact meet_flip1 s.1 s.2 t
  · rfl
theorem meet_ends2 (s t : Sg) : meetF s (endsF t) = meetF s t := by
  unfold endsF
  split
  · exact meet_flip2 s t.1 t.2
  · rfl
theorem ends_ok {s : Sg} (h : s.1 ≠ s.2) : ltP (endsF s).1 (endsF s).2 := by
  unfold endsF
  split
  · assumption
  · rename_i k
    exact (ltP_total h).resolve_right k
/-- An end of one inside the other. -/
theorem meet_touch {s t : Sg} (hs : ltP s.1 s.2) (ht : ltP t.1 t.2) {z : Pt} (hz : z = s.1 ∨ z = s.2) (hin : Inside z t) : (meetF s t ≠ 0 ∧ meetF s t ≠ 1) ∧ meetF t s ≠ 0 ∧ meetF t s ≠ 1 := by
  obtain ⟨h0, h1, h2⟩ := hin
  obtain ⟨p, q, hm⟩ := mid_of h0 h1 h2
  have hc := hm.cr s.1 s.2
  have z0 : cr s.1 s.2 z = 0 := by rcases hz with rfl | rfl; exact cr_self1 _ _; exact cr_self2 _ _
  rw [z0, Int.mul_zero] at hc
  obtain ⟨hp, hq, -, -⟩ := hm
  by_cases ha : cr s.1 s.2 t.1 = cr s.1 s.2 t.2
  · have ha0 : cr s.1 s.2 t.2 = 0 := by
      rw [ha, ← Int.add_mul] at hc
      rcases Int.mul_eq_zero.1 hc with k | k
      · omega
      · exact k
    have h4 : meetF s t = 4 := by
      rw [meet_4, lowP_lt hs ht, highP_lt hs ht]
      refine ⟨by rw [ha]; exact ha0, ha0, ?_⟩
      rcases hz with rfl | rfl
      · rw [if_neg (ltP_asymm h1)]
        split
        · exact h2
        · exact hs
      · rw [if_neg (ltP_asymm h2)]
        split
        · exact h1
        · exact hs
    have := (meet4_comm hs ht).1 h4
    omega
  · have ho := opp_of hp hq hc ha
    have c0 : cr t.1 t.2 s.1 = 0 ∨ cr t.1 t.2 s.2 = 0 := by
      rcases hz with rfl | rfl
      · exact .inl h0
      · exact .inr h0
    have e1 : meetF s t = 2 := by
      unfold meetF
      rw [if_neg (by omega), if_neg (by unfold Same; omega), if_neg (by omega), if_pos (.inl c0)]
    have e2 : meetF t s = 2 := by
      unfold meetF
      rw [if_neg (fun k => by have := line_back ht hs k.1 k.2; omega), if_neg (by unfold Same; omega), if_neg (by omega), if_pos (.inr c0)]
    omega
theorem far_mix {p q r u a b c d : Int} (hp : 0 < p) (hq : 0 < q) (hr : 0 < r) (hu : 0 < u) (e : p + q = r + u) (h : a * p + b * q = c * r + d * u) : ¬ (max a b < min c d) := by
  intro hlt
  have h1 := mix_le (m := max a b) (show a ≤ max a b by omega) (show b ≤ max a b by omega) (Int.le_of_lt hp) (Int.le_of_lt hq)
  have h2 := mix_ge (m := min c d) (show min c d ≤ c by omega) (show min c d ≤ d by omega) (Int.le_of_lt hr) (Int.le_of_lt hu)
  rw [e] at h1
  have := Int.mul_lt_mul_of_pos_right hlt (show 0 < r + u by omega)
  omega
theorem on_box {z : Pt} {s : Sg} (h0 : cr s.1 s.2 z = 0) (h1 : ¬ ltP z s.1) (h2 : ¬ ltP s.2 z) : min s.1.1 s.2.1 ≤ z.1 ∧ z.1 ≤ max s.1.1 s.2.1 ∧ min s.1.2 s.2.2 ≤ z.2 ∧ z.2 ≤ max s.1.2 s.2.2 := by
  by_cases e1 : z = s.1
  · rw [e1]; omega
  by_cases e2 : z = s.2
  · rw [e2]; omega
  obtain ⟨p, q, hp, hq, hx, hy⟩ := mid_of h0 ((ltP_total (Ne.symm e1)).resolve_right h1) ((ltP_total e2).resolve_right h2)
  have a := mean_mm hp hq hx
  have b := mean_mm hp hq hy
  omega
/-- What is far apart does not cross, nor overlap. -/
theorem far_apart {s t : Sg} (hs : ltP s.1 s.2) (ht : ltP t.1 t.2) (h : farB s t = true) : meetF s t ≠ 3 ∧ meetF s t ≠ 4 := by
  unfold farB at h
  simp only [Bool.or_eq_true, decide_eq_true_eq] at h
  constructor
  · intro h3
    rw [meet_3] at h3
    obtain ⟨h1, h2⟩ := h3
    obtain ⟨a, ha⟩ : ∃ a, cr s.1 s.2 t.1 = a := ⟨_, rfl⟩
    obtain ⟨b, hb⟩ : ∃ b, cr s.1 s.2 t.2 = b := ⟨_, rfl⟩
    obtain ⟨c, hc⟩ : ∃ c, cr t.1 t.2 s.1 = c := ⟨_, rfl⟩
    obtain ⟨d, hd⟩ : ∃ d, cr t.1 t.2 s.2 = d := ⟨_, rfl⟩
    have e : d - c = a - b := by rw [← ha, ← hb, ← hc, ← hd]; unfold cr; grind
    have ex : s.1.1 * d - s.2.1 * c = t.2.1 * a - t.1.1 * b := by rw [← ha, ← hb, ← hc, ← hd]; unfold cr; grind
    have ey : s.1.2 * d - s.2.2 * c = t.2.2 * a - t.1.2 * b := by rw [← ha, ← hb, ← hc, ← hd]; unfold cr; grind
    rw [ha, hb] at h1
    rw [hc, hd] at h2
    unfold Opp at h1 h2
    rcases h2 with ⟨k1, k2⟩ | ⟨k1, k2⟩
    · have fx := far_mix (p := d) (q := -c) (r := -b) (u := a) (a := s.1.1) (b := s.2.1) (c := t.1.1) (d := t.2.1) (by omega) (by omega) (by omega) (by omega) (by omega) (by rw [Int.mul_neg, Int.mul_neg]; omega)
      have gx := far_mix (p := -b) (q := a) (r := d) (u := -c) (a := t.1.1) (b := t.2.1) (c := s.1.1) (d := s.2.1) (by omega) (by omega) (by omega) (by omega) (by omega) (by rw [Int.mul_neg, Int.mul_neg]; omega)
      have fy := far_mix (p := d) (q := -c) (r := -b) (u := a) (a := s.1.2) (b := s.2.2) (c := t.1.2) (d := t.2.2) (by omega) (by omega) (by omega) (by omega) (by omega) (by rw [Int.mul_neg, Int.mul_neg]; omega)
      have gy := far_mix (p := -b) (q := a) (r := d) (u := -c) (a := t.1.2) (b := t.2.2) (c := s.1.2) (d := s.2.2) (by omega) (by omega) (by omega) (by omega) (by omega) (by rw [Int.mul_neg, Int.mul_neg]; omega)
      omega
    · have fx := far_mix (p := -d) (q := c) (r := b) (u := -a) (a := s.1.1) (b := s.2.1) (c := t.1.1) (d := t.2.1) (by omega) (by omega) (by omega) (by omega) (by omega) (by rw [Int.mul_neg, Int.mul_neg]; omega)
      have gx := far_mix (p := b) (q := -a) (r := -d) (u := c) (a := t.1.1) (b := t.2.1) (c := s.1.1) (d := s.2.1) (by omega) (by omega) (by omega) (by omega) (by omega) (by rw [Int.mul_neg, Int.mul_neg]; omega)
      have fy := far_mix (p := -d) (q := c) (r := b) (u := -a) (a := s.1.2) (b := s.2.2) (c := t.1.2) (d := t.2.2) (by omega) (by omega) (by omega) (by omega) (by omega) (by rw [Int.mul_neg, Int.mul_neg]; omega)
      have gy := far_mix (p := b) (q := -a) (r := -d) (u := c) (a := t.1.2) (b := t.2.2) (c := s.1.2) (d := s.2.2) (by omega) (by omega) (by omega) (by omega) (by omega) (by rw [Int.mul_neg, Int.mul_neg]; omega)
      omega
  · intro h4
    rw [meet_4, lowP_lt hs ht, highP_lt hs ht] at h4
    obtain ⟨h1, h2, h3⟩ := h4
    have hb := line_back hs ht h1 h2
    have ex : ∃ z, (cr s.1 s.2 z = 0 ∧ ¬ ltP z s.1 ∧ ¬ ltP s.2 z) ∧ cr t.1 t.2 z = 0 ∧ ¬ ltP z t.1 ∧ ¬ ltP t.2 z := by
      by_cases k : ltP s.1 t.1
      · rw [if_pos k] at h3
        refine ⟨t.1, ⟨h1, ltP_asymm k, ?_⟩, cr_self1 _ _, ltP_irrefl _, ltP_asymm ht⟩
        split at h3
        · rename_i g; exact ltP_asymm (ltP_trans ht g)
        · exact ltP_asymm h3
      · rw [if_neg k] at h3
        refine ⟨s.1, ⟨cr_self1 _ _, ltP_irrefl _, ltP_asymm hs⟩, hb.1, k, ?_⟩
        split at h3
        · exact ltP_asymm h3
        · rename_i g; exact fun x => g (ltP_trans x hs)
    obtain ⟨z, ⟨a1, a2, a3⟩, b1, b2, b3⟩ := ex
    have := on_box a1 a2 a3
    have := on_box b1 b2 b3
    omega
end Go.Proofs.YtlglfcdobbocnaaGreat

/-! A wall and lines within it: cut, they make a Walled figure. -/
namespace Go.Proofs.YtlglfcdobbocnaaGreat
theorem polyOk {l : List Pt} (h : polyF l = 0) : 3 ≤ l.length ∧ l.length ≤ 200 ∧ (∀ x ∈ l, okB x = true) ∧ l.Nodup ∧ pairsOk l = true := by
  unfold polyF at h
  by_cases h1 : 200 < l.length
  · rw [if_pos h1] at h; cases h
  rw [if_neg h1] at h
  by_cases h2 : l.length < 3 ∨ ¬ l.all okB = true
  · rw [if_pos h2] at h; cases h
  rw [if_neg h2] at h
  by_cases h3 : ¬ l.Nodup
  · rw [if_pos h3] at h; cases h
  rw [if_neg h3] at h
  by_cases h4 : pairsOk l = true
  · exact ⟨by omega, by omega, List.all_eq_true.1 (Classical.byContradiction fun k => h2 (.inr k)), Classical.byContradiction h3, h4⟩
  · rw [if_neg h4] at h; cases h
def wallS (wall : List Pt) : List Sg := (List.range wall.length).map fun i => endsF (edgeF wall i)
def buildS (wall : List Pt) (lines : List Sg) : List Sg := wallS wall ++ lines.map endsF
structure Given (wall : List Pt) (lines : List Sg) : Prop where
  poly : polyF wall = 0
  lin : ∀ s ∈ lines, okS s = true ∧ withinF wall s = true
  cross : ∀ i k, k < i → i < (buildS wall lines).length → meetG (sgAt (buildS wall lines) i) (sgAt (buildS wall lines) k) ≠ 3 ∧ meetG (sgAt (buildS wall lines) i) (sgAt (buildS wall lines) k) ≠ 4
def wAt (wall : List Pt) (i : Nat) : Pt := ptAt wall (i % wall.length)
def sgW (wall : List Pt) (i : Nat) : Int := if ltP (wAt wall i) (wAt wall (i + 1)) then 1 else -1
theorem edgeF_w {wall : List Pt} {i : Nat} (h : i < wall.length) : edgeF wall i = (wAt wall i, wAt wall (i + 1)) := by
  unfold edgeF wAt ptAt
  rw [Nat.mod_eq_of_lt h]
theorem wallS_len (wall : List Pt) : (wallS wall).length = wall.length := by unfold wallS; simp
theorem buildS_len (wall : List Pt) (lines : List Sg) : (buildS wall lines).length = wall.length + lines.length := by unfold buildS; rw [List.length_append, wallS_len]; simp
theorem buildS_wall {wall : List Pt} {lines : List Sg} {i : Nat} (h : i < wall.length) : sgAt (buildS wall lines) i = endsF (edgeF wall i) := by
  unfold sgAt buildS
  rw [List.getD_eq_getElem?_getD, List.getElem?_append_left (by rw [wallS_len]; exact h)]
  unfold wallS
  rw [List.getElem?_map, List.getElem?_range h]
  rfl
theorem buildS_line {wall : List Pt} {lines : List Sg} {i : Nat} (h : wall.length ≤ i) (hi : i < (buildS wall lines).length) : ∃ s ∈ lines, sgAt (buildS wall lines) i = endsF s := by
  rw [buildS_len] at hi
  unfold sgAt buildS
  rw [List.getD_eq_getElem?_getD, List.getElem?_append_right (by rw [wallS_len]; exact h), wallS_len, List.getElem?_map, List.getElem?_eq_getElem (show i - wall.length < lines.length by omega)]
  exact ⟨_, List.getElem_mem _, rfl⟩
theorem wAt_mem {wall : List Pt} (h : 0 < wall.length) (i : Nat) : wAt wall i ∈ wall := getD_mem _ (Nat.mod_lt _ h)
theorem wAt_inj {wall : List Pt} (hn : wall.Nodup) {i j : Nat} (hi : i < wall.length) (hj : j < wall.length) (h : wAt wall i = wAt wall j) : i = j := by
  unfold wAt at h
  rw [Nat.mod_eq_of_lt hi, Nat.mod_eq_of_lt hj, ptAt_get hi, ptAt_get hj] at h
  have hp := List.pairwise_iff_getElem.1 (List.nodup_iff_pairwise_ne.1 hn)
  rcases Nat.lt_trichotomy i j with k | k | k
  · exact absurd h (hp i j hi hj k)
  · exact k
  · exact absurd h.symm (hp j i hj hi k)
theorem wAt_next {wall : List Pt} (hn : wall.Nodup) (h3 : 3 ≤ wall.length) {i : Nat} (hi : i < wall.length) : wAt wall i ≠ wAt wall (i + 1) := by
  intro e
  by_cases k : i + 1 = wall.length
  · have : wAt wall (i + 1) = wAt wall 0 := by unfold wAt; rw [k, Nat.mod_self, Nat.zero_mod]
    rw [this] at e
    have := wAt_inj hn hi (by omega) e
    omega
  · have := wAt_inj hn hi (by omega) e
    omega
variable {wall : List Pt} {lines : List Sg}
theorem okS_iff (s : Sg) : okS s = true ↔ okB s.1 = true ∧ okB s.2 = true ∧ s.1 ≠ s.2 := by
  unfold okS
  simp [and_assoc]
theorem ends_or (s : Sg) : (endsF s = s) ∨ endsF s = (s.2, s.1) := by
  unfold endsF
  split
  · exact .inr rfl
  · exact .inl rfl
theorem Given.okW (h : Given wall lines) (i : Nat) : okB (wAt wall i) = true := by
  have hp := polyOk h.poly
  exact hp.2.2.1 _ (wAt_mem (by omega) i)
theorem Given.seg (h : Given wall lines) {i : Nat} (hi : i < (buildS wall lines).length) : ∃ s, sgAt (buildS wall lines) i = endsF s ∧ okS s = true := by
  have hp := polyOk h.poly
  by_cases k : i < wall.length
  · refine ⟨_, buildS_wall k, ?_⟩
    rw [okS_iff, edgeF_w k]
    exact ⟨h.okW _, h.okW _, wAt_next hp.2.2.2.1 hp.1 k⟩
  · obtain ⟨s, hs, e⟩ := buildS_line (by omega) hi
    exact ⟨s, e, (h.lin s hs).1⟩
theorem Given.lt (h : Given wall lines) {i : Nat} (hi : i < (buildS wall lines).length) : ltP (sgAt (buildS wall lines) i).1 (sgAt (buildS wall lines) i).2 := by
  obtain ⟨s, e, hs⟩ := h.seg hi
  rw [e]
  exact ends_ok ((okS_iff s).1 hs).2.2
theorem Given.ok (h : Given wall lines) {i : Nat} (hi : i < (buildS wall lines).length) : okB (sgAt (buildS wall lines) i).1 = true ∧ okB (sgAt (buildS wall lines) i).2 = true := by
  obtain ⟨s, e, hs⟩ := h.seg hi
  rw [okS_iff] at hs
  rw [e]
  rcases ends_or s with k | k <;> rw [k]
  · exact ⟨hs.1, hs.2.1⟩
  · exact ⟨hs.2.1, hs.1⟩
theorem Given.cutOk (h : Given wall lines) : CutOk (buildS wall lines) := by
  have key : ∀ i k, k < i → i < (buildS wall lines).length → meetF (sgAt (buildS wall lines) i) (sgAt (buildS wall lines) k) ≠ 3 ∧ meetF (sgAt (buildS wall lines) i) (sgAt (buildS wall lines) k) ≠ 4 := by
    intro i k hk hi
    have hm := h.cross i k hk hi
    unfold meetG at hm
    by_cases hf : farB (sgAt (buildS wall lines) i) (sgAt (buildS wall lines) k) = true
    · exact far_apart (h.lt hi) (h.lt (by omega)) hf
    · rw [if_neg hf] at hm
      have o1 := h.ok hi
      have o2 := h.ok (show k < _ by omega)
      have n1 : (sgAt (buildS wall lines) i).1 ≠ (sgAt (buildS wall lines) i).2 := fun e => ltP_irrefl _ (e ▸ h.lt hi)
      have n2 : (sgAt (buildS wall lines) k).1 ≠ (sgAt (buildS wall lines) k).2 := fun e => ltP_irrefl (sgAt (buildS wall lines) k).2 (by have := h.lt (show k < _ by omega); rw [e] at this; exact this)
      unfold MeetF at hm
      rw [if_pos (by simp only [Bool.and_eq_true, okS_iff]; exact ⟨⟨o1.1, o1.2, n1⟩, o2.1, o2.2, n2⟩)] at hm
      exact hm
  refine ⟨fun s hs => ?_, fun i i' hi hi' hne => ?_⟩
  · obtain ⟨i, hi, rfl⟩ := List.mem_iff_getElem.1 hs
    rw [← sgAt_get hi]
    exact h.lt hi
  · rcases Nat.lt_or_ge i' i with k | k
    · exact key i i' k hi
    · have := key i' i (by omega) hi'
      exact ⟨fun e => this.1 ((meet3_comm _ _).1 e), fun e => this.2 ((meet4_comm (h.lt hi) (h.lt hi')).1 e)⟩
/-- Of two edges of a polygon: at ends, or not. -/
theorem poly_meet (hp : polyF wall = 0) {i k : Nat} (hik : i < k) (hk : k < wall.length) : meetF (endsF (edgeF wall i)) (endsF (edgeF wall k)) = 0 ∨ meetF (endsF (edgeF wall i)) (endsF (edgeF wall k)) = 1 := by
  have h := (polyOk hp).2.2.2.2
  unfold pairsOk at h
  have h1 := List.all_eq_true.1 (List.all_eq_true.1 h i (List.mem_range.2 (by omega))) k (List.mem_range.2 hk)
  rw [decide_eq_true_eq] at h1
  rw [meet_ends1, meet_ends2, h1 hik]
  unfold wantF
  split
  · exact .inr rfl
  · exact .inl rfl
theorem poly_touch (h : Given wall lines) {i k : Nat} (hi : i < wall.length) (hk : k < wall.length) (hne : i ≠ k) {z : Pt} (hz : z = (endsF (edgeF wall i)).1 ∨ z = (endsF (edgeF wall i)).2) : ¬ Inside z (endsF (edgeF wall k)) := by
  intro hin
  have l1 := h.lt (i := i) (by rw [buildS_len]; omega)
  have l2 := h.lt (i := k) (by rw [buildS_len]; omega)
  rw [buildS_wall hi] at l1
  rw [buildS_wall hk] at l2
  have ht := meet_touch l1 l2 hz hin
  rcases Nat.lt_trichotomy i k with c | c | c
  · have := poly_meet h.poly c hk; omega
  · exact hne c
  · have := poly_meet h.poly c hi; omega
theorem cutQ_on (h : Given wall lines) {i j : Nat} (hi : i < (buildS wall lines).length) (hj : j ≤ cutR (buildS wall lines) i) : (cutQ (buildS wall lines) i j = (sgAt (buildS wall lines) i).1 ∨ cutQ (buildS wall lines) i j = (sgAt (buildS wall lines) i).2) ∨ Inside (cutQ (buildS wall lines) i j) (sgAt (buildS wall lines) i) := by
  rcases List.mem_cons.1 (cutQ_mem hj) with e | hz
  · exact .inl (.inl e)
  rcases (mem_stopsC (h.lt hi)).1 hz with ⟨_, k⟩ | e
  · exact .inr k
  · exact .inl (.inr e)
theorem Given.simple (h : Given wall lines) {i k : Nat} (hi : i < wall.length) (hk : k < wall.length) (hne : i ≠ k) {j : Nat} (hj : j ≤ cutR (buildS wall lines) i) : ¬ Inside (cutQ (buildS wall lines) i j) (sgAt (buildS wall lines) k) := by
  have hi' : i < (buildS wall lines).length := by rw [buildS_len]; omega
  have hk' : k < (buildS wall lines).length := by rw [buildS_len]; omega
  intro hin
  rcases cutQ_on h hi' hj with hz | hz
  · rw [buildS_wall hi] at hz
    rw [buildS_wall hk] at hin
    exact poly_touch h hi hk hne hz hin
  · have := both_inside (h.lt hi') (h.lt hk') hz hin
    have := h.cutOk.meet i k hi' hk' hne
    omega
/-! ### Lines -/
theorem ltPB_lin : LinB (fun _ => True) ltPB := by
  refine ⟨fun x y _ _ k => ?_, fun x y z _ _ _ k1 k2 => ?_, fun x y _ _ hn => ?_⟩
  · unfold ltPB at *
    rw [decide_eq_true_eq] at k
    rw [decide_eq_false_iff_not]
    exact ltP_asymm k
  · unfold ltPB at *
    rw [decide_eq_true_eq] at *
    exact ltP_trans k1 k2
  · unfold ltPB
    rw [decide_eq_true_eq, decide_eq_true_eq]
    exact ltP_total hn
theorem insideB_ends (x : Pt) (s : Sg) : insideB x (endsF s) = insideB x s := by
  rcases ends_or s with k | k
  · rw [k]
  · have e : ∀ a b : Pt, onB x (b, a) = onB x (a, b) := by
      intro a b
      unfold onB
      apply decide_eq_decide.2
      unfold OnS
      rw [show endsF (b, a) = endsF (a, b) from ends_flip]
      simp only []
      rw [cr_flip a b x, Int.neg_eq_zero]
    rw [k]
    unfold insideB
    rw [show onB x (s.2, s.1) = onB x s from e s.1 s.2]
    simp only []
    rw [Bool.and_comm (decide (x ≠ s.2))]
theorem mem_stops {s : Sg} (hs : s.1 ≠ s.2) {z : Pt} : z ∈ stopsF wall s ↔ z = s.1 ∨ z = s.2 ∨ (z ∈ wall ∧ Inside z (endsF s)) := by
  unfold stopsF
  rw [(isort_perm _ _).mem_iff, List.mem_append, List.mem_filter, ← insideB_ends, insideB_iff (ends_ok hs)]
  simp [or_assoc]
theorem stops_strict {s : Sg} (hs : s.1 ≠ s.2) (hn : wall.Nodup) : StrictP (stopsF wall s) := by
  have hr : Rise ltPB (stopsF wall s) := isort_rise ltPB_lin fun _ _ => trivial
  have hnd : (stopsF wall s).Nodup := by
    unfold stopsF
    rw [(isort_perm _ _).nodup_iff, List.nodup_append]
    refine ⟨by simp [hs], hn.sublist List.filter_sublist, fun a ha b hb e => ?_⟩
    subst e
    have hb := (List.mem_filter.1 hb).2
    unfold insideB at hb
    simp at hb ha
    rcases ha with rfl | rfl
    · exact hb.1.1 rfl
    · exact hb.1.2 rfl
  unfold Rise at hr
  unfold StrictP
  refine (hr.and (List.nodup_iff_pairwise_ne.1 hnd)).imp fun {a b} k => ?_
  have := k.1
  unfold ltPB at this
  rw [decide_eq_false_iff_not] at this
  exact (ltP_total k.2).resolve_right this
/-- The gap of a rising list in which a point lies. -/
theorem find_gap {p b : Pt} : ∀ {l : List Pt} {a : Pt}, StrictP (a :: l) → ¬ ltP p a → b ∈ a :: l → ltP p b → ∃ t, t + 1 < (a :: l).length ∧ ¬ ltP p (ptAt (a :: l) t) ∧ ltP p (ptAt (a :: l) (t + 1))
  | [], a, _, ha, hb, hp => by
    rw [List.mem_singleton] at hb
    subst hb
    exact absurd hp ha
  | c :: l, a, hs, ha, hb, hp => by
    by_cases k : ltP p c
    · exact ⟨0, by simp, ha, k⟩
    · have hb' : b ∈ c :: l := by
        rcases List.mem_cons.1 hb with rfl | hb
        · exact absurd hp ha
        · exact hb
      unfold StrictP at hs
      rw [List.pairwise_cons] at hs
      obtain ⟨t, h1, h2, h3⟩ := find_gap (l := l) (a := c) hs.2 k hb' hp
      exact ⟨t + 1, by simp at h1 ⊢; omega, h2, h3⟩
theorem find_gap' {p a b : Pt} {l : List Pt} (hs : StrictP l) (ha : a ∈ l) (hpa : ¬ ltP p a) (hb : b ∈ l) (hpb : ltP p b) : ∃ t, t + 1 < l.length ∧ ¬ ltP p (ptAt l t) ∧ ltP p (ptAt l (t + 1)) := by
  match l, hs, ha, hb with
  | [], _, ha, _ => exact absurd ha (by simp)
  | c :: l, hs, ha, hb =>
    refine find_gap hs (fun k => ?_) hb hpb
    unfold StrictP at hs
    rw [List.pairwise_cons] at hs
    rcases List.mem_cons.1 ha with rfl | ha
    · exact hpa k
    · exact hpa (ltP_trans k (hs.1 a ha))
theorem inF_ring (l : List Pt) (p : Pt) : ∀ k, k ≤ l.length → Par (sm k (fun i => ind (Hc p (wAt l i) (wAt l (i + 1))))) (if inF l p k then 1 else 0) := by
  intro k
  have : ∀ k, k ≤ l.length → sm k (fun i => ind (Hc p (wAt l i) (wAt l (i + 1)))) = (((List.range k).filter fun i => hcB p (edgeF l i).1 (edgeF l i).2).length : Nat) := by
    intro k
    induction k with
    | zero => intro _; rfl
    | succ k ih =>
      intro hk
      rw [List.range_succ, List.filter_append, List.length_append, Int.natCast_add, ← ih (by omega)]
      show sm k _ + _ = _
      congr 1
      rw [List.filter_cons, edgeF_w (by omega)]
      unfold hcB
      by_cases c : Hc p (wAt l k) (wAt l (k + 1))
      · simp only []
        rw [ind_true c, if_pos (by simpa using c)]; rfl
      · simp only []
        rw [ind_false c, if_neg (by simpa using c)]; rfl
  intro hk
  rw [this k hk]
  unfold inF Par
  split
  · rename_i h
    simp at h
    omega
  · rename_i h
    simp at h
    omega
/-- Not outside: on an edge, or crossed an odd number of times. -/
theorem where_in {l : List Pt} {p : Pt} (h : whereF l p ≠ 0) : (∃ i, i < l.length ∧ OnS p (edgeF l i)) ∨ Par (Ring l.length (wAt l) p) 1 := by
  unfold whereF at h
  by_cases c : ((List.range l.length).any fun i => onB p (edgeF l i)) = true
  · obtain ⟨i, hi, ho⟩ := List.any_eq_true.1 c
    left
    refine ⟨i, List.mem_range.1 hi, ?_⟩
    unfold onB at ho
    simpa using ho
  · rw [if_neg c] at h
    right
    by_cases d : inF l p l.length = true
    · have := inF_ring l p l.length (Nat.le_refl _)
      rw [if_pos d] at this
      exact this
    · rw [if_neg d] at h
      exact absurd rfl h
theorem onS_ends {p : Pt} {s : Sg} : OnS p (endsF s) ↔ OnS p s := by
  unfold OnS
  rw [ends_ends]
  rcases ends_or s with k | k
  · rw [k]
  · rw [k]
    simp only []
    rw [cr_flip s.1 s.2 p, Int.neg_eq_zero]
theorem Given.lineFree (h : Given wall lines) {i : Nat} (hi0 : wall.length ≤ i) (hi : i < (buildS wall lines).length) {j : Nat} (hj : j < cutR (buildS wall lines) i) :
    ∃ Y M, Sub (pc (cutQ (buildS wall lines)) i j) Y ∧ Inside M (dS Y) ∧ (∀ i', i' < wall.length → Free Y (sgAt (buildS wall lines) i')) ∧ Par (Ring wall.length (fun i => dP (wAt wall i)) M) 1 ∧
    (∀ z, z = Y.1 ∨ z = Y.2 → (∃ i', i' < wall.length ∧ OnS z (sgAt (buildS wall lines) i')) ∨ Par (Ring wall.length (wAt wall) z) 1) := by
  obtain ⟨s, hs, e⟩ := buildS_line hi0 hi
  obtain ⟨hok, hw⟩ := h.lin s hs
  rw [okS_iff] at hok
  have hpo := polyOk h.poly
  have hcut := h.cutOk.cut
  have hsub := hcut.sub hi hj
  have hlF := h.lt hi
  have hst := stops_strict (wall := wall) hok.2.2 hpo.2.2.2.1
  have m1 : (sgAt (buildS wall lines) i).1 ∈ stopsF wall s := by
    rw [mem_stops hok.2.2, e]
    rcases ends_or s with k | k <;> rw [k] <;> simp
  have m2 : (sgAt (buildS wall lines) i).2 ∈ stopsF wall s := by
    rw [mem_stops hok.2.2, e]
    rcases ends_or s with k | k <;> rw [k] <;> simp
  have hx2 : ltP (pc (cutQ (buildS wall lines)) i j).1 (sgAt (buildS wall lines) i).2 := ltP_of_lt hsub.lx hsub.hi
  obtain ⟨t, ht, hg1, hg2⟩ := find_gap' hst m1 hsub.lo m2 hx2
  have mt : ptAt (stopsF wall s) t ∈ stopsF wall s := getD_mem _ (by omega)
  have mt1 : ptAt (stopsF wall s) (t + 1) ∈ stopsF wall s := getD_mem _ ht
  have line : ∀ z, z ∈ stopsF wall s → cr (sgAt (buildS wall lines) i).1 (sgAt (buildS wall lines) i).2 z = 0 ∧ ¬ ltP z (sgAt (buildS wall lines) i).1 ∧ ¬ ltP (sgAt (buildS wall lines) i).2 z := by
    intro z hz
    have ends : z = (sgAt (buildS wall lines) i).1 ∨ z = (sgAt (buildS wall lines) i).2 ∨ Inside z (sgAt (buildS wall lines) i) := by
      rw [mem_stops hok.2.2] at hz
      rw [e]
      rcases hz with rfl | rfl | hz
      · rcases ends_or s with k | k <;> rw [k] <;> simp
      · rcases ends_or s with k | k <;> rw [k] <;> simp
      · exact .inr (.inr hz.2)
    rcases ends with rfl | rfl | hz
    · exact ⟨cr_self1 _ _, ltP_irrefl _, ltP_asymm hlF⟩
    · exact ⟨cr_self2 _ _, ltP_asymm hlF, ltP_irrefl _⟩
    · exact ⟨hz.1, ltP_asymm hz.2.1, ltP_asymm hz.2.2⟩
  have lY : ltP (ptAt (stopsF wall s) t) (ptAt (stopsF wall s) (t + 1)) := by
    have := List.pairwise_iff_getElem.1 hst t (t + 1) (by omega) ht (by omega)
    rw [ptAt_get (by omega), ptAt_get ht]
    exact this
  have lt1 := line _ mt
  have lt2 := line _ mt1
  have hSub : Sub (ptAt (stopsF wall s) t, ptAt (stopsF wall s) (t + 1)) (sgAt (buildS wall lines) i) := ⟨lY, hlF, lt1.1, lt2.1, lt1.2.1, lt2.2.2⟩
  have hx : ¬ ltP (ptAt (stopsF wall s) (t + 1)) (pc (cutQ (buildS wall lines)) i j).2 := by
    intro k
    have hin : Inside (ptAt (stopsF wall s) (t + 1)) (pc (cutQ (buildS wall lines)) i j) := ⟨(hsub.sign _).2.2.2 lt2.1, hg2, k⟩
    have hz := mt1
    rw [mem_stops hok.2.2] at hz
    have ends : ptAt (stopsF wall s) (t + 1) = (sgAt (buildS wall lines) i).1 ∨ ptAt (stopsF wall s) (t + 1) = (sgAt (buildS wall lines) i).2 ∨ (ptAt (stopsF wall s) (t + 1) ∈ wall ∧ Inside (ptAt (stopsF wall s) (t + 1)) (sgAt (buildS wall lines) i)) := by
      rw [e]
      rcases hz with k | k | hz
      · rcases ends_or s with k2 | k2 <;> rw [k2] <;> simp [k]
      · rcases ends_or s with k2 | k2 <;> rw [k2] <;> simp [k]
      · exact .inr (.inr hz)
    rcases ends with k2 | k2 | ⟨hmw, hin2⟩
    · rw [k2] at hg2
      exact hsub.lo hg2
    · rw [k2] at k
      exact hsub.hi k
    · obtain ⟨c, hc, ec⟩ := List.mem_iff_getElem.1 hmw
      have hz : ptAt (stopsF wall s) (t + 1) = (sgAt (buildS wall lines) c).1 ∨ ptAt (stopsF wall s) (t + 1) = (sgAt (buildS wall lines) c).2 := by
        have : wAt wall c = ptAt (stopsF wall s) (t + 1) := by
          unfold wAt
          rw [Nat.mod_eq_of_lt hc, ptAt_get hc, ec]
        rw [buildS_wall hc, edgeF_w hc, ← this]
        rcases ends_or (wAt wall c, wAt wall (c + 1)) with k2 | k2 <;> rw [k2] <;> simp
      obtain ⟨j', hj', ej⟩ := hcut.full i c hi (by rw [buildS_len]; omega) _ hz hin2
      rw [ej] at hin
      exact hcut.no_inside hi hj hi hj' hin
  have hSub2 : Sub (pc (cutQ (buildS wall lines)) i j) (ptAt (stopsF wall s) t, ptAt (stopsF wall s) (t + 1)) := ⟨hsub.lx, lY, (hSub.sign _).2.2.2 hsub.c1, (hSub.sign _).2.2.2 hsub.c2, hg1, hx⟩
  have hfree : ∀ i', i' < wall.length → Free (ptAt (stopsF wall s) t, ptAt (stopsF wall s) (t + 1)) (sgAt (buildS wall lines) i') := by
    intro i' hi'
    have hi2 : i' < (buildS wall lines).length := by rw [buildS_len]; omega
    have hm := h.cutOk.meet i i' hi hi2 (by omega)
    have hm2 := hSub.meet (Sub.refl (h.lt hi2)) hm.1 hm.2
    refine ⟨lY, h.lt hi2, hm2.1, hm2.2, fun z hz hin => ?_⟩
    have hin2 : Inside z (sgAt (buildS wall lines) i) := ⟨(hSub.sign z).2.2.1 hin.1, ltP_of_le lt1.2.1 hin.2.1, ltP_of_lt hin.2.2 lt2.2.2⟩
    have hzw : z ∈ wall := by
      rw [buildS_wall hi', edgeF_w hi'] at hz
      have : z = wAt wall i' ∨ z = wAt wall (i' + 1) := by
        rcases ends_or (wAt wall i', wAt wall (i' + 1)) with k2 | k2 <;> rw [k2] at hz <;> simp at hz
        · exact hz
        · exact hz.symm
      rcases this with rfl | rfl <;> exact wAt_mem (by omega) _
    have hzs : z ∈ stopsF wall s := by
      rw [mem_stops hok.2.2, ← e]
      exact .inr (.inr ⟨hzw, hin2⟩)
    obtain ⟨u, hu, eu⟩ := List.mem_iff_getElem.1 hzs
    have hpw := List.pairwise_iff_getElem.1 hst
    obtain ⟨-, i1, i2⟩ := hin
    rw [← eu, ptAt_get (by omega)] at i1
    rw [← eu, ptAt_get ht] at i2
    simp only [] at i1 i2
    have a : t < u := by
      rcases Nat.lt_trichotomy t u with c | c | c
      · exact c
      · subst c; exact absurd i1 (ltP_irrefl _)
      · exact absurd i1 (ltP_asymm (hpw u t hu (by omega) c))
    have b : u < t + 1 := by
      rcases Nat.lt_trichotomy u (t + 1) with c | c | c
      · exact c
      · subst c; exact absurd i2 (ltP_irrefl _)
      · exact absurd i2 (ltP_asymm (hpw (t + 1) u ht hu c))
    omega
  unfold withinF at hw
  simp only [Bool.and_eq_true, decide_eq_true_eq] at hw
  obtain ⟨⟨⟨⟨⟨-, -⟩, -⟩, hA⟩, hB⟩, hmid⟩ := hw
  have hM := List.all_eq_true.1 hmid t (List.mem_range.2 (by omega))
  rw [decide_eq_true_eq] at hM
  have hMin : Inside (addP (ptAt (stopsF wall s) t) (ptAt (stopsF wall s) (t + 1))) (dS (ptAt (stopsF wall s) t, ptAt (stopsF wall s) (t + 1))) := by
    generalize ptAt (stopsF wall s) t = a at lY
    generalize ptAt (stopsF wall s) (t + 1) = b at lY
    refine ⟨?_, ?_, ?_⟩
    · unfold cr dS dP addP; simp only []; grind
    · unfold ltP at *; unfold dS dP addP; simp only []; omega
    · unfold ltP at *; unfold dS dP addP; simp only []; omega
  refine ⟨_, _, hSub2, hMin, hfree, ?_, ?_⟩
  · have hlen : (wall.map dP).length = wall.length := by simp
    have hwd : ∀ k, wAt (wall.map dP) k = dP (wAt wall k) := by
      intro k
      have hk : k % wall.length < wall.length := Nat.mod_lt _ (by omega)
      unfold wAt
      rw [hlen, ptAt_get (by simpa using hk), ptAt_get hk]
      simp
    rcases where_in hM with ⟨k, hk, ho⟩ | hr
    · rw [hlen] at hk
      exfalso
      rw [edgeF_w (by simpa using hk), hwd, hwd] at ho
      have hoff := (hfree k hk).dbl.off hMin
      rw [buildS_wall hk, edgeF_w hk] at hoff
      apply hoff
      have : dS (endsF (wAt wall k, wAt wall (k + 1))) = endsF (dP (wAt wall k), dP (wAt wall (k + 1))) := by
        unfold endsF dS
        simp only [lt_d]
        split <;> rfl
      rw [this, onS_ends]
      exact ho
    · rw [hlen] at hr
      have : (fun i => dP (wAt wall i)) = wAt (wall.map dP) := by funext k; exact (hwd k).symm
      rw [this]
      exact hr
  · have base : ∀ z, whereF wall z ≠ 0 → (∃ i', i' < wall.length ∧ OnS z (sgAt (buildS wall lines) i')) ∨ Par (Ring wall.length (wAt wall) z) 1 := by
      intro z hz
      rcases where_in hz with ⟨k, hk, ho⟩ | hr
      · exact .inl ⟨k, hk, by rw [buildS_wall hk, onS_ends]; exact ho⟩
      · exact .inr hr
    have all : ∀ z, z ∈ stopsF wall s → (∃ i', i' < wall.length ∧ OnS z (sgAt (buildS wall lines) i')) ∨ Par (Ring wall.length (wAt wall) z) 1 := by
      intro z hz
      rw [mem_stops hok.2.2] at hz
      rcases hz with rfl | rfl | ⟨hz, -⟩
      · exact base _ hA
      · exact base _ hB
      · obtain ⟨c, hc, ec⟩ := List.mem_iff_getElem.1 hz
        left
        refine ⟨c, hc, ?_⟩
        have e1 : wAt wall c = z := by
          unfold wAt
          rw [Nat.mod_eq_of_lt hc, ptAt_get hc, ec]
        rw [buildS_wall hc, onS_ends, edgeF_w hc, e1]
        have hne := wAt_next hpo.2.2.2.1 hpo.1 hc
        rw [e1] at hne
        unfold OnS
        refine ⟨cr_self1 _ _, ?_⟩
        have hlt := ends_ok (s := (z, wAt wall (c + 1))) hne
        rcases ends_or (z, wAt wall (c + 1)) with k2 | k2
        · rw [k2] at hlt ⊢
          exact ⟨ltP_irrefl _, ltP_asymm hlt⟩
        · rw [k2] at hlt ⊢
          exact ⟨ltP_asymm hlt, ltP_irrefl _⟩
    rintro z (rfl | rfl)
    · exact all _ mt
    · exact all _ mt1
theorem Given.walled (h : Given wall lines) : Walled (buildS wall lines).length (sgAt (buildS wall lines)) (cutR (buildS wall lines)) (cutQ (buildS wall lines)) (edgesF (cutsS (buildS wall lines))).length (eS (ptsF (cutsS (buildS wall lines))) (edgesF (cutsS (buildS wall lines)))) wall.length (wAt wall) (sgW wall) := by
  have hpo := polyOk h.poly
  refine ⟨h.cutOk.laid.1, by rw [buildS_len]; omega, fun i hi => ?_, ?_, fun i j hi hj e => wAt_inj hpo.2.2.2.1 hi hj e, fun i i' hi hi' hne j hj => h.simple hi hi' hne hj, fun i h0 hi j hj => h.lineFree h0 hi hj⟩
  · rw [buildS_wall hi, edgeF_w hi]
    unfold sgW endsF
    simp only []
    have hne := wAt_next hpo.2.2.2.1 hpo.1 hi
    rcases ltP_total hne with k | k
    · rw [if_pos k, if_neg (ltP_asymm k)]; exact .inl ⟨rfl, rfl⟩
    · rw [if_neg (ltP_asymm k), if_pos k]; exact .inr ⟨rfl, rfl⟩
  · unfold wAt
    rw [Nat.mod_self, Nat.zero_mod]
end Go.Proofs.YtlglfcdobbocnaaGreat

/-! What At, On and Walk answer on a map that was built, and what that says of the wall. -/
namespace Go.Proofs.YtlglfcdobbocnaaGreat
/-- faces.height. -/
def heightF (s t : Sg) (x : Int) : Int := cmpI (hgt s x * (2 * (t.2.1 - t.1.1))) (hgt t x * (2 * (s.2.1 - s.1.1)))
def spansB (s : Sg) (x : Int) : Bool := decide (s.1.1 ≤ x) && decide (x < s.2.1)
theorem spansB_iff (s : Sg) (x : Int) : spansB s x = true ↔ Spans s x := by unfold spansB Spans; simp
theorem height_lt {n : Nat} {e : Nat → Sg} {x : Int} {i j : Nat} (hi : i < n) (hj : j < n) (si : Spans (e i) x) (sj : Spans (e j) x) : heightF (e i) (e j) x < 0 ↔ hh n e x i < hh n e x j := by
  rw [← (ab_iff hi hj si).trans ⟨fun h => h.2, fun h => ⟨sj, h⟩⟩]
  unfold heightF Ab
  rw [cmpI_lt, gap_hgt]
  have e1 : hgt (e i) x * (2 * ((e j).2.1 - (e j).1.1)) = 2 * (hgt (e i) x * ((e j).2.1 - (e j).1.1)) := by grind
  have e2 : hgt (e j) x * (2 * ((e i).2.1 - (e i).1.1)) = 2 * (hgt (e j) x * ((e i).2.1 - (e i).1.1)) := by grind
  rw [e1, e2]
  unfold Spans at sj
  omega
section
variable (n : Nat) (e : Nat → Sg)
def ltH (x : Int) (i j : Nat) : Bool := decide (heightF (e i) (e j) x < 0)
def columnF (x : Int) : List Nat := isort (ltH e x) ((List.range n).filter fun i => spansB (e i) x)
/-- faces.at. -/
def atF (face : Nat → Int) (p : Pt) : Int :=
  match (columnF n e p.1).find? (fun i => decide (cr (e i).1 (e i).2 p < 0)) with
  | some i => face (2 * i + 1)
  | none => 0
def onF (p : Pt) : List Nat := (List.range n).filter fun i => onB p (e i)
end
theorem columnF_mem {n : Nat} {e : Nat → Sg} {x : Int} {i : Nat} : i ∈ columnF n e x ↔ i < n ∧ Spans (e i) x := by
  unfold columnF
  rw [(isort_perm _ _).mem_iff, List.mem_filter, List.mem_range, spansB_iff]
theorem ltH_lin {n : Nat} {e : Nat → Sg} (hf : Figure n e) (x : Int) : LinB (fun i => i < n ∧ Spans (e i) x) (ltH e x) := by
  have key : ∀ i j, i < n ∧ Spans (e i) x → j < n ∧ Spans (e j) x → (ltH e x i j = true ↔ hh n e x i < hh n e x j) := fun i j hi hj => by
    unfold ltH
    rw [decide_eq_true_eq, height_lt hi.1 hj.1 hi.2 hj.2]
  refine ⟨fun i j hi hj h => ?_, fun i j k hi hj hk h1 h2 => ?_, fun i j hi hj hn => ?_⟩
  · cases c : ltH e x j i with
    | false => rfl
    | true =>
      rw [key i j hi hj] at h
      rw [key j i hj hi] at c
      omega
  · rw [key i j hi hj] at h1
    rw [key j k hj hk] at h2
    rw [key i k hi hk]
    omega
  · rw [key i j hi hj, key j i hj hi]
    have := hh_ne hf hi.1 hj.1 hi.2 hj.2 hn
    omega
theorem columnF_rise {n : Nat} {e : Nat → Sg} (hf : Figure n e) (x : Int) : Rise (ltH e x) (columnF n e x) := isort_rise (ltH_lin hf x) fun y hy => by
  rw [List.mem_filter, List.mem_range, spansB_iff] at hy
  exact hy
theorem at_is {n : Nat} {e : Nat → Sg} (hf : Figure n e) (face : Nat → Int) (p : Pt) : AtIs n e face p (atF n e face p) := by
  unfold atF
  have hpp : ∀ j, Pp p (e j) ↔ Spans (e j) p.1 ∧ cr (e j).1 (e j).2 p < 0 := fun j => by unfold Pp Spans; exact and_assoc.symm
  cases c : (columnF n e p.1).find? (fun i => decide (cr (e i).1 (e i).2 p < 0)) with
  | none =>
    refine .inr ⟨fun j hj h => ?_, rfl⟩
    have := List.find?_eq_none.1 c j (columnF_mem.2 ⟨hj, ((hpp j).1 h).1⟩)
    simp only [decide_eq_true_eq] at this
    exact this ((hpp j).1 h).2
  | some i =>
    obtain ⟨h1, as, bs, he, hb⟩ := List.find?_eq_some_iff_append.1 c
    rw [decide_eq_true_eq] at h1
    have hm : i ∈ columnF n e p.1 := by rw [he]; simp
    have hi := columnF_mem.1 hm
    refine .inl ⟨i, hi.1, (hpp i).2 ⟨hi.2, h1⟩, fun j hj h => ?_, rfl⟩
    have h := (hpp j).1 h
    have hmj : j ∈ columnF n e p.1 := columnF_mem.2 ⟨hj, h.1⟩
    rw [he] at hmj
    rcases List.mem_append.1 hmj with k | k
    · have := hb j k
      simp [h.2] at this
    rcases List.mem_cons.1 k with rfl | k
    · omega
    · have hr := columnF_rise hf p.1
      rw [he] at hr
      unfold Rise at hr
      rw [List.pairwise_append, List.pairwise_cons] at hr
      have := hr.2.1.1 j k
      unfold ltH at this
      rw [decide_eq_false_iff_not, height_lt hj hi.1 h.1 hi.2] at this
      omega
theorem onF_nil {n : Nat} {e : Nat → Sg} {p : Pt} (h : onF n e p = []) : ∀ k, k < n → ¬ OnS p (e k) := by
  intro k hk ho
  have : k ∈ onF n e p := by
    unfold onF
    rw [List.mem_filter, List.mem_range]
    exact ⟨hk, by unfold onB; simpa using ho⟩
  rw [h] at this
  cases this
theorem onF_some {n : Nat} {e : Nat → Sg} {p : Pt} (h : onF n e p ≠ []) : ∃ k, k < n ∧ OnS p (e k) := by
  obtain ⟨k, hk⟩ := List.exists_mem_of_ne_nil _ h
  unfold onF at hk
  rw [List.mem_filter, List.mem_range] at hk
  exact ⟨k, hk.1, by have := hk.2; unfold onB at this; simpa using this⟩
/-- Where a point is, of a polygon on no edge of which it lies. -/
theorem where_off {l : List Pt} {p : Pt} (h : ∀ i, i < l.length → ¬ OnS p (edgeF l i)) : (whereF l p = 0 ∧ Par (Ring l.length (wAt l) p) 0) ∨ (whereF l p = 2 ∧ Par (Ring l.length (wAt l) p) 1) := by
  have hr := inF_ring l p l.length (Nat.le_refl _)
  unfold whereF
  rw [if_neg (by
    rw [List.any_eq_true]
    rintro ⟨i, hi, ho⟩
    unfold onB at ho
    exact h i (List.mem_range.1 hi) (by simpa using ho))]
  by_cases c : inF l p l.length = true
  · rw [if_pos c] at hr ⊢
    exact .inr ⟨rfl, hr⟩
  · rw [if_neg c] at hr ⊢
    exact .inl ⟨rfl, hr⟩
theorem where_on {l : List Pt} {p : Pt} {i : Nat} (hi : i < l.length) (h : OnS p (edgeF l i)) : whereF l p = 1 := by
  unfold whereF
  rw [if_pos (List.any_eq_true.2 ⟨i, List.mem_range.2 hi, by unfold onB; simpa using h⟩)]
variable {wall : List Pt} {lines : List Sg}
section
variable (wall : List Pt) (lines : List Sg)
/-- The pieces, points and edges of the map that is built. -/
def cutB : List Sg := cutsS (buildS wall lines)
def ptsB : List Pt := ptsF (cutB wall lines)
def edgB : List (Nat × Nat) := edgesF (cutB wall lines)
end
structure Built (wall : List Pt) (lines : List Sg) : Prop where
  given : Given wall lines
  joined : Joined (cutB wall lines)
theorem Built.sound (h : Built wall lines) : Sound (ptsB wall lines) (edgB wall lines) := by
  refine h.joined.sound h.given.cutOk fun s hs => ?_
  obtain ⟨i, hi, rfl⟩ := List.mem_iff_getElem.1 hs
  rw [← sgAt_get hi]
  exact h.given.ok hi
theorem Built.mapped (h : Built wall lines) : Mapped (buildS wall lines).length (sgAt (buildS wall lines)) (cutR (buildS wall lines)) (cutQ (buildS wall lines)) (edgB wall lines).length (eS (ptsB wall lines) (edgB wall lines)) wall.length (wAt wall) (sgW wall) (nxtF (ptsB wall lines) (edgB wall lines)) (faceE (ptsB wall lines) (edgB wall lines)) :=
  ⟨h.given.walled, h.sound.faced, h.sound.orb⟩
theorem wallOn {i : Nat} (hi : i < wall.length) {p : Pt} : OnS p (sgAt (buildS wall lines) i) ↔ OnS p (edgeF wall i) := by
  rw [buildS_wall hi, onS_ends]
theorem WhereF_eq (h : Built wall lines) {p : Pt} (hp : okB p = true) : WhereF wall p = whereF wall p := by
  unfold WhereF
  rw [if_neg]
  rintro (k | k)
  · exact k h.given.poly
  · rw [hp] at k; cases k
/-- On an edge: not outside. -/
theorem Built.on_law (h : Built wall lines) {p : Pt} (hp : okB p = true) (ho : onF (edgB wall lines).length (eS (ptsB wall lines) (edgB wall lines)) p ≠ []) : WhereF wall p ≠ 0 := by
  rw [WhereF_eq h hp]
  obtain ⟨k, hk, hon⟩ := onF_some ho
  have hw := h.mapped.walled.on hk hon
  by_cases c : ∃ i, i < wall.length ∧ OnS p (edgeF wall i)
  · obtain ⟨i, hi, ho⟩ := c
    rw [where_on hi ho]
    decide
  · rcases hw with ⟨i, hi, ho⟩ | hr
    · exact absurd ⟨i, hi, (wallOn hi).1 ho⟩ c
    · rcases where_off (fun i hi ho => c ⟨i, hi, ho⟩) with ⟨-, e2⟩ | ⟨e1, -⟩
      · unfold Par at hr e2
        omega
      · rw [e1]; decide
/-- On none: outside just where the face is none. -/
theorem Built.at_law (h : Built wall lines) {p : Pt} (hp : okB p = true) (ho : onF (edgB wall lines).length (eS (ptsB wall lines) (edgB wall lines)) p = []) : atF (edgB wall lines).length (eS (ptsB wall lines) (edgB wall lines)) (faceE (ptsB wall lines) (edgB wall lines)) p = 0 ↔ WhereF wall p = 0 := by
  rw [WhereF_eq h hp]
  have hn := onF_nil ho
  obtain ⟨hoff, ha⟩ := h.mapped.where_ hn (at_is h.sound.laid.fig _ p)
  rw [ha]
  rcases where_off (fun i hi ho => hoff i hi ((wallOn hi).2 ho)) with ⟨e1, e2⟩ | ⟨e1, e2⟩
  · exact ⟨fun _ => e1, fun _ => e2⟩
  · refine ⟨fun k => ?_, fun k => ?_⟩
    · unfold Par at k e2
      omega
    · rw [e1] at k; cases k
/-! ### The way round a face -/
section
variable (P : List Pt) (E : List (Nat × Nat))
def leastF (f : Int) : Nat := (numE P E (2 * E.length)).face.idxOf f
/-- faces.Walk. -/
def walkF (f : Int) : List Nat := (orbE P E (leastF P E f)).map (dTail E)
def walkedF (f : Int) : List Pt := (walkF P E f).map fun i => P.getD i (0, 0)
end
variable {P : List Pt} {E : List (Nat × Nat)}
theorem least_ok (h : Sound P E) {f : Nat} (h1 : 1 ≤ f) (h2 : f ≤ (numE P E (2 * E.length)).many) : leastF P E f < 2 * E.length ∧ faceE P E (leastF P E f) = f := by
  obtain ⟨x, hx, e⟩ := h.faces.all f h1 h2
  have hl := (numE_ok P E (2 * E.length) (Nat.le_refl _)).fl
  have hm : (f : Int) ∈ (numE P E (2 * E.length)).face := by
    rw [← e]
    exact getD_mem _ (by rw [hl]; exact hx)
  have hi := List.idxOf_lt_length_of_mem hm
  refine ⟨by have := hi; rw [hl] at this; exact this, ?_⟩
  unfold faceE leastF
  rw [List.getD_eq_getElem?_getD, List.getElem?_eq_getElem hi, Option.getD_some]
  exact List.getElem_idxOf hi
theorem walked_at {d k : Nat} (h0 : 0 < k) (hk : it (nxtF P E) d k = d) (hd : d < 2 * E.length) (l : List Pt) (hl : l = ((List.range k).map (it (nxtF P E) d)).map fun x => dFrom (eS P E) x) : l.length = k ∧ ∀ i, i < k → wAt l i = dFrom (eS P E) (it (nxtF P E) d i) ∧ wAt l (i + 1) = dTo (eS P E) (it (nxtF P E) d i) := by
  have hlen : l.length = k := by rw [hl]; simp
  have hw : ∀ i, wAt l i = dFrom (eS P E) (it (nxtF P E) d i) := by
    intro i
    unfold wAt
    rw [hlen, ptAt_get (by rw [hlen]; exact Nat.mod_lt _ h0), it_mod h0 hk i]
    simp only [hl, List.getElem_map, List.getElem_range]
  refine ⟨hlen, fun i hi => ⟨hw i, ?_⟩⟩
  rw [hw]
  have hi' := (inj_nxt P E).it_lt hd i
  show dFrom (eS P E) (nxtF P E (it (nxtF P E) d i)) = _
  rw [dFrom_tail, dTo_head, (nxt_out hi').2]
theorem walkedF_eq (f : Int) : walkedF P E f = (orbE P E (leastF P E f)).map fun x => dFrom (eS P E) x := by
  unfold walkedF walkF
  rw [List.map_map]
  refine List.map_congr_left fun x _ => ?_
  rw [dFrom_tail]
  rfl
/-- What a simple face's way encloses is that face. -/
theorem Sound.walk_law (h : Sound P E) {f : Nat} (h1 : 1 ≤ f) (h2 : f ≤ (numE P E (2 * E.length)).many) {p : Pt} (hp : okB p = true) (hn : ∀ i, i < E.length → ¬ OnS p (eS P E i)) (hpoly : polyF (walkedF P E f) = 0) :
    WhereF (walkedF P E f) p = 2 ↔ atF E.length (eS P E) (faceE P E) p = f := by
  obtain ⟨hd, hf⟩ := least_ok h h1 h2
  have hr := h.ring hd (by rw [hf]; omega) hn (at_is h.laid.fig (faceE P E) p)
  rw [hf] at hr
  obtain ⟨k, k0, k1, k2, -, ke⟩ := ((inj_nxt P E).orb hd).ex
  have ke : orbE P E (leastF P E f) = (List.range k).map (it (nxtF P E) (leastF P E f)) := ke
  have hl := walkedF_eq (P := P) (E := E) f
  rw [ke] at hl hr
  obtain ⟨hlen, hat⟩ := walked_at k0 k2 hd _ hl
  generalize walkedF P E f = l at hl hlen hat hpoly
  have hring : Ring l.length (wAt l) p = (((List.range k).map (it (nxtF P E) (leastF P E f))).map fun x => ind (Hc p (dFrom (eS P E) x) (dTo (eS P E) x))).sum := by
    unfold Ring
    rw [List.map_map, hlen, sm_list]
    congr 1
    refine List.map_congr_left fun i hi => ?_
    have := hat i (List.mem_range.1 hi)
    rw [this.1, this.2]
    rfl
  rw [← hring] at hr
  have hoff : ∀ i, i < l.length → ¬ OnS p (edgeF l i) := by
    intro i hi ho
    have hik : i < k := by omega
    rw [edgeF_w hi, (hat i hik).1, (hat i hik).2] at ho
    have hx := (inj_nxt P E).it_lt hd i
    refine hn (it (nxtF P E) (leastF P E f) i / 2) (by omega) ?_
    unfold dFrom dTo at ho
    split at ho
    · exact ho
    · rw [← onS_ends, show endsF ((eS P E (it (nxtF P E) (leastF P E f) i / 2)).2, (eS P E (it (nxtF P E) (leastF P E f) i / 2)).1) = endsF (eS P E (it (nxtF P E) (leastF P E f) i / 2)) from ends_flip, onS_ends] at ho
      exact ho
  have hW : WhereF l p = whereF l p := by
    unfold WhereF
    rw [if_neg]
    rintro (k | k)
    · exact k hpoly
    · rw [hp] at k; cases k
  rw [hW]
  by_cases c : atF E.length (eS P E) (faceE P E) p = f
  · rw [ind_true c] at hr
    rcases where_off hoff with ⟨e1, e2⟩ | ⟨e1, e2⟩
    · unfold Par at hr e2
      omega
    · exact ⟨fun _ => c, fun _ => e1⟩
  · rw [ind_false c] at hr
    rcases where_off hoff with ⟨e1, e2⟩ | ⟨e1, e2⟩
    · exact ⟨fun k => (by rw [e1] at k; cases k), fun k => absurd k c⟩
    · unfold Par at hr e2
      omega
end Go.Proofs.YtlglfcdobbocnaaGreat

/-! What is put together is listed as a map must be. -/
namespace Go.Proofs.YtlglfcdobbocnaaGreat
variable {S : List Sg}
theorem edges_up (h : CutOk S) {i : Nat} (hi : i < (edgesF (cutsS S)).length) : ((edgesF (cutsS S)).getD i (0, 0)).1 < ((edgesF (cutsS S)).getD i (0, 0)).2 ∧ ((edgesF (cutsS S)).getD i (0, 0)).2 < (ptsF (cutsS S)).length := by
  have hl := h.laid.2.fig.lt i hi
  have hi' : i < (cutsS S).length := by rw [edgesF_len] at hi; exact hi
  rw [eS_get hi'] at hl
  have he := sg_ends (ordAt_lt hi')
  rw [edgesF_get hi']
  exact ⟨(idx_strict (uniP_strict _) he.1 he.2).1 hl, List.idxOf_lt_length_of_mem he.2⟩
theorem edges_rise {T : List Sg} (hn : T.Nodup) {i : Nat} (hi : i + 1 < (edgesF T).length) : ltN ((edgesF T).getD i (0, 0)) ((edgesF T).getD (i + 1) (0, 0)) = true := by
  rw [edgesF_len] at hi
  rw [edgesF_get (by omega), edgesF_get hi]
  have hr : Rise (ltE T) (orderF T) := isort_rise (ltE_lin hn) fun x hx => List.mem_range.1 hx
  have hnd : (orderF T).Nodup := (orderF_perm T).nodup_iff.2 List.nodup_range
  have h1 := List.pairwise_iff_getElem.1 hr i (i + 1) (by rw [orderF_len]; omega) (by rw [orderF_len]; omega) (by omega)
  have h2 := List.pairwise_iff_getElem.1 (List.nodup_iff_pairwise_ne.1 hnd) i (i + 1) (by rw [orderF_len]; omega) (by rw [orderF_len]; omega) (by omega)
  have e1 : (orderF T)[i]'(by rw [orderF_len]; omega) = ordAt T i := by
    unfold ordAt
    rw [List.getD_eq_getElem?_getD, List.getElem?_eq_getElem (by rw [orderF_len]; omega), Option.getD_some]
  have e2 : (orderF T)[i + 1]'(by rw [orderF_len]; omega) = ordAt T (i + 1) := by
    unfold ordAt
    rw [List.getD_eq_getElem?_getD, List.getElem?_eq_getElem (by rw [orderF_len]; omega), Option.getD_some]
  rw [e1, e2] at h1 h2
  rcases (ltE_lin hn).tri (ordAt T i) (ordAt T (i + 1)) (ordAt_lt (by omega)) (ordAt_lt hi) h2 with k | k
  · exact k
  · rw [k] at h1; cases h1
theorem ord_of {T : List Sg} {j : Nat} (hj : j < T.length) : ∃ k, k < T.length ∧ ordAt T k = j := by
  have : j ∈ orderF T := (orderF_perm T).mem_iff.2 (List.mem_range.2 hj)
  obtain ⟨k, hk, e⟩ := List.mem_iff_getElem.1 this
  refine ⟨k, by rw [orderF_len] at hk; exact hk, ?_⟩
  unfold ordAt
  rw [List.getD_eq_getElem?_getD, List.getElem?_eq_getElem hk, Option.getD_some, e]
theorem strict_nodup {P : List Pt} (h : StrictP P) : P.Nodup := by
  unfold StrictP at h
  refine List.nodup_iff_pairwise_ne.2 (h.imp fun {a b} k e => ?_)
  subst e
  exact ltP_irrefl _ k
theorem strict_idx {P : List Pt} (h : StrictP P) {p : Nat} (hp : p < P.length) : P.idxOf P[p] = p := by
  have hm : P[p] ∈ P := List.getElem_mem hp
  have hi := List.idxOf_lt_length_of_mem hm
  have e := List.getElem_idxOf hi
  have hpw := List.pairwise_iff_getElem.1 (List.nodup_iff_pairwise_ne.1 (strict_nodup h))
  rcases Nat.lt_trichotomy (P.idxOf P[p]) p with k | k | k
  · exact absurd e (hpw _ _ hi hp k)
  · exact k
  · exact absurd e.symm (hpw _ _ hp hi k)
theorem edges_used {T : List Sg} {p : Nat} (hp : p < (ptsF T).length) : ∃ i, i < (edgesF T).length ∧ (((edgesF T).getD i (0, 0)).1 = p ∨ ((edgesF T).getD i (0, 0)).2 = p) := by
  have hm : (ptsF T)[p] ∈ ptsF T := List.getElem_mem hp
  have hid := strict_idx (uniP_strict (endsS T)) hp
  have hm2 := hm
  unfold ptsF at hm2
  rw [uniP_mem, mem_endsS] at hm2
  obtain ⟨j, hj, hz⟩ := hm2
  obtain ⟨k, hk, rfl⟩ := ord_of hj
  refine ⟨k, by rw [edgesF_len]; exact hk, ?_⟩
  rw [edgesF_get hk]
  unfold ixF
  rcases hz with hz | hz
  · exact .inl (by rw [← hz]; exact hid)
  · exact .inr (by rw [← hz]; exact hid)
theorem edges_meet (h : CutOk S) {i k : Nat} (hi : i < (edgesF (cutsS S)).length) (hk : k < (edgesF (cutsS S)).length) (hn : i ≠ k) : meetG (eS (ptsF (cutsS S)) (edgesF (cutsS S)) i) (eS (ptsF (cutsS S)) (edgesF (cutsS S)) k) = 0 ∨ meetG (eS (ptsF (cutsS S)) (edgesF (cutsS S)) i) (eS (ptsF (cutsS S)) (edgesF (cutsS S)) k) = 1 := by
  have := h.laid.1.meets hi hk hn
  unfold meetG MeetF
  split
  · exact .inl rfl
  · split
    · exact this
    · exact .inl rfl
theorem strict_cmp {P : List Pt} (h : StrictP P) {i : Nat} (hi : i + 1 < P.length) : cmpP (P.getD i (0, 0)) (P.getD (i + 1) (0, 0)) < 0 := by
  rw [cmpP_lt, List.getD_eq_getElem?_getD, List.getD_eq_getElem?_getD, List.getElem?_eq_getElem (by omega), List.getElem?_eq_getElem hi]
  exact List.pairwise_iff_getElem.1 h i (i + 1) (by omega) hi (by omega)
end Go.Proofs.YtlglfcdobbocnaaGreat

/-! Lengths of what is cut. -/
namespace Go.Proofs.YtlglfcdobbocnaaGreat
theorem insP_len : ∀ (l : List Pt) (x : Pt), (insP l x).length ≤ l.length + 1
  | [], _ => by simp [insP]
  | y :: l, x => by
    unfold insP
    split
    · simp
    · split
      · simp
      · have := insP_len l x
        simp only [List.length_cons]
        omega
theorem foldP_len : ∀ (l acc : List Pt), (l.foldl insP acc).length ≤ acc.length + l.length
  | [], _ => by simp
  | x :: l, acc => by
    rw [List.foldl_cons, List.length_cons]
    have h1 := foldP_len l (insP acc x)
    have h2 := insP_len acc x
    omega
theorem uniP_len (l : List Pt) : (uniP l).length ≤ l.length := by
  have := foldP_len l []
  unfold uniP
  simpa using this
theorem chainS_len : ∀ (a : Pt) (l : List Pt), (chainS a l).length = l.length
  | _, [] => rfl
  | _, x :: l => by unfold chainS; rw [List.length_cons, chainS_len x l, List.length_cons]
theorem chainS_get : ∀ (a : Pt) (l : List Pt) (j : Nat) (h : j < (chainS a l).length), (chainS a l)[j] = (ptAt (a :: l) j, ptAt (a :: l) (j + 1))
  | _, [], j, h => by simp [chainS] at h
  | a, x :: l, 0, h => by simp [chainS, ptAt]
  | a, x :: l, j + 1, h => by
    have h' : j < (chainS x l).length := by unfold chainS at h; simpa using h
    have e := chainS_get x l j h'
    simp only [chainS, List.getElem_cons_succ]
    rw [e]
    rfl
theorem chainS_take (a : Pt) (l : List Pt) {k : Nat} (hk : k < l.length) : (chainS a l).take (k + 1) = (chainS a l).take k ++ [(ptAt (a :: l) k, ptAt (a :: l) (k + 1))] := by
  have h : k < (chainS a l).length := by rw [chainS_len]; exact hk
  rw [List.take_succ_eq_append_getElem h, chainS_get a l k h]
theorem cutF_len (s : Sg) (l : List Pt) : (cutF s l).length ≤ l.length + 1 := by
  unfold cutF stopsC
  rw [chainS_len, List.length_append, List.length_singleton]
  have := uniP_len (l.filter fun x => insideB x s)
  have := List.length_filter_le (fun x => insideB x s) l
  omega
theorem endsS_len : ∀ (S : List Sg), (endsS S).length = 2 * S.length
  | [] => rfl
  | s :: S => by
    have := endsS_len S
    unfold endsS at *
    rw [List.flatMap_cons, List.length_append, this]
    simp only [List.length_cons, List.length_nil]
    omega
end Go.Proofs.YtlglfcdobbocnaaGreat

/-! A square with a line across it. -/
set_option maxRecDepth 100000
namespace Go.Proofs.YtlglfcdobbocnaaGreat
def sqW : List Pt := [(0, 0), (4, 0), (4, 4), (0, 4)]
def sqL : List Sg := [((0, 2), (4, 2))]
def sqP : List Pt := [(0, 0), (0, 2), (0, 4), (4, 0), (4, 2), (4, 4)]
def sqE : List (Nat × Nat) := [(0, 1), (0, 3), (1, 2), (1, 4), (2, 5), (3, 4), (4, 5)]
theorem sq_pts : ptsB sqW sqL = sqP := by decide +kernel
theorem sq_edg : edgB sqW sqL = sqE := by decide +kernel
theorem sq_poly : polyF sqW = 0 := by decide +kernel
theorem sq_len : (cutB sqW sqL).length = 7 := by decide +kernel
theorem sq_lin : ∀ s ∈ sqL, okS s = true ∧ withinF sqW s = true := by decide +kernel
theorem sq_cross : ∀ i, i < 5 → ∀ k, k < i → meetG (sgAt (buildS sqW sqL) i) (sgAt (buildS sqW sqL) k) ≠ 3 ∧ meetG (sgAt (buildS sqW sqL) i) (sgAt (buildS sqW sqL) k) ≠ 4 := by decide +kernel
theorem sq_given : Given sqW sqL := ⟨sq_poly, sq_lin, fun i k hk hi => sq_cross i hi k hk⟩
theorem sq_many : (numE sqP sqE 14).many = 2 := by decide +kernel
theorem sq_one : (numE sqP sqE 14).outside = 1 := by decide +kernel
theorem sq_flat : (numE sqP sqE 14).flat = false := by decide +kernel
theorem sq_area1 : areaW sqP sqE (orbE sqP sqE (leastF sqP sqE 1)) = 16 := by decide +kernel
theorem sq_area2 : areaW sqP sqE (orbE sqP sqE (leastF sqP sqE 2)) = 16 := by decide +kernel
theorem sq_reach : ∀ p, p < 6 → Reach sqE p := by
  have r0 : Reach sqE 0 := .zero
  have r1 : Reach sqE 1 := Reach.step (E := sqE) (d := 0) r0 (by decide)
  have r3 : Reach sqE 3 := Reach.step (E := sqE) (d := 2) r0 (by decide)
  have r2 : Reach sqE 2 := Reach.step (E := sqE) (d := 4) r1 (by decide)
  have r4 : Reach sqE 4 := Reach.step (E := sqE) (d := 6) r1 (by decide)
  have r5 : Reach sqE 5 := Reach.step (E := sqE) (d := 8) r2 (by decide)
  intro p hp
  match p, hp with
  | 0, _ => exact r0
  | 1, _ => exact r1
  | 2, _ => exact r2
  | 3, _ => exact r3
  | 4, _ => exact r4
  | 5, _ => exact r5
theorem sq_joined : Joined (cutB sqW sqL) := by
  have hp : ptsF (cutB sqW sqL) = sqP := sq_pts
  have he : edgesF (cutB sqW sqL) = sqE := sq_edg
  refine ⟨by rw [sq_len]; decide, by rw [sq_len]; decide, fun p h => ?_, by rw [hp]; decide, ?_, ?_, ?_, ?_⟩
  · rw [he]
    rw [hp] at h
    exact sq_reach p h
  · rw [hp, he, sq_len, sq_many]; decide
  · rw [hp, he, sq_len]; exact sq_one
  · rw [hp, he, sq_len]; exact sq_flat
  · rw [hp, he, sq_len, sq_many]; decide
theorem sq_built : Built sqW sqL := ⟨sq_given, sq_joined⟩
end Go.Proofs.YtlglfcdobbocnaaGreat
