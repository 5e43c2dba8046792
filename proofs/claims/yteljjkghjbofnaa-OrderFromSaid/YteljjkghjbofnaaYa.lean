/- The references' answers, plainly: what is wrong with a problem, who leads to whom, orders, reasons, levels, what Close and Reduce leave; and that they are the program's. No program is walked here. -/
import Derived.Test.YteljjkghjbofnaaMe
import Derived.Test.YteljjkghjbofnaaMd
set_option maxRecDepth 100000
namespace Go.Proofs.Yteljjkghjbofnaa
open Go Go.Proofs Go.RowKit

/-! ### ref.pairs, ref.Check -/

theorem cmpP_neg (a b : Int × Int) : cmpP a b < 0 ↔ a.1 < b.1 ∨ a.1 = b.1 ∧ a.2 < b.2 := by
  unfold cmpP orI cmpI
  by_cases h1 : a.1 < b.1
  · simp [h1]
  · by_cases h2 : b.1 < a.1
    · simp [h1, h2]; omega
    · have e : a.1 = b.1 := by omega
      unfold orI
      by_cases h3 : a.2 < b.2
      · simp [e, h3]
      · by_cases h4 : b.2 < a.2
        · simp [e, h3, h4]
        · have e2 : a.2 = b.2 := by omega
          simp [e, e2, orI]

/-- Is a pair one of two different numbers below N, the first one less than the second if that is asked? -/
def pairOk (N : Int) (r : Bool) (x : Int × Int) : Bool := !badB N x.1 x.2 && !(r && decide (x.2 < x.1))
theorem pairOk_iff {N : Int} {r : Bool} {x : Int × Int} : pairOk N r x = true ↔ 0 ≤ x.1 ∧ x.1 < N ∧ 0 ≤ x.2 ∧ x.2 < N ∧ x.1 ≠ x.2 ∧ (r = true → x.1 < x.2) := by
  unfold pairOk badB
  cases r <;> simp <;> omega
def pairsB (l : List (Int × Int)) (N : Int) (r : Bool) : Bool := l.all (pairOk N r) && risB l
def chkR (o : Prob) : Int := if 24 < o.N then 2 else if o.N < 0 ∨ pairsB o.arcs o.N false = false ∨ pairsB o.near o.N true = false then 1 else 0
theorem pairsB_false_of {l : List (Int × Int)} {N : Int} {r : Bool} {i : Nat} (h : i < l.length) (hi : pairOk N r l[i] = false) : pairsB l N r = false := by
  unfold pairsB
  have : l.all (pairOk N r) = false := by rw [List.all_eq_false]; exact ⟨l[i], List.getElem_mem h, by simp [hi]⟩
  rw [this]; rfl
theorem chkR_eq (o : Prob) : chkR o = chk o := by
  unfold chkR chk
  split
  · rfl
  · congr 1
    refine propext ⟨?_, ?_⟩
    · rintro (h | h | h)
      · exact .inl h
      · unfold pairsB at h
        rw [Bool.and_eq_false_iff] at h
        rcases h with h | h
        · rw [List.all_eq_false] at h
          obtain ⟨x, hx, h⟩ := h
          unfold pairOk at h
          simp at h
          exact .inr (.inl (List.any_eq_true.2 ⟨x, hx, h⟩))
        · exact .inr (.inr (.inr (.inl h)))
      · unfold pairsB at h
        rw [Bool.and_eq_false_iff] at h
        rcases h with h | h
        · rw [List.all_eq_false] at h
          obtain ⟨x, hx, h⟩ := h
          unfold pairOk at h
          simp at h
          by_cases hb : badB o.N x.1 x.2 = true
          · exact .inr (.inr (.inl (List.any_eq_true.2 ⟨x, hx, hb⟩)))
          · exact .inr (.inr (.inr (.inr (.inr (List.any_eq_true.2 ⟨x, hx, by simpa using h (by simpa using hb)⟩)))))
        · exact .inr (.inr (.inr (.inr (.inl h))))
    · rintro (h | h | h | h | h | h)
      · exact .inl h
      · obtain ⟨x, hx, h⟩ := List.any_eq_true.1 h
        refine .inr (.inl ?_)
        unfold pairsB
        have : o.arcs.all (pairOk o.N false) = false := by rw [List.all_eq_false]; exact ⟨x, hx, by unfold pairOk; simp [h]⟩
        rw [this]; rfl
      · obtain ⟨x, hx, h⟩ := List.any_eq_true.1 h
        refine .inr (.inr ?_)
        unfold pairsB
        have : o.near.all (pairOk o.N true) = false := by rw [List.all_eq_false]; exact ⟨x, hx, by unfold pairOk; simp [h]⟩
        rw [this]; rfl
      · refine .inr (.inl ?_)
        unfold pairsB; rw [h, Bool.and_false]
      · refine .inr (.inr ?_)
        unfold pairsB; rw [h, Bool.and_false]
      · obtain ⟨x, hx, h⟩ := List.any_eq_true.1 h
        refine .inr (.inr ?_)
        unfold pairsB
        have : o.near.all (pairOk o.N true) = false := by rw [List.all_eq_false]; exact ⟨x, hx, by unfold pairOk; simp at h; simp [h]⟩
        rw [this]; rfl

/-! ### Tables of who leads to whom -/

abbrev Mx := Nat → Nat → Bool
def mulM (c : Nat) (M : Mx) : Mx := fun x y => M x y || (M x c && M c y)
def chM (M : Mx) : Nat → Mx
  | 0 => M
  | k + 1 => mulM k (chM M k)
/-- A round's rows from 0 to k - 1 are done. -/
def rowsM (c : Nat) (M : Mx) (k : Nat) : Mx := fun x y => if x < k then mulM c M x y else M x y
/-- Of row a the columns from 0 to k - 1 too. -/
def colsM (c : Nat) (M : Mx) (a k : Nat) : Mx := fun x y => if x < a ∨ (x = a ∧ y < k) then mulM c M x y else M x y
def setM (M : Mx) (a b : Nat) (v : Bool) : Mx := fun x y => if x = a ∧ y = b then v else M x y
theorem mulM_col (c : Nat) (M : Mx) (x : Nat) : mulM c M x c = M x c := by unfold mulM; cases M x c <;> simp
theorem mulM_row (c : Nat) (M : Mx) (y : Nat) : mulM c M c y = M c y := by unfold mulM; cases M c y <;> simp
theorem colsM_col (c : Nat) (M : Mx) (a k x : Nat) : colsM c M a k x c = M x c := by unfold colsM; split; exact mulM_col c M x; rfl
theorem colsM_row (c : Nat) (M : Mx) (a k y : Nat) : colsM c M a k c y = M c y := by unfold colsM; split; exact mulM_row c M y; rfl
theorem colsM_at (c : Nat) (M : Mx) (a k : Nat) : colsM c M a k a k = M a k := by unfold colsM; rw [if_neg (by omega)]
theorem colsM_zero (c : Nat) (M : Mx) (a : Nat) : colsM c M a 0 = rowsM c M a := by
  funext x y
  unfold colsM rowsM
  have : (x < a ∨ x = a ∧ y < 0) ↔ x < a := by omega
  simp only [this]
theorem rowsM_zero (c : Nat) (M : Mx) : rowsM c M 0 = M := by funext x y; unfold rowsM; rw [if_neg (by omega)]
theorem colsM_succ (c : Nat) (M : Mx) (a k : Nat) : setM (colsM c M a k) a k (M a k || (M a c && M c k)) = colsM c M a (k + 1) := by
  funext x y
  unfold setM
  by_cases h : x = a ∧ y = k
  · rw [if_pos h]
    obtain ⟨rfl, rfl⟩ := h
    unfold colsM
    rw [if_pos (by omega)]
    rfl
  · rw [if_neg h]
    unfold colsM
    by_cases h2 : x < a ∨ (x = a ∧ y < k)
    · rw [if_pos h2, if_pos (by omega)]
    · rw [if_neg h2, if_neg (by omega)]
def EqM (n : Nat) (M M' : Mx) : Prop := ∀ x y, x < n → y < n → M x y = M' x y
theorem colsM_end (c : Nat) (M : Mx) (a n : Nat) : EqM n (colsM c M a n) (rowsM c M (a + 1)) := by
  intro x y _ hy
  unfold colsM rowsM
  have : (x < a ∨ x = a ∧ y < n) ↔ x < a + 1 := by omega
  simp only [this]
theorem rowsM_end (c : Nat) (M : Mx) (n : Nat) : EqM n (rowsM c M n) (mulM c M) := by
  intro x y hx _
  unfold rowsM
  rw [if_pos hx]
/-- The table of the arcs. -/
def arcsM (l : List (Int × Int)) : Mx := fun x y => l.any fun p => decide (p.1 = (x : Int)) && decide (p.2 = (y : Int))
theorem arcsM_nil : arcsM [] = fun _ _ => false := rfl
theorem arcsM_snoc (l : List (Int × Int)) (k a b : Nat) (hk : k < l.length) (h : l[k] = ((a : Int), (b : Int))) : setM (arcsM (l.take k)) a b true = arcsM (l.take (k + 1)) := by
  funext x y
  unfold setM arcsM
  rw [List.take_succ_eq_append_getElem hk, List.any_append, h]
  by_cases hh : x = a ∧ y = b
  · rw [if_pos hh]
    obtain ⟨rfl, rfl⟩ := hh
    simp
  · rw [if_neg hh]
    simp
    intro h1 h2
    exact absurd ⟨by omega, by omega⟩ hh
theorem chM_succ (M : Mx) (k : Nat) : chM M (k + 1) = mulM k (chM M k) := rfl
theorem chM_partS {n : Nat} {M : Mx} {f : Nat → S} (h : ∀ x y, x < n → M x y = hasS (f x) y) : ∀ (k : Nat), k ≤ n → ∀ x y, x < n → chM M k x y = hasS (partS n f k x) y
  | 0, _, x, y, hx => h x y hx
  | k + 1, hk, x, y, hx => by
    have ih := chM_partS h k (by omega)
    rw [chM_succ, partS_step n f k x y hx]
    unfold mulM
    rw [ih x y hx, ih x k hx, ih k y (by omega)]
/-- The table of the chains: that of the web. -/
theorem chM_reach {o : Prob} (hc : chk o = 0) {x y : Nat} (hx : x < (webOf o).n) : chM (arcsM o.arcs) (webOf o).n x y = hasS ((webOf o).reach x) y := by
  have hp := (pair_of_chk hc).2.2.1
  have h24 := (pair_of_chk hc).2.1
  refine chM_partS (n := (webOf o).n) (M := arcsM o.arcs) (f := toS o.arcs) (fun x y _ => ?_) _ (Nat.le_refl _) x y hx
  rw [Bool.eq_iff_iff, toS_has o.arcs (fun x hx => by have := hp x hx; omega)]
  unfold arcsM
  rw [List.any_eq_true]
  constructor
  · rintro ⟨p, hp1, h⟩
    simp at h
    exact ⟨p, hp1, by omega, by omega⟩
  · rintro ⟨p, hp1, h1, h2⟩
    have := hp p hp1
    exact ⟨p, hp1, by simp; omega⟩

/-! ### ref.ready, ref.ordered -/

def readyR (o : Prob) (l : List Int) (a : Int) : Bool := !decide (a ∈ l) && o.arcs.all fun x => !decide (x.2 = a) || decide (x.1 ∈ l)
def orderedR (o : Prob) (l : List Int) : Bool := decide ((l.length : Int) = o.N) && (List.range l.length).all fun i => decide (0 ≤ l.getD i 0) && decide (l.getD i 0 < o.N) && readyR o (l.take i) (l.getD i 0)

theorem webOf_to {o : Prob} (hc : chk o = 0) (a b : Nat) : hasS ((webOf o).to a) b = true ↔ ((a : Int), (b : Int)) ∈ o.arcs := by
  have hp := (pair_of_chk hc).2.2.1
  have h24 := (pair_of_chk hc).2.1
  show hasS (toS o.arcs a) b = true ↔ _
  rw [toS_has o.arcs (fun x hx => by have := hp x hx; omega)]
  constructor
  · rintro ⟨x, hx, h1, h2⟩
    have := hp x hx
    have e : x = ((a : Int), (b : Int)) := Prod.ext (by simp; omega) (by simp; omega)
    rw [← e]; exact hx
  · intro h
    exact ⟨_, h, by simp, by simp⟩
theorem webOf_nI {o : Prob} (hc : chk o = 0) : (((webOf o).n : Nat) : Int) = o.N := by have := (pair_of_chk hc).1; unfold webOf; simp; omega

theorem readyR_eq {o : Prob} (hc : chk o = 0) {l : List Int} (hl : ∀ p ∈ l, 0 ≤ p ∧ p < o.N) {p : Nat} (hp : p < (webOf o).n) : readyR o l (p : Int) = readyB (webOf o) (setS l) p := by
  have hn := webOf_nI hc
  have h24 := (pair_of_chk hc).2.1
  have hs := hasS_setS l (fun p h => by have := hl p h; omega)
  unfold readyR readyB
  rw [hs]
  congr 1
  rw [Bool.eq_iff_iff, List.all_eq_true, List.all_eq_true]
  constructor
  · intro h a ha
    rw [hs]
    by_cases hh : hasS ((webOf o).to a) p = true
    · have := h _ ((webOf_to hc a p).1 hh)
      rw [hh]
      simpa using this
    · simp at hh; simp [hh]
  · intro h x hx
    have hx' := (pair_of_chk hc).2.2.1 x hx
    by_cases e : x.2 = (p : Int)
    · have := h x.1.toNat (List.mem_range.2 (by omega))
      rw [hs, show hasS ((webOf o).to x.1.toNat) p = true from (webOf_to hc _ _).2 (by
        have e' : x = (((x.1.toNat : Nat) : Int), (p : Int)) := Prod.ext (by simp; omega) e
        rw [← e']; exact hx)] at this
      rw [show ((x.1.toNat : Nat) : Int) = x.1 by omega] at this
      simp at this
      simp [this]
    · simp [e]

theorem getD_mem {l : List Int} {i : Nat} (h : i < l.length) : l.getD i 0 = l[i] := by rw [List.getD_eq_getElem?_getD, List.getElem?_eq_getElem h]; rfl
theorem mem_take_lt {l : List Int} {x : Int} {i : Nat} (h : x ∈ l.take i) : ∃ j, ∃ (hj : j < l.length), j < i ∧ l[j] = x := by
  obtain ⟨j, hj, e⟩ := List.getElem_of_mem h
  simp at hj
  exact ⟨j, by omega, by omega, by rw [List.getElem_take] at e; exact e⟩
theorem take_mem_lt {l : List Int} {i j : Nat} (hj : j < l.length) (h : j < i) : l[j] ∈ l.take i := by
  have : (l.take i)[j]'(by simp; omega) = l[j] := List.getElem_take
  rw [← this]; exact List.getElem_mem _

theorem orderedR_eq {o : Prob} (hc : chk o = 0) (l : List Int) : orderedR o l = orderedB (webOf o) l := by
  have hn := webOf_nI hc
  have h24 := (pair_of_chk hc).2.1
  have hirr := fun x hx => ((pair_of_chk hc).2.2.1 x hx)
  rw [Bool.eq_iff_iff]
  unfold orderedR orderedB eachB
  simp only [Bool.and_eq_true, decide_eq_true_eq, List.all_eq_true, List.mem_range, beq_iff_eq]
  constructor
  · rintro ⟨hl, h⟩
    have hin : ∀ p ∈ l, 0 ≤ p ∧ p < (((webOf o).n : Nat) : Int) := fun p hp => by
      obtain ⟨i, hi, rfl⟩ := List.getElem_of_mem hp
      have := (h i hi).1
      rw [getD_mem hi] at this
      omega
    have hnd : l.Nodup := by
      refine List.nodup_iff_pairwise_ne.2 (List.pairwise_iff_getElem.2 fun i j hi hj hij e => ?_)
      have := (h j hj).2
      unfold readyR at this
      rw [getD_mem hj] at this
      simp only [Bool.and_eq_true, Bool.not_eq_true', decide_eq_false_iff_not] at this
      exact this.1 (by rw [← e]; exact take_mem_lt hi hij)
    refine ⟨⟨by omega, hin, hnd⟩, fun i hi => ?_⟩
    refine hasS_ext fun x hx => ?_
    rw [hasS_and, hasS_setS _ (fun p hp => by have := hin p (List.mem_of_mem_take hp); omega), hasS_zero]
    cases hh : hasS ((webOf o).to (l.getD i 0).toNat) x
    · rfl
    · rw [Bool.true_and, decide_eq_false_iff_not]
      intro hm
      obtain ⟨j, hj, hji, e⟩ := mem_take_lt hm
      have h1 := (h j hj).2
      unfold readyR at h1
      simp only [Bool.and_eq_true, List.all_eq_true, Bool.or_eq_true, Bool.not_eq_true', decide_eq_false_iff_not, decide_eq_true_eq] at h1
      have h2 := h1.2 _ ((webOf_to hc _ _).1 hh)
      rw [getD_mem hj, e] at h2
      rcases h2 with h2 | h2
      · exact h2 rfl
      · have hi' := (h i hi).1
        rw [show (((l.getD i 0).toNat : Nat) : Int) = l.getD i 0 by omega, getD_mem hi] at h2
        obtain ⟨k, hk, hkj, e2⟩ := mem_take_lt h2
        have := (List.getElem_inj hnd).1 e2
        omega
  · rintro ⟨⟨hl, hin, hnd⟩, h⟩
    refine ⟨by omega, fun i hi => ?_⟩
    have hi' := hin _ (List.getElem_mem hi)
    rw [getD_mem hi]
    refine ⟨⟨by omega, by omega⟩, ?_⟩
    unfold readyR
    simp only [Bool.and_eq_true, List.all_eq_true, Bool.or_eq_true, Bool.not_eq_true', decide_eq_false_iff_not, decide_eq_true_eq]
    refine ⟨fun hm => ?_, fun x hx => ?_⟩
    · obtain ⟨j, hj, hji, e⟩ := mem_take_lt hm
      have := (List.getElem_inj hnd).1 e
      omega
    · by_cases e : x.2 = l[i]
      · right
        have hx' := hirr x hx
        have hm : ((x.1.toNat : Nat) : Int) ∈ l := mem_full hl hin hnd (by omega)
        rw [show ((x.1.toNat : Nat) : Int) = x.1 by omega] at hm
        obtain ⟨j, hj, ej⟩ := List.getElem_of_mem hm
        have hji : j < i := by
          rcases Nat.lt_trichotomy j i with h1 | h1 | h1
          · exact h1
          · subst h1; omega
          · have h2 := h j hj
            have h3 : hasS ((webOf o).to (l.getD j 0).toNat &&& setS (l.take j)) x.2.toNat = true := by
              rw [hasS_and, hasS_setS _ (fun p hp => by have := hin p (List.mem_of_mem_take hp); omega), Bool.and_eq_true]
              refine ⟨(webOf_to hc _ _).2 ?_, decide_eq_true ?_⟩
              · rw [getD_mem hj, ej]
                have e' : x = (((x.1.toNat : Nat) : Int), ((x.2.toNat : Nat) : Int)) := Prod.ext (by simp; omega) (by simp; omega)
                rw [← e']; exact hx
              · rw [show ((x.2.toNat : Nat) : Int) = x.2 by omega, e]
                exact take_mem_lt hi h1
            rw [h2, hasS_zero] at h3
            cases h3
        rw [← ej]
        exact take_mem_lt hj hji
      · left; exact e

/-! ### ref.near, ref.arc -/

def nearR (o : Prob) (a b : Int) : Bool := decide ((min a b, max a b) ∈ o.near)
def arcR (o : Prob) (a b : Int) : Bool := decide ((a, b) ∈ o.arcs)
theorem arcR_eq {o : Prob} (hc : chk o = 0) (a b : Nat) : arcR o a b = hasS ((webOf o).to a) b := by
  rw [Bool.eq_iff_iff, webOf_to hc]
  unfold arcR
  simp
theorem near_step (f : Nat → S) {p q : Nat} (hp : p < 32) (hq : q < 32) (a b : Nat) : hasS (upd (upd f p (f p ||| oneS q)) q (upd f p (f p ||| oneS q) q ||| oneS p) a) b = true ↔ hasS (f a) b = true ∨ (p = a ∧ q = b) ∨ (p = b ∧ q = a) := by
  unfold upd
  by_cases h1 : a = q
  · subst h1
    rw [if_pos rfl, hasS_or, hasS_one _ _ hp]
    by_cases h2 : a = p
    · subst h2
      rw [if_pos rfl, hasS_or, hasS_one _ _ hp]
      cases hasS (f _) b <;> simp <;> omega
    · rw [if_neg h2]
      cases hasS (f _) b <;> simp <;> omega
  · rw [if_neg h1]
    by_cases h2 : a = p
    · subst h2
      rw [if_pos rfl, hasS_or, hasS_one _ _ hq]
      cases hasS (f _) b <;> simp <;> omega
    · rw [if_neg h2]
      cases hasS (f _) b <;> simp <;> omega
theorem nearS_has : ∀ (l : List (Int × Int)) (f : Nat → S), (∀ x ∈ l, 0 ≤ x.1 ∧ x.1 < 32 ∧ 0 ≤ x.2 ∧ x.2 < 32) → ∀ a b, hasS (l.foldl (fun f x => stepBack (stepTo f x) x) f a) b = true ↔ hasS (f a) b = true ∨ ∃ x ∈ l, (x.1.toNat = a ∧ x.2.toNat = b) ∨ (x.1.toNat = b ∧ x.2.toNat = a)
  | [], f, _, a, b => by simp
  | x :: l, f, h, a, b => by
    have hx := h x (List.mem_cons_self ..)
    rw [List.foldl_cons, nearS_has l _ (fun y hy => h y (List.mem_cons_of_mem _ hy)) a b]
    have e : hasS (stepBack (stepTo f x) x a) b = true ↔ hasS (f a) b = true ∨ (x.1.toNat = a ∧ x.2.toNat = b) ∨ (x.1.toNat = b ∧ x.2.toNat = a) := near_step f (by omega) (by omega) a b
    rw [e]
    simp only [List.mem_cons, exists_eq_or_imp, or_assoc]
theorem nearR_eq {o : Prob} (hc : chk o = 0) (a b : Nat) : nearR o a b = hasS ((webOf o).near b) a := by
  have hp := (pair_of_chk hc).2.2.2
  have h24 := (pair_of_chk hc).2.1
  rw [Bool.eq_iff_iff]
  show _ ↔ hasS (nearS o.near b) a = true
  unfold nearS
  rw [nearS_has o.near _ (fun x hx => by have := hp x hx; omega)]
  unfold nearR
  simp only [decide_eq_true_eq, hasS_zero, Bool.false_eq_true, false_or]
  constructor
  · intro h
    refine ⟨_, h, ?_⟩
    simp
    omega
  · rintro ⟨x, hx, h⟩
    have := hp x hx
    have e : x = (min (a : Int) b, max (a : Int) b) := Prod.ext (by simp; omega) (by simp; omega)
    rw [← e]; exact hx

/-! ### ref.Reasons -/

section
variable {W : Web} {dry : Int} {l : List Int}
/-- The patch at j holds up the one at k. -/
def holds (W : Web) (dry : Int) (l D : List Int) (k j : Nat) : Prop := hasS (W.near (l.getD k 0).toNat) (l.getD j 0).toNat = true ∧ D.getD (l.getD j 0).toNat 0 + dry + 1 = D.getD (l.getD k 0).toNat 0
/-- The reason as the search has it when it has looked at the first j patches. -/
def whyI (W : Web) (dry : Int) (l D : List Int) (k j : Nat) (x : Rsn) (next : Nat) : Prop :=
  (x = (l.getD k 0, l.getD (k - 1) 0, 1) ∧ next = k - 1 ∧ ∀ i, i < j → ¬ holds W dry l D k i) ∨
  (∃ m, m < j ∧ holds W dry l D k m ∧ x = (l.getD k 0, l.getD m 0, 2) ∧ next = m ∧ ∀ i, i < j → holds W dry l D k i → l.getD m 0 ≤ l.getD i 0)
theorem whyI_zero (k : Nat) (D : List Int) : whyI W dry l D k 0 (l.getD k 0, l.getD (k - 1) 0, 1) (k - 1) := .inl ⟨rfl, rfl, fun i h => by omega⟩
theorem whyI_no {D : List Int} {k j : Nat} {x : Rsn} {next : Nat} (h : whyI W dry l D k j x next) (hn : ¬ holds W dry l D k j) : whyI W dry l D k (j + 1) x next := by
  rcases h with ⟨h1, h2, h3⟩ | ⟨m, h1, h2, h3, h4, h5⟩
  · refine .inl ⟨h1, h2, fun i hi => ?_⟩
    rcases Nat.lt_or_eq_of_le (Nat.lt_succ_iff.1 hi) with h | rfl
    · exact h3 i h
    · exact hn
  · refine .inr ⟨m, by omega, h2, h3, h4, fun i hi hh => ?_⟩
    rcases Nat.lt_or_eq_of_le (Nat.lt_succ_iff.1 hi) with h | rfl
    · exact h5 i h hh
    · exact absurd hh hn
theorem whyI_yes {D : List Int} {k j : Nat} {x : Rsn} {next : Nat} (h : whyI W dry l D k j x next) (hh : holds W dry l D k j) (hb : x.2.2 = 1 ∨ l.getD j 0 < x.2.1) : whyI W dry l D k (j + 1) (l.getD k 0, l.getD j 0, 2) j := by
  refine .inr ⟨j, by omega, hh, rfl, rfl, fun i hi hi2 => ?_⟩
  rcases Nat.lt_or_eq_of_le (Nat.lt_succ_iff.1 hi) with hlt | rfl
  · rcases h with ⟨h1, h2, h3⟩ | ⟨m, h1, h2, h3, h4, h5⟩
    · exact absurd hi2 (h3 i hlt)
    · have := h5 i hlt hi2
      subst h3
      rcases hb with hb | hb
      · simp at hb
      · simp only at hb; omega
  · exact Int.le_refl _
theorem whyI_keep {D : List Int} {k j : Nat} {x : Rsn} {next : Nat} (h : whyI W dry l D k j x next) (hb : ¬ (x.2.2 = 1 ∨ l.getD j 0 < x.2.1)) : whyI W dry l D k (j + 1) x next := by
  rcases h with ⟨h1, h2, h3⟩ | ⟨m, h1, h2, h3, h4, h5⟩
  · subst h1; exact absurd (.inl rfl) hb
  · refine .inr ⟨m, by omega, h2, h3, h4, fun i hi hh => ?_⟩
    rcases Nat.lt_or_eq_of_le (Nat.lt_succ_iff.1 hi) with h | rfl
    · exact h5 i h hh
    · subst h3
      simp only [not_or] at hb
      omega
theorem whyI_end (hd : 0 ≤ dry) (hl : l.length = W.n) (hin : ∀ p ∈ l, 0 ≤ p ∧ p < (W.n : Int)) (hnd : l.Nodup) {k : Nat} (hk : k < l.length) (h0 : 0 < k) {x : Rsn} {next : Nat} (h : whyI W dry l (daysOf W dry l) k k x next) :
    x = whyR W dry l (daysOf W dry l) k ∧ next = l.idxOf (whyR W dry l (daysOf W dry l) k).2.1 := by
  have hidx : ∀ m, m < l.length → l.idxOf (l.getD m 0) = m := fun m hm => by
    have e : l.getD m 0 = l[m] := by rw [List.getD_eq_getElem?_getD, List.getElem?_eq_getElem hm]; rfl
    rw [e, hnd.idxOf_getElem m hm]
  have back : ∀ q, q < W.n → (hasS (W.near (l.getD k 0).toNat) q && (daysOf W dry l).getD q 0 + dry + 1 == (daysOf W dry l).getD (l.getD k 0).toNat 0) = true → ∃ j, j < k ∧ holds W dry l (daysOf W dry l) k j ∧ l.getD j 0 = (q : Int) := by
    intro q hq hh
    simp only [Bool.and_eq_true, beq_iff_eq] at hh
    obtain ⟨j, hj, ej⟩ := List.getElem_of_mem (mem_full hl hin hnd hq)
    have e : l.getD j 0 = (q : Int) := by rw [List.getD_eq_getElem?_getD, List.getElem?_eq_getElem hj]; exact ej
    refine ⟨j, ?_, ⟨?_, ?_⟩, e⟩
    · rcases Nat.lt_trichotomy j k with h | h | h
      · exact h
      · subst h
        rw [e, Int.toNat_natCast] at hh
        omega
      · have := days_lt (W := W) (dry := dry) hin hnd (i := k) j h hj
        rw [e, Int.toNat_natCast] at this
        omega
    · rw [e, Int.toNat_natCast]; exact hh.1
    · rw [e, Int.toNat_natCast]; exact hh.2
  have key : x = whyR W dry l (daysOf W dry l) k := by
    unfold whyR
    split
    · rename_i q hq
      unfold whyQ at hq
      have hq1 := List.find?_some hq
      have hq2 := List.mem_range.1 (List.mem_of_find?_eq_some hq)
      obtain ⟨j, hj, hh, ej⟩ := back q hq2 hq1
      rcases h with ⟨h1, h2, h3⟩ | ⟨m, h1, h2, h3, h4, h5⟩
      · exact absurd hh (h3 j hj)
      · rw [h3]
        have h6 := h5 j hj hh
        obtain ⟨p, hp, hpn, -⟩ := getD_nat (W := W) hin (show m < l.length by omega)
        have h7 : q ≤ p := by
          refine Nat.le_of_not_lt fun hlt => ?_
          have hno : ∀ r, r < q → (hasS (W.near (l.getD k 0).toNat) r && (daysOf W dry l).getD r 0 + dry + 1 == (daysOf W dry l).getD (l.getD k 0).toNat 0) = false := by
            intro r hr
            rw [List.find?_eq_some_iff_append] at hq
            obtain ⟨-, xs, ys, e, hall⟩ := hq
            have hla : xs.length = q := by
              have hg : (List.range W.n)[xs.length]? = some q := by rw [e]; simp
              rw [List.getElem?_range (by have := congrArg List.length e; simp at this; omega)] at hg
              simpa using hg
            have hm : r ∈ xs := by
              have hg : (List.range W.n)[r]? = some r := List.getElem?_range (by omega)
              rw [e, List.getElem?_append_left (by omega)] at hg
              exact List.mem_of_getElem? hg
            have hx := hall r hm
            rwa [Bool.not_eq_true'] at hx
          have := hno p hlt
          unfold holds at h2
          rw [hp, Int.toNat_natCast] at h2
          rw [h2.1, h2.2] at this
          simp at this
        rw [hp] at h6
        rw [ej] at h6
        rw [hp]
        have : p = q := by omega
        rw [this]
    · rename_i hq
      unfold whyQ at hq
      rw [List.find?_eq_none] at hq
      rcases h with ⟨h1, h2, h3⟩ | ⟨m, h1, h2, h3, h4, h5⟩
      · exact h1
      · obtain ⟨p, hp, hpn, -⟩ := getD_nat (W := W) hin (show m < l.length by omega)
        unfold holds at h2
        rw [hp, Int.toNat_natCast] at h2
        have := hq p (List.mem_range.2 hpn)
        rw [h2.1, h2.2] at this
        simp at this
  refine ⟨key, ?_⟩
  rw [← key]
  rcases h with ⟨h1, h2, h3⟩ | ⟨m, h1, h2, h3, h4, h5⟩
  · rw [h1, h2]; exact (hidx _ (by omega)).symm
  · rw [h3, h4]; exact (hidx _ (by omega)).symm
end

/-! ### CheckDays -/

/-- Are two patches' days kept? -/
def keepB (W : Web) (dry : Int) (d : List Int) (a b : Nat) : Bool :=
  decide (a = b) || (!decide (d.getD a 0 = d.getD b 0) && !(hasS (W.to a) b && decide (d.getD b 0 < d.getD a 0)) && !(hasS (W.near a) b && decide (max (d.getD a 0 - d.getD b 0) (d.getD b 0 - d.getD a 0) ≤ dry)))
def keptB (W : Web) (dry : Int) (d : List Int) : Bool :=
  decide (d.length = W.n) && d.all (fun x => decide (0 ≤ x) && decide (x ≤ 2000)) && (List.range W.n).all fun a => (List.range W.n).all fun b => keepB W dry d a b
def CheckDaysR (o : Prob) (dry : Int) (d : List Int) : Bool × Int :=
  if chk o = 0 then (if 0 ≤ dry ∧ dry ≤ 30 then (keptB (webOf o) dry d, 0) else (false, 1)) else (false, chk o)
theorem keptB_false {W : Web} {dry : Int} {d : List Int} {a b : Nat} (ha : a < W.n) (hb : b < W.n) (h : keepB W dry d a b = false) : keptB W dry d = false := by
  unfold keptB
  rw [Bool.and_eq_false_iff]
  right
  rw [List.all_eq_false]
  refine ⟨a, List.mem_range.2 ha, ?_⟩
  rw [Bool.not_eq_true, List.all_eq_false]
  exact ⟨b, List.mem_range.2 hb, by simp [h]⟩
theorem keptB_out {W : Web} {dry : Int} {d : List Int} {a : Nat} (ha : a < d.length) (h : (decide (0 ≤ d[a]) && decide (d[a] ≤ 2000)) = false) : keptB W dry d = false := by
  unfold keptB
  have : d.all (fun x => decide (0 ≤ x) && decide (x ≤ 2000)) = false := by rw [List.all_eq_false]; exact ⟨d[a], List.getElem_mem ha, by simp [h]⟩
  rw [this]; simp
theorem keptB_len {W : Web} {dry : Int} {d : List Int} (h : d.length ≠ W.n) : keptB W dry d = false := by
  unfold keptB; rw [decide_eq_false h]; simp

/-! ### Levels -/

section
variable {W : Web} {l : List Int}
def pushK (W : Web) (p : Nat) (out : List Int) (q : Nat) : List Int := if hasS (W.to p) q then out.set q (max (out.getD q 0) (out.getD p 0 + 1)) else out
def pushP (W : Web) (p : Nat) (out : List Int) (k : Nat) : List Int := (List.range k).foldl (pushK W p) out
def levP (W : Web) (l : List Int) (j : Nat) : List Int := (List.range j).foldl (fun out j => pushP W (l.getD j 0).toNat out W.n) (List.replicate W.n 0)
def pullK (W : Web) (l : List Int) (p : Nat) (out : List Int) (k : Nat) : List Int := if hasS (W.to (l.getD k 0).toNat) p then out.set p (max (out.getD p 0) (out.getD (l.getD k 0).toNat 0 + 1)) else out
def pullP (W : Web) (l : List Int) (p : Nat) (out : List Int) (k : Nat) : List Int := (List.range k).foldl (pullK W l p) out
def levQ (W : Web) (l : List Int) (j : Nat) : List Int := (List.range j).foldl (fun out i => pullP W l (l.getD i 0).toNat out i) (List.replicate W.n 0)
theorem pushP_succ (p : Nat) (out : List Int) (k : Nat) : pushP W p out (k + 1) = pushK W p (pushP W p out k) k := by simp [pushP, List.range_succ]
theorem levP_succ (j : Nat) : levP W l (j + 1) = pushP W (l.getD j 0).toNat (levP W l j) W.n := by simp [levP, List.range_succ]
theorem pullP_succ (p : Nat) (out : List Int) (k : Nat) : pullP W l p out (k + 1) = pullK W l p (pullP W l p out k) k := by simp [pullP, List.range_succ]
theorem levQ_succ (j : Nat) : levQ W l (j + 1) = pullP W l (l.getD j 0).toNat (levQ W l j) j := by simp [levQ, List.range_succ]
theorem pushP_length (p : Nat) (out : List Int) (k : Nat) : (pushP W p out k).length = out.length := by
  induction k with
  | zero => rfl
  | succ k ih => rw [pushP_succ, ← ih]; unfold pushK; split <;> simp
theorem pullP_length (p : Nat) (out : List Int) (k : Nat) : (pullP W l p out k).length = out.length := by
  induction k with
  | zero => rfl
  | succ k ih => rw [pullP_succ, ← ih]; unfold pullK; split <;> simp
theorem levP_length (j : Nat) : (levP W l j).length = W.n := by
  induction j with
  | zero => simp [levP]
  | succ j ih => rw [levP_succ, pushP_length, ih]
theorem levQ_length (j : Nat) : (levQ W l j).length = W.n := by
  induction j with
  | zero => simp [levQ]
  | succ j ih => rw [levQ_succ, pullP_length, ih]
/-- The least number above those of the first j patches from which an arc leads to q. -/
def supK (W : Web) (l R : List Int) (q : Nat) : Nat → Int
  | 0 => 0
  | k + 1 => if hasS (W.to (l.getD k 0).toNat) q then max (supK W l R q k) (R.getD (l.getD k 0).toNat 0 + 1) else supK W l R q k
theorem supK_congr {R R' : List Int} {q : Nat} : ∀ {j : Nat}, (∀ k, k < j → R.getD (l.getD k 0).toNat 0 = R'.getD (l.getD k 0).toNat 0) → supK W l R q j = supK W l R' q j
  | 0, _ => rfl
  | j + 1, h => by
    unfold supK
    rw [supK_congr (fun k hk => h k (by omega)), h j (by omega)]
theorem supK_none {R : List Int} {q : Nat} : ∀ {j i : Nat}, i ≤ j → (∀ k, i ≤ k → k < j → hasS (W.to (l.getD k 0).toNat) q = false) → supK W l R q j = supK W l R q i
  | 0, i, h, _ => by have : i = 0 := by omega
                     rw [this]
  | j + 1, i, h, hn => by
    rcases Nat.lt_or_ge j i with h1 | h1
    · have : i = j + 1 := by omega
      rw [this]
    · conv => lhs; unfold supK
      rw [if_neg (by rw [hn j h1 (by omega)]; simp)]
      exact supK_none h1 (fun k hk hk2 => hn k hk (by omega))
theorem pull_get {p : Nat} {out : List Int} (hp : p < out.length) : ∀ (k : Nat), (∀ i, i < k → (l.getD i 0).toNat ≠ p) → out.getD p 0 = 0 → (pullP W l p out k).getD p 0 = supK W l out p k ∧ ∀ x, x ≠ p → (pullP W l p out k).getD x 0 = out.getD x 0
  | 0, _, h0 => ⟨h0, fun _ _ => rfl⟩
  | k + 1, hne, h0 => by
    obtain ⟨h1, h2⟩ := pull_get hp k (fun i hi => hne i (by omega)) h0
    have hk := hne k (by omega)
    rw [pullP_succ]
    unfold pullK supK
    by_cases hh : hasS (W.to (l.getD k 0).toNat) p = true
    · rw [if_pos hh, if_pos hh, getD_set_same (by rw [pullP_length]; exact hp), h1, h2 _ hk]
      exact ⟨rfl, fun x hx => by rw [getD_set_other (Ne.symm hx)]; exact h2 x hx⟩
    · rw [if_neg hh, if_neg hh]
      exact ⟨h1, h2⟩
theorem push_get {p : Nat} {out : List Int} (hirr : hasS (W.to p) p = false) : ∀ (k : Nat), k ≤ out.length → ∀ q, (pushP W p out k).getD q 0 = if q < k ∧ hasS (W.to p) q = true then max (out.getD q 0) (out.getD p 0 + 1) else out.getD q 0
  | 0, _, q => by rw [if_neg (by omega)]; rfl
  | k + 1, hk, q => by
    have ih := push_get (out := out) hirr k (by omega)
    rw [pushP_succ]
    unfold pushK
    by_cases hh : hasS (W.to p) k = true
    · rw [if_pos hh]
      by_cases e : q = k
      · subst e
        rw [getD_set_same (by rw [pushP_length]; omega), ih q, ih p, if_neg (by omega), if_neg (by rw [hirr]; simp), if_pos ⟨by omega, hh⟩]
      · rw [getD_set_other (Ne.symm e), ih q]
        have : (q < k ∧ hasS (W.to p) q = true) ↔ (q < k + 1 ∧ hasS (W.to p) q = true) := ⟨fun h => ⟨by omega, h.2⟩, fun h => ⟨by omega, h.2⟩⟩
        simp only [this]
    · rw [if_neg hh, ih q]
      have : (q < k ∧ hasS (W.to p) q = true) ↔ (q < k + 1 ∧ hasS (W.to p) q = true) := ⟨fun h => ⟨by omega, h.2⟩, fun h => ⟨by
        rcases Nat.lt_or_eq_of_le (Nat.lt_succ_iff.1 h.1) with h1 | h1
        · exact h1
        · subst h1; exact absurd h.2 hh, h.2⟩⟩
      simp only [this]

theorem levQ_facts (hin : ∀ p ∈ l, 0 ≤ p ∧ p < (W.n : Int)) (hnd : l.Nodup) : ∀ (j : Nat), j ≤ l.length →
    (∀ m, m < j → (levQ W l j).getD (l.getD m 0).toNat 0 = supK W l (levQ W l j) (l.getD m 0).toNat m) ∧ (∀ m, j ≤ m → m < l.length → (levQ W l j).getD (l.getD m 0).toNat 0 = 0)
  | 0, _ => ⟨fun m h => by omega, fun m _ h => by
      simp only [levQ, List.range_zero, List.foldl_nil]
      rw [List.getD_eq_getElem?_getD, List.getElem?_replicate]
      split <;> rfl⟩
  | j + 1, hj => by
    obtain ⟨h1, h2⟩ := levQ_facts hin hnd j (by omega)
    obtain ⟨p, hp, hpn, hp'⟩ := getD_nat (W := W) hin (show j < l.length by omega)
    have hne : ∀ i, i < l.length → i ≠ j → (l.getD i 0).toNat ≠ p := fun i hi hij e => by
      obtain ⟨q, hq, hqn, hq'⟩ := getD_nat (W := W) hin hi
      rw [hq, Int.toNat_natCast] at e
      have : l[i] = l[j] := by rw [hq', hp', e]
      exact hij ((List.getElem_inj hnd).1 this)
    have e0 := h2 j (Nat.le_refl _) (by omega)
    rw [hp, Int.toNat_natCast] at e0
    obtain ⟨g1, g2⟩ := pull_get (W := W) (l := l) (p := p) (out := levQ W l j) (by rw [levQ_length]; exact hpn) j (fun i hi => hne i (by omega) (by omega)) e0
    rw [levQ_succ, hp, Int.toNat_natCast]
    refine ⟨fun m hm => ?_, fun m hm hml => ?_⟩
    · have hc : ∀ k, k < m → (levQ W l j).getD (l.getD k 0).toNat 0 = (pullP W l p (levQ W l j) j).getD (l.getD k 0).toNat 0 := fun k hk => (g2 _ (hne k (by omega) (by omega))).symm
      by_cases e : m = j
      · subst e
        rw [hp, Int.toNat_natCast, g1]
        exact supK_congr hc
      · rw [g2 _ (hne m (by omega) e), h1 m (by omega)]
        exact supK_congr hc
    · rw [g2 _ (hne m hml (by omega))]
      exact h2 m (by omega) hml
theorem levP_get (hl : l.length = W.n) (hin : ∀ p ∈ l, 0 ≤ p ∧ p < (W.n : Int)) (hirr : ∀ p, hasS (W.to p) p = false) {R : List Int} (hR : ∀ m, m < l.length → R.getD (l.getD m 0).toNat 0 = supK W l R (l.getD m 0).toNat m) : ∀ (j : Nat), j ≤ l.length → ∀ q, q < W.n → (levP W l j).getD q 0 = supK W l R q j
  | 0, _, q, hq => by
    simp only [levP, List.range_zero, List.foldl_nil]
    rw [List.getD_eq_getElem?_getD, List.getElem?_replicate]
    split <;> rfl
  | j + 1, hj, q, hq => by
    have ih := levP_get hl hin hirr hR j (by omega)
    obtain ⟨p, hp, hpn, hp'⟩ := getD_nat (W := W) hin (show j < l.length by omega)
    have hRj := hR j (by omega)
    rw [hp, Int.toNat_natCast] at hRj
    rw [levP_succ, hp, Int.toNat_natCast, push_get (hirr p) W.n (by rw [levP_length]; exact Nat.le_refl _) q, ih p hpn, ih q hq, ← hRj]
    show _ = (if hasS (W.to (l.getD j 0).toNat) q then max (supK W l R q j) (R.getD (l.getD j 0).toNat 0 + 1) else supK W l R q j)
    rw [hp, Int.toNat_natCast]
    by_cases hh : hasS (W.to p) q = true
    · rw [if_pos ⟨hq, hh⟩, if_pos hh]
    · rw [if_neg (fun h => hh h.2), if_neg hh]
theorem lev_eq (hl : l.length = W.n) (hin : ∀ p ∈ l, 0 ≤ p ∧ p < (W.n : Int)) (hnd : l.Nodup) (hirr : ∀ p, hasS (W.to p) p = false) (hord : ∀ i k, i < l.length → k < l.length → hasS (W.to (l.getD k 0).toNat) (l.getD i 0).toNat = true → k < i) : levP W l l.length = levQ W l l.length := by
  have hR := (levQ_facts hin hnd l.length (Nat.le_refl _)).1
  refine List.ext_getElem (by rw [levP_length, levQ_length]) fun q h1 h2 => ?_
  have hq : q < W.n := by rw [levQ_length] at h2; exact h2
  obtain ⟨m, hm, em⟩ := List.getElem_of_mem (mem_full hl hin hnd hq)
  have e : l.getD m 0 = (q : Int) := by rw [List.getD_eq_getElem?_getD, List.getElem?_eq_getElem hm]; exact em
  have g1 := levP_get hl hin hirr hR l.length (Nat.le_refl _) q hq
  have g2 := hR m hm
  rw [e, Int.toNat_natCast] at g2
  have g3 : supK W l (levQ W l l.length) q l.length = supK W l (levQ W l l.length) q m := supK_none (Nat.le_of_lt hm) fun k hk hk2 => by
    cases hh : hasS (W.to (l.getD k 0).toNat) q
    · rfl
    · have := hord m k hm hk2 (by rw [e, Int.toNat_natCast]; exact hh)
      omega
  have a1 : (levP W l l.length).getD q 0 = (levP W l l.length)[q] := by rw [List.getD_eq_getElem?_getD, List.getElem?_eq_getElem h1]; rfl
  have a2 : (levQ W l l.length).getD q 0 = (levQ W l l.length)[q] := by rw [List.getD_eq_getElem?_getD, List.getElem?_eq_getElem h2]; rfl
  rw [← a1, ← a2, g1, g3, g2]
end

/-! ### First, step by step -/

section
variable {W : Web}
/-- The first k patches of the first order were there to be had. -/
def FirstF (W : Web) (k : Nat) : Prop := (firstL W k).length = k ∧ (∀ p ∈ firstL W k, 0 ≤ p ∧ p < (W.n : Int)) ∧ (firstL W k).Nodup ∧ ∀ i, (h : i < (firstL W k).length) → ∃ p : Nat, (firstL W k)[i] = (p : Int) ∧ p ∈ readyL W (setS ((firstL W k).take i))
theorem FirstF.zero : FirstF W 0 := ⟨rfl, by simp [firstL], by simp [firstL], fun i h => by simp [firstL] at h⟩
theorem FirstF.succ (hn : W.n ≤ 24) {k : Nat} (h : FirstF W k) {q : Nat} {t : List Nat} (hq : readyL W (setS (firstL W k)) = q :: t) : firstL W (k + 1) = firstL W k ++ [(q : Int)] ∧ FirstF W (k + 1) := by
  obtain ⟨h1, h2, h3, h4⟩ := h
  have hm : q ∈ readyL W (setS (firstL W k)) := by rw [hq]; simp
  obtain ⟨hqn, hqr⟩ := mem_readyL.1 hm
  have hnot : (q : Int) ∉ firstL W k := by
    unfold readyB at hqr
    rw [hasS_setS _ (fun p hp => by have := h2 p hp; omega)] at hqr
    simp at hqr
    exact hqr.1
  have e : firstL W (k + 1) = firstL W k ++ [(q : Int)] := by
    show firstL W k ++ [_] = _
    rw [hq]; rfl
  refine ⟨e, ?_⟩
  unfold FirstF
  rw [e]
  refine ⟨by simp [h1], fun p hp => ?_, ?_, fun i hi => ?_⟩
  · rcases List.mem_append.1 hp with h | h
    · exact h2 p h
    · simp at h; subst h; omega
  · rw [List.nodup_append]
    exact ⟨h3, by simp, fun a ha b hb e => by simp at hb; subst hb; subst e; exact hnot ha⟩
  · by_cases hil : i < (firstL W k).length
    · rw [List.getElem_append_left hil, List.take_append_of_le_length (by omega)]
      exact h4 i hil
    · have : i = (firstL W k).length := by simp at hi; omega
      subst this
      refine ⟨q, by simp, ?_⟩
      rw [List.take_left]
      exact hm
theorem FirstF.ordered (hn : W.n ≤ 24) (h : FirstF W W.n) : orderedB W (firstOf W) = true := by
  obtain ⟨h1, h2, h3, h4⟩ := h
  unfold firstOf
  generalize firstL W W.n = l at *
  refine orderedB_iff.2 ⟨h1, h2, h3, fun i hi => ?_⟩
  have hgd : ∀ k, (hk : k < l.length) → l.getD k 0 = l[k] := fun k hk => by rw [List.getD_eq_getElem?_getD, List.getElem?_eq_getElem hk]; rfl
  refine Classical.byContradiction fun hne => ?_
  obtain ⟨q, hq1, hq2⟩ := inter_some hne
  rw [hasS_setS _ (fun p hp => by have := h2 p (List.mem_of_mem_take hp); omega)] at hq2
  have hq2 := of_decide_eq_true hq2
  obtain ⟨j, hj, he⟩ := List.mem_take_iff_getElem.1 hq2
  obtain ⟨r, hr1, hr2⟩ := h4 j (by omega)
  have : r = q := by omega
  subst this
  obtain ⟨hrn, hrr⟩ := mem_readyL.1 hr2
  unfold readyB at hrr
  simp only [Bool.and_eq_true, List.all_eq_true, List.mem_range] at hrr
  have hpi := h2 _ (List.getElem_mem hi)
  have h5 := hrr.2 (l.getD i 0).toNat (by rw [hgd i hi]; omega)
  rw [hq1] at h5
  simp only [Bool.not_true, Bool.false_or] at h5
  rw [hasS_setS _ (fun p hp => by have := h2 p (List.mem_of_mem_take hp); omega)] at h5
  have h5 := of_decide_eq_true h5
  rw [hgd i hi, Int.toNat_of_nonneg hpi.1] at h5
  obtain ⟨k, hk, hke⟩ := List.mem_take_iff_getElem.1 h5
  have := (List.getElem_inj h3).1 hke
  omega
theorem FirstF.done {o : Prob} (hc : chk o = 0) (h : FirstF (webOf o) (webOf o).n) : errS o = 0 := by
  unfold errS
  rw [if_pos hc, ordered_circ (webOf_n hc) (woven_of o) (fun p _ => webOf_irr hc p) (h.ordered (webOf_n hc))]
  rfl
theorem FirstF.stuck {o : Prob} (hc : chk o = 0) {k : Nat} (hk : k < (webOf o).n) (h : FirstF (webOf o) k) (hn : readyL (webOf o) (setS (firstL (webOf o) k)) = []) : errS o = 50 := by
  have : errS o ≠ 0 := fun he => goes_webOf he _ h.2.1 h.2.2.1 (by rw [h.1]; exact hk) hn
  unfold errS at *
  rw [if_pos hc] at *
  split
  · rfl
  · rename_i hx; exact absurd (if_neg hx) this
end

/-! ### Lists of pairs: strictly ascending -/

theorem risB_iff {l : List (Int × Int)} : risB l = true ↔ ∀ i, (h : i + 1 < l.length) → cmpP l[i] l[i + 1] < 0 := by
  refine ⟨fun h i hi => ?_, risB_true⟩
  refine Classical.byContradiction fun hn => ?_
  have := risB_false (l := l) (k := i + 1) (by omega) hi (by simpa using hn)
  rw [h] at this
  cases this
theorem cmpP_trans {a b c : Int × Int} (h1 : cmpP a b < 0) (h2 : cmpP b c < 0) : cmpP a c < 0 := by
  rw [cmpP_neg] at *
  omega
theorem cmpP_irr (a : Int × Int) : ¬ cmpP a a < 0 := by rw [cmpP_neg]; omega
theorem risB_pw {l : List (Int × Int)} : risB l = true ↔ l.Pairwise (fun a b => cmpP a b < 0) := by
  rw [risB_iff]
  constructor
  · intro h
    rw [List.pairwise_iff_getElem]
    intro i j hi hj hij
    induction j with
    | zero => omega
    | succ j ih =>
      rcases Nat.lt_or_eq_of_le (Nat.lt_succ_iff.1 hij) with h1 | h1
      · exact cmpP_trans (ih (by omega) h1) (h j hj)
      · subst h1; exact h i hj
  · intro h i hi
    exact List.pairwise_iff_getElem.1 h i (i + 1) (by omega) hi (by omega)
theorem ris_eq : ∀ {l m : List (Int × Int)}, l.Pairwise (fun a b => cmpP a b < 0) → m.Pairwise (fun a b => cmpP a b < 0) → (∀ x, x ∈ l ↔ x ∈ m) → l = m
  | [], [], _, _, _ => rfl
  | [], b :: m, _, _, h => absurd ((h b).2 (List.mem_cons_self ..)) (by simp)
  | a :: l, [], _, _, h => absurd ((h a).1 (List.mem_cons_self ..)) (by simp)
  | a :: l, b :: m, h1, h2, h => by
    rw [List.pairwise_cons] at h1 h2
    have hab : a = b := by
      rcases List.mem_cons.1 ((h a).1 (List.mem_cons_self ..)) with h3 | h3
      · exact h3
      · rcases List.mem_cons.1 ((h b).2 (List.mem_cons_self ..)) with h4 | h4
        · exact h4.symm
        · exact absurd (cmpP_trans (h2.1 a h3) (h1.1 b h4)) (cmpP_irr b)
    subst hab
    rw [ris_eq h1.2 h2.2 fun x => ?_]
    constructor
    · intro hx
      rcases List.mem_cons.1 ((h x).1 (List.mem_cons_of_mem _ hx)) with h3 | h3
      · subst h3; exact absurd (h1.1 x hx) (cmpP_irr x)
      · exact h3
    · intro hx
      rcases List.mem_cons.1 ((h x).2 (List.mem_cons_of_mem _ hx)) with h3 | h3
      · subst h3; exact absurd (h2.1 x hx) (cmpP_irr x)
      · exact h3

/-! ### Close, Reduce -/

def rowK (want : Mx) (a n : Nat) : List (Int × Int) := ((List.range n).filter fun b => decide (a ≠ b) && want a b).map fun b : Nat => ((a : Int), (b : Int))
def keptK (want : Mx) (n k : Nat) : List (Int × Int) := (List.range k).flatMap fun a => rowK want a n
theorem mem_keptK {want : Mx} {n k : Nat} {x : Int × Int} : x ∈ keptK want n k ↔ ∃ a b : Nat, a < k ∧ b < n ∧ a ≠ b ∧ want a b = true ∧ x = ((a : Int), (b : Int)) := by
  unfold keptK rowK
  simp only [List.mem_flatMap, List.mem_map, List.mem_filter, List.mem_range, Bool.and_eq_true, decide_eq_true_eq]
  constructor
  · rintro ⟨a, ha, b, ⟨hb, hab, hw⟩, rfl⟩
    exact ⟨a, b, ha, hb, hab, hw, rfl⟩
  · rintro ⟨a, b, ha, hb, hab, hw, rfl⟩
    exact ⟨a, ha, b, ⟨hb, hab, hw⟩, rfl⟩
theorem keptK_ris (want : Mx) (n k : Nat) : (keptK want n k).Pairwise (fun a b => cmpP a b < 0) := by
  unfold keptK
  rw [List.pairwise_flatMap]
  constructor
  · intro a _
    unfold rowK
    rw [List.pairwise_map]
    refine List.Pairwise.filter _ (List.pairwise_lt_range.imp fun h => ?_)
    rw [cmpP_neg]; simp; omega
  · refine List.pairwise_lt_range.imp fun {a b} h x hx y hy => ?_
    unfold rowK at hx hy
    simp only [List.mem_map] at hx hy
    obtain ⟨p, _, rfl⟩ := hx
    obtain ⟨q, _, rfl⟩ := hy
    rw [cmpP_neg]; simp; omega
def closeW (W : Web) : Mx := fun a b => hasS (W.reach a) b
def reduceW (W : Web) : Mx := fun a b => hasS (W.to a) b && !(List.range W.n).any fun c => hasS (W.reach a) c && hasS (W.reach c) b
def closeL (W : Web) : List (Int × Int) := keptK (closeW W) W.n W.n
def reduceL (W : Web) : List (Int × Int) := keptK (reduceW W) W.n W.n
/-- ref.Reduce goes through the arcs. -/
theorem reduce_filter {o : Prob} (hc : chk o = 0) : o.arcs.filter (fun x => !(List.range (webOf o).n).any fun c => hasS ((webOf o).reach x.1.toNat) c && hasS ((webOf o).reach c) x.2.toNat) = reduceL (webOf o) := by
  have hn := webOf_nI hc
  have hp := (pair_of_chk hc).2.2.1
  have hr : risB o.arcs = true := by
    unfold chk at hc
    split at hc
    · cases hc
    · split at hc
      · cases hc
      · rename_i h
        simp only [not_or] at h
        simpa using h.2.2.2.1
  refine ris_eq ((risB_pw.1 hr).filter _) (keptK_ris _ _ _) fun x => ?_
  unfold reduceL
  rw [mem_keptK, List.mem_filter]
  constructor
  · rintro ⟨hx, hh⟩
    have h := hp x hx
    have e : x = (((x.1.toNat : Nat) : Int), ((x.2.toNat : Nat) : Int)) := Prod.ext (by simp; omega) (by simp; omega)
    refine ⟨x.1.toNat, x.2.toNat, by omega, by omega, by omega, ?_, e⟩
    unfold reduceW
    rw [hh, Bool.and_true]
    exact (webOf_to hc _ _).2 (by rw [← e]; exact hx)
  · rintro ⟨a, b, ha, hb, hab, hw, rfl⟩
    unfold reduceW at hw
    rw [Bool.and_eq_true] at hw
    exact ⟨(webOf_to hc _ _).1 hw.1, by simpa using hw.2⟩

/-! ### What Close and Reduce leave -/

def closeP (o : Prob) : Prob := ⟨o.N, closeL (webOf o), o.near⟩
def reduceP (o : Prob) : Prob := ⟨o.N, reduceL (webOf o), o.near⟩

theorem chk_arcs {o : Prob} (hc : chk o = 0) {l : List (Int × Int)} (hl : ∀ x ∈ l, 0 ≤ x.1 ∧ x.1 < o.N ∧ 0 ≤ x.2 ∧ x.2 < o.N ∧ x.1 ≠ x.2) (hr : risB l = true) : chk ⟨o.N, l, o.near⟩ = 0 := by
  unfold chk at *
  split at hc
  · cases hc
  · rename_i h1
    split at hc
    · cases hc
    · rename_i h2
      simp only [not_or] at h2
      rw [if_neg h1, if_neg]
      simp only [not_or]
      refine ⟨h2.1, ?_, h2.2.2.1, by simp [hr], h2.2.2.2.2.1, h2.2.2.2.2.2⟩
      rw [List.any_eq_true]
      rintro ⟨x, hx, hb⟩
      have := hl x hx
      unfold badB at hb
      simp at hb
      omega
theorem keptK_in {o : Prob} (hc : chk o = 0) {want : Mx} {x : Int × Int} (hx : x ∈ keptK want (webOf o).n (webOf o).n) : 0 ≤ x.1 ∧ x.1 < o.N ∧ 0 ≤ x.2 ∧ x.2 < o.N ∧ x.1 ≠ x.2 := by
  obtain ⟨a, b, ha, hb, hab, -, rfl⟩ := mem_keptK.1 hx
  have := webOf_nI hc
  simp; omega
theorem chk_kept {o : Prob} (hc : chk o = 0) (want : Mx) : chk ⟨o.N, keptK want (webOf o).n (webOf o).n, o.near⟩ = 0 := chk_arcs hc (fun _ hx => keptK_in hc hx) (risB_pw.2 (keptK_ris _ _ _))
theorem chk_close {o : Prob} (hc : chk o = 0) : chk (closeP o) = 0 := chk_kept hc _
theorem chk_reduce {o : Prob} (hc : chk o = 0) : chk (reduceP o) = 0 := chk_kept hc _
theorem kept_to {o : Prob} (hc : chk o = 0) (want : Mx) {a b : Nat} (ha : a < (webOf o).n) (hb : b < (webOf o).n) : hasS ((webOf ⟨o.N, keptK want (webOf o).n (webOf o).n, o.near⟩).to a) b = true ↔ a ≠ b ∧ want a b = true := by
  rw [webOf_to (chk_kept hc want), mem_keptK]
  constructor
  · rintro ⟨x, y, -, -, hxy, hw, e⟩
    simp only [Prod.mk.injEq, Int.natCast_inj] at e
    obtain ⟨rfl, rfl⟩ := e
    exact ⟨hxy, hw⟩
  · rintro ⟨hab, hw⟩
    exact ⟨a, b, ha, hb, hab, hw, rfl⟩
theorem to_lt {o : Prob} (hc : chk o = 0) {a b : Nat} (h : hasS ((webOf o).to a) b = true) : a < (webOf o).n ∧ b < (webOf o).n := by
  have := (pair_of_chk hc).2.2.1 _ ((webOf_to hc a b).1 h)
  have := webOf_nI hc
  simp at *; omega
theorem path_lt {o : Prob} (hc : chk o = 0) {n a b : Nat} (h : Path (webOf o).to n a b) : a < (webOf o).n ∧ b < (webOf o).n := by
  induction h with
  | arc h => exact to_lt hc h
  | cons h _ _ ih => exact ⟨(to_lt hc h).1, ih.2⟩
/-- Close leaves the chains between different patches. -/
theorem reach_close {o : Prob} (hc : chk o = 0) {a b : Nat} (ha : a < (webOf o).n) (hb : b < (webOf o).n) (hab : a ≠ b) : hasS ((webOf (closeP o)).reach a) b = hasS ((webOf o).reach a) b := by
  have hw := woven_of o
  have hwc := woven_of (closeP o)
  rw [Bool.eq_iff_iff]
  constructor
  · intro h
    have hp := hwc.path a b ha h
    have key : ∀ {x y : Nat}, Path (webOf (closeP o)).to (webOf (closeP o)).n x y → hasS ((webOf o).reach x) y = true := by
      intro x y hp
      induction hp with
      | arc h =>
        have hl := to_lt (chk_close hc) h
        exact ((kept_to hc _ hl.1 hl.2).1 h).2
      | cons h _ _ ih =>
        have hl := to_lt (chk_close hc) h
        exact hw.trans _ _ _ hl.1 hl.2 ((kept_to hc _ hl.1 hl.2).1 h).2 ih
    exact key hp
  · intro h
    exact hwc.arc a b ha ((kept_to hc _ ha hb).2 ⟨hab, h⟩)
/-- Where there is no circle, the arcs that Reduce keeps make all chains. -/
theorem path_reduce {o : Prob} (hc : chk o = 0) (hcb : circB (webOf o) = false) : ∀ (k a b : Nat), a < (webOf o).n → b < (webOf o).n → ((List.range (webOf o).n).filter fun c => hasS ((webOf o).reach a) c && hasS ((webOf o).reach c) b).length ≤ k → hasS ((webOf o).reach a) b = true → hasS ((webOf (reduceP o)).reach a) b = true := by
  have hw := woven_of o
  have hwr := woven_of (reduceP o)
  have hir := fun a ha => circB_false hcb a ha
  intro k
  induction k with
  | zero =>
    intro a b ha hb hk h
    have hno : ∀ c, c < (webOf o).n → (hasS ((webOf o).reach a) c && hasS ((webOf o).reach c) b) = false := fun c hcn => by
      cases hh : (hasS ((webOf o).reach a) c && hasS ((webOf o).reach c) b)
      · rfl
      · have : c ∈ (List.range (webOf o).n).filter fun c => hasS ((webOf o).reach a) c && hasS ((webOf o).reach c) b := List.mem_filter.2 ⟨List.mem_range.2 hcn, hh⟩
        have := List.length_pos_of_mem this
        omega
    have hne : a ≠ b := fun e => by subst e; rw [hir a ha] at h; cases h
    have hto : hasS ((webOf o).to a) b = true := by
      cases hw.path a b ha h with
      | arc h => exact h
      | cons h1 hm h2 =>
        have := hno _ hm
        rw [hw.arc _ _ ha h1, (hw.iff _ _ hm).2 h2] at this
        cases this
    refine hwr.arc a b ha ((kept_to hc _ ha hb).2 ⟨hne, ?_⟩)
    unfold reduceW
    rw [hto, Bool.true_and, Bool.not_eq_true', List.any_eq_false]
    intro c hcr
    simpa using hno c (List.mem_range.1 hcr)
  | succ k ih =>
    intro a b ha hb hk h
    by_cases hz : ∃ c, c < (webOf o).n ∧ (hasS ((webOf o).reach a) c && hasS ((webOf o).reach c) b) = true
    · obtain ⟨c, hcn, hcc⟩ := hz
      rw [Bool.and_eq_true] at hcc
      refine hwr.trans a c b ha hcn (ih a c ha hcn ?_ hcc.1) (ih c b hcn hb ?_ hcc.2)
      · refine Nat.lt_succ_iff.1 (Nat.lt_of_lt_of_le (filter_len_lt (y := c) ?_ (List.mem_range.2 hcn) ?_ ?_) hk)
        · intro x hx hh
          have hx := List.mem_range.1 hx
          rw [Bool.and_eq_true] at *
          exact ⟨hh.1, hw.trans _ _ _ hx hcn hh.2 hcc.2⟩
        · rw [hir c hcn, Bool.and_false]
        · rw [hcc.1, hcc.2]; rfl
      · refine Nat.lt_succ_iff.1 (Nat.lt_of_lt_of_le (filter_len_lt (y := c) ?_ (List.mem_range.2 hcn) ?_ ?_) hk)
        · intro x hx hh
          have hx := List.mem_range.1 hx
          rw [Bool.and_eq_true] at *
          exact ⟨hw.trans _ _ _ ha hcn hcc.1 hh.1, hh.2⟩
        · rw [hir c hcn, Bool.false_and]
        · rw [hcc.1, hcc.2]; rfl
    · refine ih a b ha hb ?_ h
      have : (List.range (webOf o).n).filter (fun c => hasS ((webOf o).reach a) c && hasS ((webOf o).reach c) b) = [] := by
        rw [List.filter_eq_nil_iff]
        intro c hcr hcc
        exact hz ⟨c, List.mem_range.1 hcr, hcc⟩
      rw [this]; simp
theorem reach_reduce {o : Prob} (hc : chk o = 0) (hcb : circB (webOf o) = false) {a b : Nat} (ha : a < (webOf o).n) (hb : b < (webOf o).n) : hasS ((webOf (reduceP o)).reach a) b = hasS ((webOf o).reach a) b := by
  have hw := woven_of o
  have hwr := woven_of (reduceP o)
  rw [Bool.eq_iff_iff]
  refine ⟨fun h => ?_, path_reduce hc hcb _ a b ha hb (Nat.le_refl _)⟩
  have key : ∀ {x y : Nat}, Path (webOf (reduceP o)).to (webOf (reduceP o)).n x y → hasS ((webOf o).reach x) y = true := by
    intro x y hp
    have hred : ∀ {x y : Nat}, x < (webOf o).n → y < (webOf o).n → hasS ((webOf (reduceP o)).to x) y = true → hasS ((webOf o).reach x) y = true := fun hx hy h => by
      have h2 := ((kept_to hc _ hx hy).1 h).2
      unfold reduceW at h2
      rw [Bool.and_eq_true] at h2
      exact hw.arc _ _ hx h2.1
    induction hp with
    | arc h =>
      have hl := to_lt (chk_reduce hc) h
      exact hred hl.1 hl.2 h
    | cons h _ _ ih =>
      have hl := to_lt (chk_reduce hc) h
      exact hw.trans _ _ _ hl.1 hl.2 (hred hl.1 hl.2 h) ih
  exact key (hwr.path a b ha h)
theorem standP_congr {o o' : Prob} (hc : chk o = 0) (hc' : chk o' = 0) (hN : o'.N = o.N) (h : ∀ a b, a < (webOf o).n → b < (webOf o).n → a ≠ b → hasS ((webOf o').reach a) b = hasS ((webOf o).reach a) b) (a b : Int) : standP o' a b = standP o a b := by
  have hn := webOf_nI hc
  unfold standP
  rw [hN]
  by_cases hcond : (0 ≤ a ∧ a < o.N) ∧ (0 ≤ b ∧ b < o.N) ∧ a ≠ b
  · rw [if_pos ⟨hc', hcond⟩, if_pos ⟨hc, hcond⟩]
    obtain ⟨h1, h2, h3⟩ := hcond
    unfold standW
    rw [h _ _ (by omega) (by omega) (by omega), h _ _ (by omega) (by omega) (by omega)]
  · rw [if_neg (fun h => hcond h.2), if_neg (fun h => hcond h.2)]
theorem stand_close {o : Prob} (hc : chk o = 0) (a b : Int) : standP (closeP o) a b = standP o a b := standP_congr hc (chk_close hc) rfl (fun _ _ ha hb hab => reach_close hc ha hb hab) a b
theorem stand_reduce {o : Prob} (hc : chk o = 0) (hcb : circB (webOf o) = false) (a b : Int) : standP (reduceP o) a b = standP o a b := standP_congr hc (chk_reduce hc) rfl (fun _ _ ha hb _ => reach_reduce hc hcb ha hb) a b
theorem keptK_congr {w1 w2 : Mx} {n : Nat} (h : ∀ a b, a < n → b < n → a ≠ b → w1 a b = w2 a b) : keptK w1 n n = keptK w2 n n := by
  refine ris_eq (keptK_ris _ _ _) (keptK_ris _ _ _) fun x => ?_
  rw [mem_keptK, mem_keptK]
  constructor
  · rintro ⟨a, b, ha, hb, hab, hw, e⟩
    exact ⟨a, b, ha, hb, hab, by rw [← h a b ha hb hab]; exact hw, e⟩
  · rintro ⟨a, b, ha, hb, hab, hw, e⟩
    exact ⟨a, b, ha, hb, hab, by rw [h a b ha hb hab]; exact hw, e⟩
theorem close_reduce {o : Prob} (hc : chk o = 0) (hcb : circB (webOf o) = false) : closeP (reduceP o) = closeP o := by
  unfold closeP
  have : closeL (webOf (reduceP o)) = closeL (webOf o) := keptK_congr fun a b ha hb _ => reach_reduce hc hcb ha hb
  rw [this]
  rfl
theorem reduceL_len {o : Prob} (hc : chk o = 0) : (reduceL (webOf o)).length ≤ o.arcs.length := by
  rw [← reduce_filter hc]
  exact List.length_filter_le _ _
theorem keptK_len (want : Mx) (n k : Nat) : (keptK want n k).length ≤ k * n := by
  unfold keptK
  rw [List.length_flatMap]
  have : ∀ l : List Nat, (l.map fun a => (rowK want a n).length).sum ≤ l.length * n := by
    intro l
    induction l with
    | nil => simp
    | cons a l ih =>
      have h1 : (rowK want a n).length ≤ n := by
        unfold rowK
        rw [List.length_map]
        exact Nat.le_trans (List.length_filter_le _ _) (by simp)
      simp only [List.map_cons, List.sum_cons, List.length_cons]
      rw [Nat.add_mul]
      omega
  have := this (List.range k)
  simpa using this
/-- In an order who leads to another one comes before it. -/
theorem ordered_before {W : Web} (hn : W.n ≤ 24) (hirr : ∀ p, hasS (W.to p) p = false) {l : List Int} (h : orderedB W l = true) {a b : Nat} (hp : Path W.to W.n a b) : a < W.n → b < W.n → l.idxOf (a : Int) < l.idxOf (b : Int) := by
  obtain ⟨h1, h2, h3, h4⟩ := orderedB_iff.1 h
  have key : ∀ {a b : Nat}, hasS (W.to a) b = true → a < W.n → b < W.n → l.idxOf (a : Int) < l.idxOf (b : Int) := by
    intro a b hab ha hb
    have ma := List.idxOf_lt_length_iff.2 (mem_full h1 h2 h3 ha)
    have mb := List.idxOf_lt_length_iff.2 (mem_full h1 h2 h3 hb)
    rcases Nat.lt_trichotomy (l.idxOf (a : Int)) (l.idxOf (b : Int)) with hh | hh | hh
    · exact hh
    · have e1 := List.getElem_idxOf ma
      have e2 := List.getElem_idxOf mb
      have : l[l.idxOf (a : Int)] = l[l.idxOf (b : Int)] := by congr 1
      rw [e1, e2] at this
      have : a = b := by omega
      subst this
      rw [hirr] at hab; cases hab
    · have h5 := h4 _ ma
      have e1 := List.getElem_idxOf ma
      have e2 := List.getElem_idxOf mb
      have hx : hasS (W.to (l.getD (l.idxOf (a : Int)) 0).toNat &&& setS (l.take (l.idxOf (a : Int)))) b = true := by
        rw [hasS_and, hasS_setS _ (fun p hp => by have := h2 p (List.mem_of_mem_take hp); omega), getD_mem ma, e1, Int.toNat_natCast, hab, Bool.true_and]
        refine decide_eq_true ?_
        have := take_mem_lt mb hh
        rw [e2] at this
        exact this
      rw [h5, hasS_zero] at hx
      cases hx
  induction hp with
  | arc h => exact key h
  | cons h hm _ ih => exact fun ha hb => Nat.lt_trans (key h ha hm) (ih hm hb)

end Go.Proofs.Yteljjkghjbofnaa
