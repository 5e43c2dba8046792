/- Rows of one's own, of points and of numbers: what lies at a place, and what is put there. -/
import Derived.Test.YtlglfcdobbocnaaGreatWm
set_option maxRecDepth 100000
namespace Go.Proofs.YtlglfcdobbocnaaGreat
open Go Go.Proofs Go.RowKit
attribute [local go_sem] Oper.semAt_some
theorem flat_set : ∀ (l : List Pt) (k : Nat) (x : Pt), k < l.length → (l.set k x).flatMap pairC = ((l.flatMap pairC).set (k * 2) (.int .i64 x.1)).set (k * 2 + 1) (.int .i64 x.2)
  | [], _, _, h => by simp at h
  | y :: t, 0, x, _ => by simp [pairC]
  | y :: t, k + 1, x, h => by
    have ih := flat_set t k x (by simpa using h)
    rw [show (k + 1) * 2 = k * 2 + 1 + 1 by omega, show k * 2 + 1 + 1 + 1 = (k * 2 + 1) + 1 + 1 by omega]
    simp only [List.set_cons_succ, List.flatMap_cons, ih]
    simp [pairC]
def intC (x : Int) : List Value := [.int .i64 x]
theorem intC_len (x : Int) : (intC x).length = 1 := rfl
theorem intC_one (x : Int) : ∀ u ∈ intC x, u.oneCell' = true := fun u hu => by
  simp [intC] at hu
  subst hu; rfl
theorem flat_setI : ∀ (l : List Int) (k : Nat) (x : Int), k < l.length → (l.set k x).flatMap intC = (l.flatMap intC).set k (.int .i64 x)
  | [], _, _, h => by simp at h
  | y :: t, 0, x, _ => by simp [intC]
  | y :: t, k + 1, x, h => by
    have ih := flat_setI t k x (by simpa using h)
    simp only [List.set_cons_succ, List.flatMap_cons, ih]
    simp [intC]
/-- Numbers of the call's own. -/
abbrev OwnN (X : World) (base : Nat) (v : Value) (l : List Int) : Prop := OwnG X base 3 1 intC v l
theorem flat_int (l : List Int) : l.flatMap intC = l.map (.int .i64) := by
  induction l with
  | nil => rfl
  | cons x l ih => simp [intC, ih]
theorem OwnN.iff {X : World} {base : Nat} {v : Value} {l : List Int} : OwnN X base v l ↔ OwnI X base v l := by
  unfold OwnN OwnG OwnI
  rw [flat_int]
section
variable {α : Type} {cs : α → List Value} {size e : Nat}
theorem OwnG.parts {X : World} {base g c n : Nat} {l : List α} (h : OwnG X base e size cs (.slice (some ⟨g, 0, none⟩) n c) l) :
    ∃ cur, n = l.length ∧ base ≤ g ∧ X.heap[g]? = some (.cells cur e (0, 0)) ∧ n ≤ c ∧ c ≤ maxLen ∧ cur.size = c * size ∧ cur.toList.take (n * size) = l.flatMap cs := by
  rcases h.2 with ⟨h0, _⟩ | ⟨g', cap, cur, hv, hbase, hb, hn, hcm, hsz, htk⟩
  · cases h0
  · simp only [Value.slice.injEq, Option.some.injEq, Addr.mk.injEq] at hv
    obtain ⟨⟨rfl, -, -⟩, rfl, rfl⟩ := hv
    exact ⟨cur, rfl, hbase, hb, hn, hcm, hsz, htk⟩
theorem OwnG.of_parts (hcs : ∀ a, (cs a).length = size) {X : World} {base g c n : Nat} {l : List α} {cur : Array Value} (h0 : n = l.length) (h1 : base ≤ g) (h2 : X.heap[g]? = some (.cells cur e (0, 0))) (h3 : n ≤ c) (h4 : c ≤ maxLen) (h5 : cur.size = c * size) (h6 : cur.toList.take (n * size) = l.flatMap cs) :
    OwnG X base e size cs (.slice (some ⟨g, 0, none⟩) n c) l := by
  subst h0
  exact ⟨flatMap_len hcs l, .inr ⟨g, c, cur, rfl, h1, h2, h3, h4, h5, h6⟩⟩
theorem OwnG.at_ (hcs : ∀ a, (cs a).length = size) {X : World} {base g c n : Nat} {l : List α} (h : OwnG X base e size cs (.slice (some ⟨g, 0, none⟩) n c) l) {k : Nat} (hk : k < l.length) {j : Nat} {u : Value} (hu : (cs l[k])[j]? = some u) : X.cell? ⟨g, k * size + j, none⟩ = some u := by
  rcases h.slice hcs with ⟨h0, -⟩ | ⟨g', c', he, -, -, -, -, hc⟩
  · rw [h0] at hk; simp at hk
  · simp at he
    obtain ⟨rfl, -, -⟩ := he
    exact hc k hk j u hu
theorem OwnG.warm {X : World} {base g c n : Nat} {l : List α} (h : OwnG X base e size cs (.slice (some ⟨g, 0, none⟩) n c) l) (i : Nat) : X.frozen? ⟨g, i, none⟩ = false := by
  obtain ⟨cur, _, _, hh, _⟩ := h.parts
  exact frozen_of_row X g i cur e hh
theorem OwnG.n_eq {X : World} {base g c n : Nat} {l : List α} (h : OwnG X base e size cs (.slice (some ⟨g, 0, none⟩) n c) l) : n = l.length := by
  obtain ⟨_, h, _⟩ := h.parts
  exact h
end
theorem OwnG.setP {X : World} {base g c n : Nat} {l : List Pt} (h : OwnP X base (.slice (some ⟨g, 0, none⟩) n c) l) {k : Nat} (hk : k < l.length) (x : Pt) :
    OwnP ((X.setCell ⟨g, k * 2, none⟩ (.int .i64 x.1)).setCell ⟨g, k * 2 + 1, none⟩ (.int .i64 x.2)) base (.slice (some ⟨g, 0, none⟩) n c) (l.set k x) := by
  obtain ⟨cur, rfl, hb, hh, hn, hm, hs, ht⟩ := h.parts
  refine OwnG.of_parts pairC_len (by simp) hb (heap_setCell_same _ g _ _ 25 _ (heap_setCell_same X g _ cur 25 _ hh)) hn hm (by simpa using hs) ?_
  rw [Array.toList_setIfInBounds, Array.toList_setIfInBounds, flat_set _ _ _ hk, ← ht, List.take_set, List.take_set]
theorem OwnG.setN {X : World} {base g c n : Nat} {l : List Int} (h : OwnN X base (.slice (some ⟨g, 0, none⟩) n c) l) {k : Nat} (hk : k < l.length) (x : Int) :
    OwnN (X.setCell ⟨g, k, none⟩ (.int .i64 x)) base (.slice (some ⟨g, 0, none⟩) n c) (l.set k x) := by
  obtain ⟨cur, rfl, hb, hh, hn, hm, hs, ht⟩ := h.parts
  refine OwnG.of_parts intC_len (by simp) hb (heap_setCell_same X g _ cur 3 _ hh) hn hm (by simpa using hs) ?_
  rw [Array.toList_setIfInBounds, flat_setI _ _ _ hk, ← ht, List.take_set]
theorem set1_grown (X : World) (g i : Nat) (u : Value) : X.grownBy (X.setCell ⟨g, i, none⟩ u) (some g) :=
  ⟨rfl, rfl, rfl, by simp, fun k hk hne => by rw [heap_setCell_other _ _ k u (fun e => hne (by rw [e]))]⟩
/-- Two points of a row change places: the world, written out. -/
theorem swapP {X : World} {base g c n : Nat} {l : List Pt} (h : OwnP X base (.slice (some ⟨g, 0, none⟩) n c) l) {i j : Nat} (hi : i < l.length) (hj : j < l.length) :
    OwnP ((((X.setCell ⟨g, i * 2, none⟩ (.int .i64 (gt l j).1)).setCell ⟨g, i * 2 + 1, none⟩ (.int .i64 (gt l j).2)).setCell ⟨g, j * 2, none⟩ (.int .i64 (gt l i).1)).setCell ⟨g, j * 2 + 1, none⟩ (.int .i64 (gt l i).2)) base (.slice (some ⟨g, 0, none⟩) n c) (swapAt l i j) ∧
    X.grownBy ((((X.setCell ⟨g, i * 2, none⟩ (.int .i64 (gt l j).1)).setCell ⟨g, i * 2 + 1, none⟩ (.int .i64 (gt l j).2)).setCell ⟨g, j * 2, none⟩ (.int .i64 (gt l i).1)).setCell ⟨g, j * 2 + 1, none⟩ (.int .i64 (gt l i).2)) (some g) := by
  refine ⟨?_, ?_⟩
  · unfold swapAt
    exact OwnG.setP (OwnG.setP h hi _) (by simpa using hj) _
  · exact (((set1_grown _ _ _ _).trans (set1_grown _ _ _ _)).trans (set1_grown _ _ _ _)).trans (set1_grown _ _ _ _)
theorem swapN {X : World} {base g c n : Nat} {l : List Int} (h : OwnN X base (.slice (some ⟨g, 0, none⟩) n c) l) {i j : Nat} (hi : i < l.length) (hj : j < l.length) :
    OwnN ((X.setCell ⟨g, i, none⟩ (.int .i64 (gt l j))).setCell ⟨g, j, none⟩ (.int .i64 (gt l i))) base (.slice (some ⟨g, 0, none⟩) n c) (swapAt l i j) ∧ X.grownBy ((X.setCell ⟨g, i, none⟩ (.int .i64 (gt l j))).setCell ⟨g, j, none⟩ (.int .i64 (gt l i))) (some g) := by
  refine ⟨?_, ?_⟩
  · unfold swapAt
    exact OwnG.setN (OwnG.setN h hi _) (by simpa using hj) _
  · exact (set1_grown _ _ _ _).trans (set1_grown _ _ _ _)
theorem atP {X : World} {base g c n : Nat} {l : List Pt} (h : OwnP X base (.slice (some ⟨g, 0, none⟩) n c) l) {k : Nat} (hk : k < l.length) : X.cell? ⟨g, k * 2, none⟩ = some (.int .i64 (gt l k).1) ∧ X.cell? ⟨g, k * 2 + 1, none⟩ = some (.int .i64 (gt l k).2) := by
  rw [gt_eq hk]
  exact ⟨h.at_ pairC_len hk (j := 0) rfl, h.at_ pairC_len hk (j := 1) rfl⟩
theorem atN {X : World} {base g c n : Nat} {l : List Int} (h : OwnN X base (.slice (some ⟨g, 0, none⟩) n c) l) {k : Nat} (hk : k < l.length) : X.cell? ⟨g, k, none⟩ = some (.int .i64 (gt l k)) := by
  rw [gt_eq hk]
  have := h.at_ intC_len hk (j := 0) (u := .int .i64 l[k]) rfl
  simpa using this
end Go.Proofs.YtlglfcdobbocnaaGreat
