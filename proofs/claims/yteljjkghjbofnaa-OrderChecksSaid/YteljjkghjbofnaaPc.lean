/- Free, orders: the models; plain facts. -/
import Derived.Test.YteljjkghjbofnaaWi
set_option maxRecDepth 100000
namespace Go.Proofs.Yteljjkghjbofnaa
open Go Go.Proofs Go.RowKit

/-! ### matched -/

/-- What the search for a next patch turns: the patches that were seen; the next one of each; the one before each. -/
structure MS where
  seen : S
  next : List Int
  before : List Int

def MS.see (st : MS) (q : Nat) : MS := { st with seen := st.seen ||| oneS q }
def MS.pair (st : MS) (p q : Nat) : MS := { st with next := st.next.set p (q : Int), before := st.before.set q (p : Int) }
/-- May q come next? -/
def wants (W : Web) (some : S) (p : Nat) (st : MS) (q : Nat) : Bool := hasS some q && !hasS st.seen q && hasS (W.reach p) q

def findGo (W : Web) (some : S) (sub : Nat → MS → Bool × MS) (p : Nat) : List Nat → MS → Bool × MS
  | [], st => (false, st)
  | q :: qs, st =>
    if wants W some p st q = true then
      if st.before.getD q 0 < 0 then (true, (st.see q).pair p q)
      else if (sub (st.before.getD q 0).toNat (st.see q)).1 = true then (true, ((sub (st.before.getD q 0).toNat (st.see q)).2).pair p q)
      else findGo W some sub p qs (sub (st.before.getD q 0).toNat (st.see q)).2
    else findGo W some sub p qs st
def findF (W : Web) (some : S) : Nat → Nat → MS → Bool × MS
  | 0, _, st => (false, st)
  | f + 1, p, st => findGo W some (findF W some f) p (List.range W.n) st
/-- How many patches were not seen. -/
def unseen (n : Nat) (s : S) : Nat := ((List.range n).filter fun p => !hasS s p).length

def matchStep (W : Web) (some : S) (st : MS) (p : Nat) : MS := if hasS some p then (findF W some (W.n + 1) p { st with seen := 0#32 }).2 else st
def matchSt (W : Web) (some : S) (k : Nat) : MS := (List.range k).foldl (matchStep W some) { seen := 0#32, next := List.replicate 24 (-1), before := List.replicate 24 (-1) }
/-- The next patch of each. -/
def matchedL (W : Web) (some : S) : List Int := (matchSt W some W.n).next

structure MS.Ok (n : Nat) (st : MS) : Prop where
  next : st.next.length = 24 ∧ ∀ x ∈ st.next, -1 ≤ x ∧ x < n
  before : st.before.length = 24 ∧ ∀ x ∈ st.before, -1 ≤ x ∧ x < n

theorem mem_set_or {l : List Int} {i : Nat} {x y : Int} (h : y ∈ l.set i x) : y = x ∨ y ∈ l := by
  have := List.mem_or_eq_of_mem_set h
  exact this.symm
theorem MS.Ok.see {n : Nat} {st : MS} (h : st.Ok n) (q : Nat) : (st.see q).Ok n := ⟨h.next, h.before⟩
theorem MS.Ok.seen {n : Nat} {st : MS} (h : st.Ok n) (s : S) : ({ st with seen := s } : MS).Ok n := ⟨h.next, h.before⟩
theorem MS.Ok.pair {n : Nat} {st : MS} (h : st.Ok n) {p q : Nat} (hp : p < n) (hq : q < n) : (st.pair p q).Ok n :=
  ⟨⟨by simp [MS.pair, h.next.1], fun x hx => by
    rcases mem_set_or hx with rfl | h1
    · omega
    · exact h.next.2 x h1⟩,
   ⟨by simp [MS.pair, h.before.1], fun x hx => by
    rcases mem_set_or hx with rfl | h1
    · omega
    · exact h.before.2 x h1⟩⟩
theorem MS.Ok.getB {n : Nat} {st : MS} (h : st.Ok n) {q : Nat} (hq : q < 24) : -1 ≤ st.before.getD q 0 ∧ st.before.getD q 0 < n := by
  have hl : q < st.before.length := by rw [h.before.1]; exact hq
  rw [List.getD_eq_getElem?_getD, List.getElem?_eq_getElem hl]
  exact h.before.2 _ (List.getElem_mem hl)

theorem findGo_ok {W : Web} {some : S} {sub : Nat → MS → Bool × MS} (hn : W.n ≤ 24) (hsub : ∀ p st, p < W.n → st.Ok W.n → (sub p st).2.Ok W.n) {p : Nat} (hp : p < W.n) : ∀ (qs : List Nat) (st : MS), (∀ q ∈ qs, q < W.n) → st.Ok W.n → (findGo W some sub p qs st).2.Ok W.n
  | [], st, _, h => h
  | q :: qs, st, hq, h => by
    have hqn := hq q (List.mem_cons_self ..)
    have hb := h.getB (q := q) (by omega)
    have hq' := fun r hr => hq r (List.mem_cons_of_mem _ hr)
    unfold findGo
    split
    · split
      · exact (h.see q).pair hp hqn
      · have h1 := hsub (st.before.getD q 0).toNat (st.see q) (by omega) (h.see q)
        split
        · exact h1.pair hp hqn
        · exact findGo_ok hn hsub hp qs _ hq' h1
    · exact findGo_ok hn hsub hp qs _ hq' h
theorem findF_ok {W : Web} {some : S} (hn : W.n ≤ 24) : ∀ (f p : Nat) (st : MS), p < W.n → st.Ok W.n → (findF W some f p st).2.Ok W.n
  | 0, _, _, _, h => h
  | f + 1, _, _, hp, h => findGo_ok hn (fun _ _ hp h => findF_ok hn f _ _ hp h) hp _ _ (fun _ hq => List.mem_range.1 hq) h
theorem matchSt_succ (W : Web) (some : S) (k : Nat) : matchSt W some (k + 1) = matchStep W some (matchSt W some k) k := by unfold matchSt; rw [List.range_succ, List.foldl_append]; rfl
theorem matchSt_ok {W : Web} {some : S} (hn : W.n ≤ 24) : ∀ (k : Nat), k ≤ W.n → (matchSt W some k).Ok W.n
  | 0, _ => ⟨⟨by simp [matchSt], fun x hx => by have := List.eq_of_mem_replicate hx; omega⟩, ⟨by simp [matchSt], fun x hx => by have := List.eq_of_mem_replicate hx; omega⟩⟩
  | k + 1, h => by
    rw [matchSt_succ]
    unfold matchStep
    have h1 := matchSt_ok (W := W) (some := some) hn k (by omega)
    split
    · exact findF_ok hn _ _ _ (by omega) (h1.seen _)
    · exact h1

/-! ### broad, free, Free -/

/-- OnesCount32. -/
def popS (s : S) : Nat := ((List.range 32).filter fun p => hasS s p).length
def broadStep (some : S) (next : List Int) (m : Int) (p : Nat) : Int := if hasS some p = true ∧ 0 ≤ next.getD p 0 then m - 1 else m
def broadI (W : Web) (some : S) : Int := (List.range 24).foldl (broadStep some (matchedL W some)) (popS some)
def freeB (W : Web) (some : S) (p q : Nat) : Bool := hasS some q && decide (q ≠ p) && !hasS (W.reach p) q && !hasS (W.reach q) p
def freePart (W : Web) (some : S) (p k : Nat) : S := (List.range k).foldl (fun s q => if freeB W some p q then s ||| oneS q else s) 0#32
def freeS (W : Web) (some : S) (p : Nat) : S := freePart W some p W.n
/-- The patches of some that are above p. -/
def aboveS (some : S) (p : Nat) : S := some &&& ~~~(oneS (p + 1) - 1#32)
def freeStep (W : Web) (st : List Int × S × Int) (p : Nat) : List Int × S × Int :=
  if hasS st.2.1 p = false ∨ st.2.2 = 0 then st
  else if broadI W (freeS W (aboveS st.2.1 p) p) = st.2.2 - 1 then (st.1 ++ [(p : Int)], freeS W (aboveS st.2.1 p) p, st.2.2 - 1) else st
def freePt (W : Web) (k : Nat) : List Int × S × Int := (List.range k).foldl (freeStep W) ([], wholeS W.n, broadI W (wholeS W.n))
def freeL (W : Web) : List Int := (freePt W W.n).1
def FreeR (o : Prob) : List Int × Int := if errS o = 0 then (freeL (webOf o), 0) else ([], errS o)

theorem freePart_succ (W : Web) (some : S) (p k : Nat) : freePart W some p (k + 1) = (if freeB W some p k then freePart W some p k ||| oneS k else freePart W some p k) := by unfold freePart; rw [List.range_succ, List.foldl_append]; rfl
theorem freePt_succ (W : Web) (k : Nat) : freePt W (k + 1) = freeStep W (freePt W k) k := by unfold freePt; rw [List.range_succ, List.foldl_append]; rfl

def sampleP : Prob := ⟨4, [(0, 1), (0, 2), (1, 3)], [(0, 1), (1, 2), (2, 3)]⟩
example : FreeR sampleP = ([1, 2], 0) := by decide +kernel

/-! ### orders, Wait -/

def ordersF (W : Web) : Nat → S → List Int → List (List Int)
  | 0, _, _ => []
  | f + 1, d, l => if l.length = W.n then [l] else (readyL W d).flatMap fun p => ordersF W f (d ||| oneS p) (l ++ [(p : Int)])
def ordersL (W : Web) : List (List Int) := ordersF W (W.n + 1) 0#32 []
example : ordersL (webOf sampleP) = [[0, 1, 2, 3], [0, 1, 3, 2], [0, 2, 1, 3]] := by decide +kernel
end Go.Proofs.Yteljjkghjbofnaa
