/- Free, orders: the models; plain facts. -/
import Derived.Test.YteljjkghjbofnaaMb
import Derived.Test.YteljjkghjbofnaaMd
import Derived.Test.YteljjkghjbofnaaMc
/-! Free, orders: the models; plain facts. -/
set_option maxRecDepth 100000
namespace Go.Proofs.Yteljjkghjbofnaa
open Go Go.Proofs Go.RowKit

/-! ### matched -/

/-- What the search for a next patch turns: the patches that were seen; the next one of each; the one before each. -/
structure MS where
  seen : S
  next : List Int
  before : List Int

def MS.see (st : MS) (q : Nat) : MS := { st with seen := st.seen ||| oneS q }
def MS.pair (st : MS) (p q : Nat) : MS := { st with next := st.next.set p (q : Int), before := st.before.set q (p : Int) }
/-- May q come next? -/
def wants (W : Web) (some : S) (p : Nat) (st : MS) (q : Nat) : Bool := hasS some q && !hasS st.seen q && hasS (W.reach p) q

def findGo (W : Web) (some : S) (sub : Nat → MS → Bool × MS) (p : Nat) : List Nat → MS → Bool × MS
  | [], st => (false, st)
  | q :: qs, st =>
    if wants W some p st q = true then
      if st.before.getD q 0 < 0 then (true, (st.see q).pair p q)
      else if (sub (st.before.getD q 0).toNat (st.see q)).1 = true then (true, ((sub (st.before.getD q 0).toNat (st.see q)).2).pair p q)
      else findGo W some sub p qs (sub (st.before.getD q 0).toNat (st.see q)).2
    else findGo W some sub p qs st
def findF (W : Web) (some : S) : Nat → Nat → MS → Bool × MS
  | 0, _, st => (false, st)
  | f + 1, p, st => findGo W some (findF W some f) p (List.range W.n) st
/-- How many patches were not seen. -/
def unseen (n : Nat) (s : S) : Nat := ((List.range n).filter fun p => !hasS s p).length

def matchStep (W : Web) (some : S) (st : MS) (p : Nat) : MS := if hasS some p then (findF W some (W.n + 1) p { st with seen := 0#32 }).2 else st
def matchSt (W : Web) (some : S) (k : Nat) : MS := (List.range k).foldl (matchStep W some) { seen := 0#32, next := List.replicate 24 (-1), before := List.replicate 24 (-1) }
/-- The next patch of each. -/
def matchedL (W : Web) (some : S) : List Int := (matchSt W some W.n).next

structure MS.Ok (n : Nat) (st : MS) : Prop where
  next : st.next.length = 24 ∧ ∀ x ∈ st.next, -1 ≤ x ∧ x < n
  before : st.before.length = 24 ∧ ∀ x ∈ st.before, -1 ≤ x ∧ x < n

theorem mem_set_or {l : List Int} {i : Nat} {x y : Int} (h : y ∈ l.set i x) : y = x ∨ y ∈ l := by
  have := List.mem_or_eq_of_mem_set h
  exact this.symm
theorem MS.Ok.see {n : Nat} {st : MS} (h : st.Ok n) (q : Nat) : (st.see q).Ok n := ⟨h.next, h.before⟩
theorem MS.Ok.seen {n : Nat} {st : MS} (h : st.Ok n) (s : S) : ({ st with seen := s } : MS).Ok n := ⟨h.next, h.before⟩
theorem MS.Ok.pair {n : Nat} {st : MS} (h : st.Ok n) {p q : Nat} (hp : p < n) (hq : q < n) : (st.pair p q).Ok n :=
  ⟨⟨by simp [MS.pair, h.next.1], fun x hx => by
    rcases mem_set_or hx with rfl | h1
    · omega
    · exact h.next.2 x h1⟩,
   ⟨by simp [MS.pair, h.before.1], fun x hx => by
    rcases mem_set_or hx with rfl | h1
    · omega
    · exact h.before.2 x h1⟩⟩
theorem MS.Ok.getB {n : Nat} {st : MS} (h : st.Ok n) {q : Nat} (hq : q < 24) : -1 ≤ st.before.getD q 0 ∧ st.before.getD q 0 < n := by
  have hl : q < st.before.length := by rw [h.before.1]; exact hq
  rw [List.getD_eq_getElem?_getD, List.getElem?_eq_getElem hl]
  exact h.before.2 _ (List.getElem_mem hl)

theorem findGo_ok {W : Web} {some : S} {sub : Nat → MS → Bool × MS} (hn : W.n ≤ 24) (hsub : ∀ p st, p < W.n → st.Ok W.n → (sub p st).2.Ok W.n) {p : Nat} (hp : p < W.n) : ∀ (qs : List Nat) (st : MS), (∀ q ∈ qs, q < W.n) → st.Ok W.n → (findGo W some sub p qs st).2.Ok W.n
  | [], st, _, h => h
  | q :: qs, st, hq, h => by
    have hqn := hq q (List.mem_cons_self ..)
    have hb := h.getB (q := q) (by omega)
    have hq' := fun r hr => hq r (List.mem_cons_of_mem _ hr)
    unfold findGo
    split
    · split
      · exact (h.see q).pair hp hqn
      · have h1 := hsub (st.before.getD q 0).toNat (st.see q) (by omega) (h.see q)
        split
        · exact h1.pair hp hqn
        · exact findGo_ok hn hsub hp qs _ hq' h1
    · exact findGo_ok hn hsub hp qs _ hq' h
theorem findF_ok {W : Web} {some : S} (hn : W.n ≤ 24) : ∀ (f p : Nat) (st : MS), p < W.n → st.Ok W.n → (findF W some f p st).2.Ok W.n
  | 0, _, _, _, h => h
  | f + 1, _, _, hp, h => findGo_ok hn (fun _ _ hp h => findF_ok hn f _ _ hp h) hp _ _ (fun _ hq => List.mem_range.1 hq) h
theorem matchSt_succ (W : Web) (some : S) (k : Nat) : matchSt W some (k + 1) = matchStep W some (matchSt W some k) k := by unfold matchSt; rw [List.range_succ, List.foldl_append]; rfl
theorem matchSt_ok {W : Web} {some : S} (hn : W.n ≤ 24) : ∀ (k : Nat), k ≤ W.n → (matchSt W some k).Ok W.n
  | 0, _ => ⟨⟨by simp [matchSt], fun x hx => by have := List.eq_of_mem_replicate hx; omega⟩, ⟨by simp [matchSt], fun x hx => by have := List.eq_of_mem_replicate hx; omega⟩⟩
  | k + 1, h => by
    rw [matchSt_succ]
    unfold matchStep
    have h1 := matchSt_ok (W := W) (some := some) hn k (by omega)
    split
    · exact findF_ok hn _ _ _ (by omega) (h1.seen _)
    · exact h1

/-! ### broad, free, Free -/

/-- OnesCount32. -/
def popS (s : S) : Nat := ((List.range 32).filter fun p => hasS s p).length
def broadStep (some : S) (next : List Int) (m : Int) (p : Nat) : Int := if hasS some p = true ∧ 0 ≤ next.getD p 0 then m - 1 else m
def broadI (W : Web) (some : S) : Int := (List.range 24).foldl (broadStep some (matchedL W some)) (popS some)
def freeB (W : Web) (some : S) (p q : Nat) : Bool := hasS some q && decide (q ≠ p) && !hasS (W.reach p) q && !hasS (W.reach q) p
def freePart (W : Web) (some : S) (p k : Nat) : S := (List.range k).foldl (fun s q => if freeB W some p q then s ||| oneS q else s) 0#32
def freeS (W : Web) (some : S) (p : Nat) : S := freePart W some p W.n
/-- The patches of some that are above p. -/
def aboveS (some : S) (p : Nat) : S := some &&& ~~~(oneS (p + 1) - 1#32)
def freeStep (W : Web) (st : List Int × S × Int) (p : Nat) : List Int × S × Int :=
  if hasS st.2.1 p = false ∨ st.2.2 = 0 then st
  else if broadI W (freeS W (aboveS st.2.1 p) p) = st.2.2 - 1 then (st.1 ++ [(p : Int)], freeS W (aboveS st.2.1 p) p, st.2.2 - 1) else st
def freePt (W : Web) (k : Nat) : List Int × S × Int := (List.range k).foldl (freeStep W) ([], wholeS W.n, broadI W (wholeS W.n))
def freeL (W : Web) : List Int := (freePt W W.n).1
def FreeR (o : Prob) : List Int × Int := if errS o = 0 then (freeL (webOf o), 0) else ([], errS o)

theorem freePart_succ (W : Web) (some : S) (p k : Nat) : freePart W some p (k + 1) = (if freeB W some p k then freePart W some p k ||| oneS k else freePart W some p k) := by unfold freePart; rw [List.range_succ, List.foldl_append]; rfl
theorem freePt_succ (W : Web) (k : Nat) : freePt W (k + 1) = freeStep W (freePt W k) k := by unfold freePt; rw [List.range_succ, List.foldl_append]; rfl

def sampleP : Prob := ⟨4, [(0, 1), (0, 2), (1, 3)], [(0, 1), (1, 2), (2, 3)]⟩
example : FreeR sampleP = ([1, 2], 0) := by decide +kernel

/-! ### orders, Wait -/

def ordersF (W : Web) : Nat → S → List Int → List (List Int)
  | 0, _, _ => []
  | f + 1, d, l => if l.length = W.n then [l] else (readyL W d).flatMap fun p => ordersF W f (d ||| oneS p) (l ++ [(p : Int)])
def ordersL (W : Web) : List (List Int) := ordersF W (W.n + 1) 0#32 []
example : ordersL (webOf sampleP) = [[0, 1, 2, 3], [0, 1, 3, 2], [0, 2, 1, 3]] := by decide +kernel
end Go.Proofs.Yteljjkghjbofnaa

/-! Plain law: the reasons of an order lead back to the day 0, and their days add up to the last day. -/
set_option maxRecDepth 100000
namespace Go.Proofs.Yteljjkghjbofnaa
open Go Go.Proofs Go.RowKit

/-! ### Why a day is not earlier -/

theorem near_fold_eq {W : Web} {dry : Int} {p : Nat} : ∀ (qs : List Int) (out : List Int), p < out.length → (∀ q ∈ qs, q.toNat ≠ p) →
    (qs.foldl (dayNear W dry p) out).getD p 0 = out.getD p 0 ∨ ∃ q ∈ qs, hasS (W.near p) q.toNat = true ∧ (qs.foldl (dayNear W dry p) out).getD p 0 = out.getD q.toNat 0 + dry + 1
  | [], out, _, _ => .inl rfl
  | q :: qs, out, h, hne => by
    have hq := hne q (List.mem_cons_self ..)
    have hne' := fun r hr => hne r (List.mem_cons_of_mem _ hr)
    rcases near_fold_eq (W := W) (dry := dry) (p := p) qs (dayNear W dry p out q) (by rw [dayNear_length]; exact h) hne' with h1 | ⟨r, hr, hn, h1⟩
    · rw [List.foldl_cons, h1]
      unfold dayNear
      by_cases hh : hasS (W.near p) q.toNat = true
      · rw [if_pos hh, getD_set_same h]
        rcases Int.le_total (out.getD p 0) (out.getD q.toNat 0 + dry + 1) with h2 | h2
        · exact .inr ⟨q, List.mem_cons_self .., hh, Int.max_eq_right h2⟩
        · exact .inl (Int.max_eq_left h2)
      · rw [if_neg hh]; exact .inl rfl
    · refine .inr ⟨r, List.mem_cons_of_mem _ hr, hn, ?_⟩
      rw [List.foldl_cons, h1, dayNear_other (Ne.symm (hne' r hr))]

section
variable {W : Web} {dry : Int} {l : List Int}
/-- A day is the day behind the one before, or that at which a neighbour is dry. -/
theorem days_why (hin : ∀ p ∈ l, 0 ≤ p ∧ p < (W.n : Int)) (hnd : l.Nodup) {i : Nat} (h0 : 0 < i) (h : i < l.length) :
    (daysOf W dry l).getD (l.getD i 0).toNat 0 = (daysOf W dry l).getD (l.getD (i - 1) 0).toNat 0 + 1 ∨
    ∃ q, q < W.n ∧ hasS (W.near (l.getD i 0).toNat) q = true ∧ (daysOf W dry l).getD (l.getD i 0).toNat 0 = (daysOf W dry l).getD q 0 + dry + 1 := by
  unfold daysOf
  obtain ⟨p, hp, hpn, hp'⟩ := getD_nat (W := W) hin h
  have hlen := daysPart_length W dry l i
  have stay : ∀ j, (hj : j < i) → (daysPart W dry l l.length).getD (l.getD j 0).toNat 0 = (daysPart W dry l i).getD (l.getD j 0).toNat 0 := fun j hj => by
    rw [daysPart_stays hin hnd (show j < l.length by omega) l.length (by omega) (Nat.le_refl _), daysPart_stays hin hnd (show j < l.length by omega) i hj (by omega)]
  rw [daysPart_stays hin hnd h l.length h (Nat.le_refl _), stay (i - 1) (by omega), daysPart_succ W dry l i]
  unfold dayStep
  have e : (l.getD i 0).toNat = p := by rw [hp]; rfl
  rw [e]
  have hfl : (dayFirst l i (daysPart W dry l i)).length = W.n := by unfold dayFirst; split <;> simp [hlen]
  have hne : ∀ q ∈ l.take i, q.toNat ≠ p := by
    intro q hq
    obtain ⟨j, hj, hjq⟩ := List.getElem_of_mem hq
    have hji : j < i := by simp at hj; omega
    rw [List.getElem_take] at hjq
    intro e2
    have hq0 := hin q (List.mem_of_mem_take hq)
    have : l[j] = l[i] := by rw [hjq, hp']; omega
    have := (List.getElem_inj hnd).1 this
    omega
  have hfirst : ∀ x, x ≠ p → (dayFirst l i (daysPart W dry l i)).getD x 0 = (daysPart W dry l i).getD x 0 := fun x hx => by
    unfold dayFirst; rw [if_pos h0, e]; exact getD_set_other (Ne.symm hx) _ _
  rcases near_fold_eq (W := W) (dry := dry) (p := p) (l.take i) (dayFirst l i (daysPart W dry l i)) (by rw [hfl]; exact hpn) hne with h1 | ⟨q, hq, hn, h1⟩
  · refine .inl ?_
    rw [h1]
    unfold dayFirst
    rw [if_pos h0, e, getD_set_same (by rw [hlen]; exact hpn)]
  · refine .inr ⟨q.toNat, ?_, hn, ?_⟩
    · have := hin q (List.mem_of_mem_take hq); omega
    · rw [h1, hfirst _ (hne q hq)]
      obtain ⟨j, hj, hjq⟩ := List.getElem_of_mem hq
      have hji : j < i := by simp at hj; omega
      rw [List.getElem_take] at hjq
      have e2 : l.getD j 0 = q := by rw [List.getD_eq_getElem?_getD, List.getElem?_eq_getElem (show j < l.length by omega)]; exact hjq
      have := stay j hji
      rw [e2] at this
      rw [this]

/-- Reasons, one by one: T is the day of the first one's patch. -/
structure Leads (n : Nat) (dry : Int) (D : List Int) (r : List Rsn) : Prop where
  patch : ∀ i, (h : i < r.length) → 0 ≤ r[i].1 ∧ r[i].1 < n
  step : ∀ i, (h : i + 1 < r.length) → r[i + 1].1 = r[i].2.1 ∧ ((r[i].2.2 = 2 ∧ D.getD r[i].1.toNat 0 = D.getD r[i].2.1.toNat 0 + (dry + 1)) ∨ (r[i].2.2 = 1 ∧ D.getD r[i].1.toNat 0 = D.getD r[i].2.1.toNat 0 + 1))
  end_ : ∀ i, (h : i < r.length) → i + 1 = r.length → r[i].2.2 = 0 ∧ r[i].2.1 = -1 ∧ D.getD r[i].1.toNat 0 = 0

theorem rsnL_head {D : List Int} {f k : Nat} : ∃ x t, rsnL W dry l D (f + 1) k = (l.getD k 0, x) :: t := by
  unfold rsnL
  split
  · exact ⟨_, _, rfl⟩
  · unfold whyR
    split
    · exact ⟨_, _, rfl⟩
    · exact ⟨_, _, rfl⟩

theorem rsnL_leads (hd : 0 ≤ dry) (hl : l.length = W.n) (hin : ∀ p ∈ l, 0 ≤ p ∧ p < (W.n : Int)) (hnd : l.Nodup) : ∀ (f k : Nat), k < f → k < l.length → Leads W.n dry (daysOf W dry l) (rsnL W dry l (daysOf W dry l) f k)
  | 0, k, h, _ => by omega
  | f + 1, k, hf, hk => by
    obtain ⟨p, hp, hpn, hp'⟩ := getD_nat (W := W) hin hk
    unfold rsnL
    by_cases h0 : (daysOf W dry l).getD (l.getD k 0).toNat 0 = 0
    · rw [if_pos h0]
      refine ⟨fun i h => ?_, fun i h => ?_, fun i h _ => ?_⟩
      · have : i = 0 := by simpa using h
        subst this
        simp only [List.getElem_cons_zero]
        rw [hp]; omega
      · simp at h
      · have : i = 0 := by simpa using h
        subst this
        exact ⟨rfl, rfl, h0⟩
    · rw [if_neg h0]
      obtain ⟨hpos, hm, hlt⟩ := why_back hd hl hin hnd hk h0
      have hfrom := hin _ hm
      have hidx : l.idxOf (whyR W dry l (daysOf W dry l) k).2.1 < l.length := by omega
      have hget : l.getD (l.idxOf (whyR W dry l (daysOf W dry l) k).2.1) 0 = (whyR W dry l (daysOf W dry l) k).2.1 := by
        rw [List.getD_eq_getElem?_getD, List.getElem?_eq_getElem hidx, List.getElem_idxOf]; rfl
      have ih := rsnL_leads hd hl hin hnd f (l.idxOf (whyR W dry l (daysOf W dry l) k).2.1) (by omega) hidx
      obtain ⟨f', rfl⟩ : ∃ f', f = f' + 1 := ⟨f - 1, by omega⟩
      obtain ⟨x, t, hxt⟩ := rsnL_head (W := W) (dry := dry) (l := l) (D := daysOf W dry l) (f := f') (k := l.idxOf (whyR W dry l (daysOf W dry l) k).2.1)
      rw [hget] at hxt
      have hwhy : (whyR W dry l (daysOf W dry l) k).1 = (p : Int) ∧ (((whyR W dry l (daysOf W dry l) k).2.2 = 2 ∧ (daysOf W dry l).getD p 0 = (daysOf W dry l).getD (whyR W dry l (daysOf W dry l) k).2.1.toNat 0 + (dry + 1)) ∨
          ((whyR W dry l (daysOf W dry l) k).2.2 = 1 ∧ (daysOf W dry l).getD p 0 = (daysOf W dry l).getD (whyR W dry l (daysOf W dry l) k).2.1.toNat 0 + 1)) := by
        unfold whyR
        rw [hp, Int.toNat_natCast]
        split
        · rename_i q hq
          unfold whyQ at hq
          have hq1 := List.find?_some hq
          simp only [Bool.and_eq_true, beq_iff_eq] at hq1
          refine ⟨rfl, .inl ⟨rfl, ?_⟩⟩
          simp only [Int.toNat_natCast]
          omega
        · rename_i hq
          unfold whyQ at hq
          rw [List.find?_eq_none] at hq
          refine ⟨rfl, .inr ⟨rfl, ?_⟩⟩
          rcases days_why (dry := dry) hin hnd hpos hk with h | ⟨q, hqn, hqq, hqd⟩
          · rw [hp, Int.toNat_natCast] at h
            exact h
          · rw [hp, Int.toNat_natCast] at hqq hqd
            have := hq q (List.mem_range.2 hqn)
            simp only [hqq, Bool.true_and, beq_iff_eq] at this
            omega
      generalize whyR W dry l (daysOf W dry l) k = y at *
      generalize l.idxOf y.2.1 = j at *
      generalize hr : rsnL W dry l (daysOf W dry l) (f' + 1) j = r at *
      subst hxt
      refine ⟨fun i h => ?_, fun i h => ?_, fun i h he => ?_⟩
      · cases i with
        | zero => simp only [List.getElem_cons_zero]; omega
        | succ i => exact ih.patch i (by simpa using h)
      · cases i with
        | zero => simp only [List.getElem_cons_zero, List.getElem_cons_succ, hwhy.1, Int.toNat_natCast]; exact ⟨trivial, hwhy.2⟩
        | succ i => exact ih.step i (by simpa using h)
      · cases i with
        | zero => simp at he
        | succ i => exact ih.end_ i (by simpa using h) (by simpa using he)

/-- The greatest number of a list, -1 for none. -/
def lastL (l : List Int) : Int := l.foldl max (-1)
theorem foldl_max_le : ∀ (l : List Int) (a B : Int), a ≤ B → (∀ x ∈ l, x ≤ B) → l.foldl max a ≤ B
  | [], _, _, h, _ => h
  | x :: l, a, B, h, hl => foldl_max_le l (max a x) B (Int.max_le.2 ⟨h, hl x (List.mem_cons_self ..)⟩) (fun y hy => hl y (List.mem_cons_of_mem _ hy))
theorem le_foldl_max : ∀ (l : List Int) (a : Int), a ≤ l.foldl max a ∧ ∀ x ∈ l, x ≤ l.foldl max a
  | [], a => ⟨Int.le_refl _, fun x h => by cases h⟩
  | y :: l, a => by
    obtain ⟨h1, h2⟩ := le_foldl_max l (max a y)
    refine ⟨Int.le_trans (Int.le_max_left _ _) h1, fun x hx => ?_⟩
    rcases List.mem_cons.1 hx with rfl | hx
    · exact Int.le_trans (Int.le_max_right _ _) h1
    · exact h2 x hx
theorem lastL_of {l : List Int} {T : Int} (h1 : T ∈ l) (h2 : ∀ x ∈ l, x ≤ T) (h3 : -1 ≤ T) : lastL l = T :=
  Int.le_antisymm (foldl_max_le l (-1) T h3 h2) ((le_foldl_max l (-1)).2 T h1)

/-- The last day is that of the last patch. -/
theorem last_days (hd : 0 ≤ dry ∧ dry ≤ 30) (hl : l.length = W.n) (h24 : W.n ≤ 24) (hin : ∀ p ∈ l, 0 ≤ p ∧ p < (W.n : Int)) (hnd : l.Nodup) (h0 : 0 < l.length) : lastL (daysOf W dry l) = (daysOf W dry l).getD (l.getD (l.length - 1) 0).toNat 0 := by
  obtain ⟨p, hp, hpn, hp'⟩ := getD_nat (W := W) hin (show l.length - 1 < l.length by omega)
  have hrow := daysOf_row (W := W) (dry := dry) hd (l := l) (by omega)
  have e : (l.getD (l.length - 1) 0).toNat = p := by rw [hp]; rfl
  rw [e]
  have hpd : p < (daysOf W dry l).length := by rw [hrow.1]; exact hpn
  have hg : (daysOf W dry l).getD p 0 = (daysOf W dry l)[p] := by rw [List.getD_eq_getElem?_getD, List.getElem?_eq_getElem hpd]; rfl
  refine lastL_of (by rw [hg]; exact List.getElem_mem hpd) (fun x hx => ?_) (by have := (hrow.getD (by omega) p).1; omega)
  obtain ⟨q, hq, rfl⟩ := List.getElem_of_mem hx
  have hqn : q < W.n := by rw [← hrow.1]; exact hq
  have hm := mem_full hl hin hnd hqn
  obtain ⟨j, hj, hjq⟩ := List.getElem_of_mem hm
  have ej : l.getD j 0 = (q : Int) := by rw [List.getD_eq_getElem?_getD, List.getElem?_eq_getElem hj]; exact hjq
  have hgq : (daysOf W dry l).getD q 0 = (daysOf W dry l)[q] := by rw [List.getD_eq_getElem?_getD, List.getElem?_eq_getElem hq]; rfl
  rw [← hgq]
  by_cases hjl : j = l.length - 1
  · subst hjl
    rw [hp] at ej
    have : p = q := by omega
    rw [this]; exact Int.le_refl _
  · have := days_lt (W := W) (dry := dry) hin hnd (i := j) (l.length - 1) (by omega) (by omega)
    rw [ej, e, Int.toNat_natCast] at this
    omega
end

end Go.Proofs.Yteljjkghjbofnaa

/-! Plain law: how many arcs lead back to a patch. -/
set_option maxRecDepth 100000
namespace Go.Proofs.Yteljjkghjbofnaa
open Go Go.Proofs Go.RowKit

/-! ### Walks back to a -/

/-- m arcs lead from p to a, by patches above a. -/
inductive WalkTo (W : Web) (a : Nat) : Nat → Nat → Prop
  | one {p : Nat} (h : hasS (W.to p) a = true) : WalkTo W a 1 p
  | step {p q m : Nat} (h : hasS (W.to p) q = true) (h1 : a < q) (h2 : q < W.n) (h3 : WalkTo W a m q) : WalkTo W a (m + 1) p
theorem WalkTo.pos {W : Web} {a m p : Nat} (h : WalkTo W a m p) : 0 < m := by cases h <;> omega

section
variable {W : Web} {a : Nat}

/-- What p gets in a layer. -/
def gets (W : Web) (now : S) (left : List Int) (p : Nat) : Prop := ¬ (W.to p &&& now = 0#32) ∧ left.getD p 0 = 0
instance (W : Web) (now : S) (left : List Int) (p : Nat) : Decidable (gets W now left p) := by unfold gets; infer_instance

theorem getD_set_same' {l : List Int} {p : Nat} (h : p < l.length) (x d : Int) : (l.set p x).getD p d = x := by
  rw [List.getD_eq_getElem?_getD, List.getElem?_set_self h]; rfl
theorem getD_set_other' {l : List Int} {p q : Nat} (h : p ≠ q) (x d : Int) : (l.set p x).getD q d = l.getD q d := by
  rw [List.getD_eq_getElem?_getD, List.getD_eq_getElem?_getD, List.getElem?_set_ne h]

theorem layerPart_val {now : S} {m : Int} {left : List Int} (hl : left.length = 24) : ∀ (j : Nat), a + j ≤ 24 →
    (layerPart W now m a left j).1.length = 24 ∧
    (∀ p, (layerPart W now m a left j).1.getD p 0 = if (a ≤ p ∧ p < a + j) ∧ gets W now left p then m else left.getD p 0) ∧
    (∀ p, hasS (layerPart W now m a left j).2 p = decide ((a ≤ p ∧ p < a + j) ∧ gets W now left p))
  | 0, _ => by
    refine ⟨by simpa [layerPart] using hl, fun p => ?_, fun p => ?_⟩
    · rw [if_neg (by omega)]; simp [layerPart]
    · rw [decide_eq_false (fun h => by omega)]
      simp [layerPart]
  | j + 1, h => by
    obtain ⟨h1, h2, h3⟩ := layerPart_val (now := now) (m := m) hl j (by omega)
    have e : layerPart W now m a left (j + 1) = layerStep W now m (layerPart W now m a left j) (a + j) := by
      unfold layerPart; rw [List.range'_concat, List.foldl_append]; simp
    rw [e]
    have hold : (layerPart W now m a left j).1.getD (a + j) 0 = left.getD (a + j) 0 := by rw [h2, if_neg (by omega)]
    have e2 : layerStep W now m (layerPart W now m a left j) (a + j) = if gets W now left (a + j) then ((layerPart W now m a left j).1.set (a + j) m, (layerPart W now m a left j).2 ||| oneS (a + j)) else layerPart W now m a left j := by
      unfold layerStep gets
      rw [hold]
    rw [e2]
    by_cases hg : gets W now left (a + j)
    · rw [if_pos hg]
      refine ⟨by simpa using h1, fun p => ?_, fun p => ?_⟩
      · by_cases e : p = a + j
        · subst e
          rw [getD_set_same' (by omega), if_pos ⟨by omega, hg⟩]
        · rw [getD_set_other' (Ne.symm e), h2]
          have : (a ≤ p ∧ p < a + j) ↔ (a ≤ p ∧ p < a + (j + 1)) := by omega
          simp only [this]
      · rw [hasS_or, h3, hasS_one _ _ (by omega)]
        by_cases e : p = a + j
        · subst e; simp [hg]
        · have : (a ≤ p ∧ p < a + j) ↔ (a ≤ p ∧ p < a + (j + 1)) := by omega
          simp [this, e]
    · rw [if_neg hg]
      refine ⟨h1, fun p => ?_, fun p => ?_⟩
      · rw [h2]
        by_cases e : p = a + j
        · subst e; simp [hg]
        · have : (a ≤ p ∧ p < a + j) ↔ (a ≤ p ∧ p < a + (j + 1)) := by omega
          simp only [this]
      · rw [h3]
        by_cases e : p = a + j
        · subst e; simp [hg]
        · have : (a ≤ p ∧ p < a + j) ↔ (a ≤ p ∧ p < a + (j + 1)) := by omega
          simp [this]

theorem layer_val (hn : W.n ≤ 24) (ha : a ≤ W.n) {now : S} {m : Int} {left : List Int} (hl : left.length = 24) :
    (layer W a now m left).1.length = 24 ∧
    (∀ p, (layer W a now m left).1.getD p 0 = if (a ≤ p ∧ p < W.n) ∧ gets W now left p then m else left.getD p 0) ∧
    (∀ p, hasS (layer W a now m left).2 p = decide ((a ≤ p ∧ p < W.n) ∧ gets W now left p)) := by
  have h := layerPart_val (W := W) (a := a) (now := now) (m := m) hl (W.n - a) (by omega)
  rw [show a + (W.n - a) = W.n by omega] at h
  exact h

theorem inter_some {s t : S} (h : ¬ (s &&& t = 0#32)) : ∃ q, hasS s q = true ∧ hasS t q = true := by
  refine Classical.byContradiction fun hn => h (hasS_ext fun x _ => ?_)
  rw [hasS_and, hasS_zero]
  cases h1 : hasS s x
  · rfl
  · cases h2 : hasS t x
    · rfl
    · exact absurd ⟨x, h1, h2⟩ hn
theorem inter_of {s t : S} {q : Nat} (h1 : hasS s q = true) (h2 : hasS t q = true) : ¬ (s &&& t = 0#32) := fun h => by
  have : hasS (s &&& t) q = true := by rw [hasS_and, h1, h2]; rfl
  rw [h, hasS_zero] at this
  cases this

/-- What is known after m layers. -/
structure Back (W : Web) (a : Nat) (left : List Int) : Prop where
  len : left.length = 24
  back : ∀ p, left.getD p 0 ≠ 0 → a ≤ p ∧ p < W.n ∧ ∃ j : Nat, left.getD p 0 = ((j + 1 : Nat) : Int) ∧ ((j = 0 ∧ hasS (W.to p) a = true) ∨ (0 < j ∧ ∃ q, hasS (W.to p) q = true ∧ a < q ∧ q < W.n ∧ left.getD q 0 = (j : Int)))
structure Lay (W : Web) (a m : Nat) (left : List Int) (now : S) : Prop extends Back W a left where
  le : ∀ p, left.getD p 0 ≤ (m : Int)
  now0 : m = 0 → now = oneS a
  now1 : 0 < m → ∀ p, hasS now p = true → left.getD p 0 = (m : Int)
  now2 : 0 < m → ∀ p, left.getD p 0 = (m : Int) → hasS now p = true
  comp : ∀ j, j ≤ m → ∀ p, a ≤ p → p < W.n → WalkTo W a j p → left.getD p 0 ≠ 0 ∧ left.getD p 0 ≤ (j : Int)

theorem Back.walk {left : List Int} (h : Back W a left) : ∀ (j p : Nat), left.getD p 0 = ((j + 1 : Nat) : Int) → WalkTo W a (j + 1) p
  | j, p, hp => by
    obtain ⟨_, _, i, hi, h1⟩ := h.back p (by omega)
    have e : i = j := by omega
    subst e
    rcases h1 with ⟨rfl, h1⟩ | ⟨h0, q, h1, h2, h3, h4⟩
    · exact .one h1
    · obtain ⟨i', rfl⟩ : ∃ i', i = i' + 1 := ⟨i - 1, by omega⟩
      exact .step h1 h2 h3 (h.walk i' q h4)

/-- One layer more, where a has not been found. -/
theorem Lay.next (hn : W.n ≤ 24) (ha : a < W.n) {m : Nat} {left : List Int} {now : S} (h : Lay W a m left now) (h0 : left.getD a 0 = 0) :
    Lay W a (m + 1) (layer W a now ((m + 1 : Nat) : Int) left).1 (layer W a now ((m + 1 : Nat) : Int) left).2 := by
  obtain ⟨h1, h2, h3⟩ := layer_val hn (Nat.le_of_lt ha) (W := W) (now := now) (m := ((m + 1 : Nat) : Int)) h.len
  generalize layer W a now ((m + 1 : Nat) : Int) left = r at *
  have hold : ∀ p, left.getD p 0 ≠ 0 → r.1.getD p 0 = left.getD p 0 := fun p hp => by rw [h2, if_neg (fun x => hp x.2.2)]
  refine { len := h1, back := fun p hp => ?_, le := fun p => ?_, now0 := fun h => by omega, now1 := fun _ p hp => ?_, now2 := fun _ p hp => ?_, comp := fun j hj p hap hpn hw => ?_ }
  · by_cases hc : (a ≤ p ∧ p < W.n) ∧ gets W now left p
    · refine ⟨hc.1.1, hc.1.2, m, by rw [h2, if_pos hc], ?_⟩
      obtain ⟨q, hq1, hq2⟩ := inter_some hc.2.1
      by_cases hm : m = 0
      · rw [h.now0 hm, hasS_one a q (by omega)] at hq2
        have : q = a := by simpa using hq2
        subst this
        exact .inl ⟨hm, hq1⟩
      · have hlq := h.now1 (by omega) q hq2
        obtain ⟨hq3, hq4, _⟩ := h.back q (by omega)
        have hqa : q ≠ a := by rintro rfl; omega
        exact .inr ⟨by omega, q, hq1, by omega, hq4, by rw [hold q (by omega)]; exact hlq⟩
    · rw [h2, if_neg hc] at hp
      obtain ⟨hq3, hq4, j, hj, h5⟩ := h.back p hp
      refine ⟨hq3, hq4, j, by rw [hold p hp]; exact hj, ?_⟩
      rcases h5 with h5 | ⟨h5, q, h6, h7, h8, h9⟩
      · exact .inl h5
      · exact .inr ⟨h5, q, h6, h7, h8, by rw [hold q (by omega)]; exact h9⟩
  · rw [h2]
    split
    · exact Int.le_refl _
    · have := h.le p; omega
  · rw [h3] at hp
    rw [h2, if_pos (of_decide_eq_true hp)]
  · rw [h3]
    rw [h2] at hp
    refine decide_eq_true (Classical.byContradiction fun hc => ?_)
    rw [if_neg hc] at hp
    have := h.le p
    omega
  · by_cases hp0 : left.getD p 0 = 0
    · have hjm : j = m + 1 := Nat.le_antisymm hj (Nat.lt_of_not_le fun hle => (h.comp j hle p hap hpn hw).1 hp0)
      subst hjm
      have hg : gets W now left p := by
        refine ⟨?_, hp0⟩
        cases hw with
        | one hw =>
          rw [h.now0 rfl]
          exact inter_of hw (by rw [hasS_one a a (by omega)]; simp)
        | step hw hq1 hq2 hw2 =>
          rename_i q
          obtain ⟨h5, h6⟩ := h.comp m (Nat.le_refl _) q (Nat.le_of_lt hq1) hq2 hw2
          have hlt : left.getD q 0 = (m : Int) := by
            refine Int.le_antisymm h6 (Int.not_lt.1 fun hlt => ?_)
            obtain ⟨_, _, i, hi, _⟩ := h.back q h5
            have hw3 := WalkTo.step hw hq1 hq2 (h.walk i q hi)
            exact (h.comp (i + 1 + 1) (by omega) p hap hpn hw3).1 hp0
          exact inter_of hw (h.now2 hw2.pos q hlt)
      rw [h2, if_pos ⟨⟨hap, hpn⟩, hg⟩]
      exact ⟨by omega, Int.le_refl _⟩
    · rw [hold p hp0]
      refine ⟨hp0, ?_⟩
      by_cases hjm : j ≤ m
      · exact (h.comp j hjm p hap hpn hw).2
      · have := h.le p; omega

theorem layer_none {m : Int} {left : List Int} : (layer W a 0#32 m left).1 = left ∧ (layer W a 0#32 m left).2 = 0#32 := by
  have : ∀ j, layerPart W 0#32 m a left j = (left, 0#32) := by
    intro j
    induction j with
    | zero => simp [layerPart]
    | succ j ih =>
      have e : layerPart W 0#32 m a left (j + 1) = layerStep W 0#32 m (layerPart W 0#32 m a left j) (a + j) := by
        unfold layerPart; rw [List.range'_concat, List.foldl_append]; simp
      rw [e, ih]
      unfold layerStep
      rw [if_neg (fun h => h.1 (by simp))]
  unfold layer
  rw [this]
  exact ⟨rfl, rfl⟩

theorem bfs_spec (hn : W.n ≤ 24) (ha : a < W.n) : ∀ (f m : Nat) (left : List Int) (now : S), Lay W a m left now → left.getD a 0 = 0 →
    Back W a (bfs W a f now ((m + 1 : Nat) : Int) left) ∧ ∀ j, j ≤ m + f → WalkTo W a j a → (bfs W a f now ((m + 1 : Nat) : Int) left).getD a 0 ≠ 0 ∧ (bfs W a f now ((m + 1 : Nat) : Int) left).getD a 0 ≤ (j : Int)
  | 0, m, left, now, h, _ => ⟨h.toBack, fun j hj hw => h.comp j hj a (Nat.le_refl _) ha hw⟩
  | f + 1, m, left, now, h, h0 => by
    have hx := h.next hn ha h0
    unfold bfs
    by_cases hz : now = 0#32
    · rw [if_pos hz]
      subst hz
      obtain ⟨e1, e2⟩ := layer_none (W := W) (a := a) (m := ((m + 1 : Nat) : Int)) (left := left)
      rw [e1, e2] at hx
      have ih := bfs_spec hn ha f (m + 1) left 0#32 hx h0
      have e : bfs W a f 0#32 ((m + 1 + 1 : Nat) : Int) left = left := by
        cases f with
        | zero => rfl
        | succ f => unfold bfs; rw [if_pos rfl]
      rw [e] at ih
      exact ⟨ih.1, fun j hj hw => ih.2 j (by omega) hw⟩
    · rw [if_neg hz]
      by_cases hf : hasS (layer W a now ((m + 1 : Nat) : Int) left).2 a = true
      · rw [if_pos hf]
        refine ⟨hx.toBack, fun j hj hw => ?_⟩
        have e := hx.now1 (by omega) a hf
        rw [e]
        refine ⟨by omega, Int.not_lt.1 fun hlt => ?_⟩
        have := (hx.comp j (by omega) a (Nat.le_refl _) ha hw).2
        omega
      · rw [if_neg hf]
        have h0' : (layer W a now ((m + 1 : Nat) : Int) left).1.getD a 0 = 0 := by
          refine Classical.byContradiction fun hne => ?_
          obtain ⟨_, h2, h3⟩ := layer_val hn (Nat.le_of_lt ha) (W := W) (now := now) (m := ((m + 1 : Nat) : Int)) h.len
          rw [h2] at hne
          split at hne
          · rename_i hc
            rw [h3] at hf
            exact hf (decide_eq_true hc)
          · exact hne h0
        have ih := bfs_spec hn ha f (m + 1) _ _ hx h0'
        have e : ((m + 1 : Nat) : Int) + 1 = ((m + 1 + 1 : Nat) : Int) := by omega
        rw [e]
        exact ⟨ih.1, fun j hj hw => ih.2 j (by omega) hw⟩

theorem leftOf_spec (hn : W.n ≤ 24) (ha : a < W.n) : Back W a (leftOf W a) ∧ ∀ j, j ≤ 25 → WalkTo W a j a → (leftOf W a).getD a 0 ≠ 0 ∧ (leftOf W a).getD a 0 ≤ (j : Int) := by
  have hz : ∀ p, (List.replicate 24 (0 : Int)).getD p 0 = 0 := fun p => by
    rw [List.getD_eq_getElem?_getD, List.getElem?_replicate]; split <;> rfl
  have h0 : Lay W a 0 (List.replicate 24 0) (oneS a) :=
    { len := by simp, back := fun p hp => absurd (hz p) hp, le := fun p => by rw [hz p]; omega, now0 := fun _ => rfl, now1 := fun h => by omega, now2 := fun h => by omega,
      comp := fun j hj p _ _ hw => by have := hw.pos; omega }
  have := bfs_spec hn ha 25 0 _ _ h0 (hz a)
  simpa [leftOf] using this
end
end Go.Proofs.Yteljjkghjbofnaa

/-! Plain law: circles. -/
set_option maxRecDepth 100000
namespace Go.Proofs.Yteljjkghjbofnaa
open Go Go.Proofs Go.RowKit

/-! ### Circles as lists -/

/-- Each patch of c is followed by the next one, the last one by the first one. -/
def Cyc (W : Web) (c : List Nat) : Prop := (∀ x ∈ c, x < W.n) ∧ ∀ i, (h : i < c.length) → hasS (W.to c[i]) (c[(i + 1) % c.length]'(Nat.mod_lt _ (by omega))) = true

section
variable {W : Web} {a : Nat}

theorem Path.list {b : Nat} (h : Path W.to W.n a b) (ha : a < W.n) : ∃ c : List Nat, ∃ t, c = a :: t ∧ (∀ x ∈ c, x < W.n) ∧ (∀ i, (h : i + 1 < c.length) → hasS (W.to c[i]) c[i + 1] = true) ∧ ∃ h : 0 < c.length, hasS (W.to (c[c.length - 1]'(by omega))) b = true := by
  induction h with
  | arc h1 => exact ⟨_, [], rfl, by simpa using ha, fun i h => by simp at h, by simp, by simpa using h1⟩
  | cons h1 hm _ ih =>
    rename_i a m b _
    obtain ⟨c, t, rfl, h2, h3, h4, h5⟩ := ih hm
    refine ⟨a :: m :: t, m :: t, rfl, ?_, ?_, by simp, ?_⟩
    · intro x hx
      rcases List.mem_cons.1 hx with rfl | hx
      · exact ha
      · exact h2 x hx
    · intro i h
      cases i with
      | zero => simpa using h1
      | succ i => exact h3 i (by simpa using h)
    · simpa using h5
theorem cyc_of_path (h : Path W.to W.n a a) (ha : a < W.n) : ∃ c, c ≠ [] ∧ Cyc W c := by
  obtain ⟨c, t, hc, h2, h3, h4, h5⟩ := h.list ha
  refine ⟨c, by rw [hc]; simp, h2, fun i hi => ?_⟩
  by_cases hl : i + 1 < c.length
  · have e : (i + 1) % c.length = i + 1 := Nat.mod_eq_of_lt hl
    simp only [e]
    exact h3 i hl
  · have e1 : i = c.length - 1 := by omega
    have e : (i + 1) % c.length = 0 := by rw [show i + 1 = c.length by omega, Nat.mod_self]
    simp only [e]
    subst e1
    have : c[0] = a := by subst hc; rfl
    rw [this]
    exact h5

/-- A part of a circle between two equal patches. -/
theorem Cyc.part {c : List Nat} (h : Cyc W c) {i j : Nat} (hij : i < j) (hj : j < c.length) (he : c[i] = c[j]) : Cyc W ((c.drop i).take (j - i)) := by
  have hlen : ((c.drop i).take (j - i)).length = j - i := by simp; omega
  refine ⟨fun x hx => h.1 x (List.mem_of_mem_drop (List.mem_of_mem_take hx)), fun k hk => ?_⟩
  rw [hlen] at hk
  have g : ∀ k (hk : k < j - i), ((c.drop i).take (j - i))[k]'(by omega) = c[i + k] := fun k hk => by simp
  have h1 := h.2 (i + k) (by omega)
  have e1 : (i + k + 1) % c.length = i + k + 1 := Nat.mod_eq_of_lt (by omega)
  simp only [e1] at h1
  rw [g k hk]
  by_cases hl : k + 1 < j - i
  · have e : (k + 1) % ((c.drop i).take (j - i)).length = k + 1 := by rw [hlen]; exact Nat.mod_eq_of_lt hl
    simp only [e]
    rw [g (k + 1) hl]
    exact h1
  · have e : (k + 1) % ((c.drop i).take (j - i)).length = 0 := by rw [hlen, show k + 1 = j - i by omega, Nat.mod_self]
    simp only [e]
    rw [g 0 (by omega)]
    simp only [Nat.add_zero]
    rw [he]
    have : i + k + 1 = j := by omega
    simp only [this] at h1
    exact h1
/-- There is a circle of different patches. -/
theorem cyc_nodup : ∀ (k : Nat) (c : List Nat), c.length ≤ k → c ≠ [] → Cyc W c → ∃ c', c' ≠ [] ∧ c'.Nodup ∧ Cyc W c'
  | 0, c, hk, h0, _ => absurd (List.eq_nil_of_length_eq_zero (by omega)) h0
  | k + 1, c, hk, h0, h => by
    by_cases hd : c.Nodup
    · exact ⟨c, h0, hd, h⟩
    · obtain ⟨i, j, hij, hj, he⟩ : ∃ (i j : Nat) (hij : i < j) (hj : j < c.length), c[i] = c[j] := by
        refine Classical.byContradiction fun hn => hd ?_
        unfold List.Nodup
        rw [List.pairwise_iff_getElem]
        intro i j hi hj hij e
        exact hn ⟨i, j, hij, hj, e⟩
      have hlen : ((c.drop i).take (j - i)).length = j - i := by simp; omega
      exact cyc_nodup k _ (by omega) (fun e => by rw [e] at hlen; simp at hlen; omega) (h.part hij hj he)

theorem min_at : ∀ (c : List Nat), c ≠ [] → ∃ (i : Nat) (h : i < c.length), ∀ x ∈ c, c[i] ≤ x
  | [x], _ => ⟨0, by simp, by simp⟩
  | x :: y :: t, _ => by
    obtain ⟨i, h, hm⟩ := min_at (y :: t) (by simp)
    by_cases hx : x ≤ (y :: t)[i]
    · refine ⟨0, by simp, fun z hz => ?_⟩
      rcases List.mem_cons.1 hz with rfl | hz
      · simp
      · exact Nat.le_trans hx (hm z hz)
    · refine ⟨i + 1, by simpa using h, fun z hz => ?_⟩
      rcases List.mem_cons.1 hz with rfl | hz
      · simp only [List.getElem_cons_succ]; omega
      · simpa using hm z hz

/-- A circle of different patches is a walk from its least patch back. -/
theorem Cyc.walk {c : List Nat} (h : Cyc W c) (hd : c.Nodup) {i : Nat} (hi : i < c.length) (hm : ∀ x ∈ c, c[i] ≤ x) : WalkTo W c[i] c.length c[i] := by
  have hL : 0 < c.length := by omega
  have key : ∀ s, 0 < s → s ≤ c.length → WalkTo W c[i] s (c[(i + (c.length - s)) % c.length]'(Nat.mod_lt _ hL)) := by
    intro s
    induction s with
    | zero => intro h; omega
    | succ s ih =>
      intro _ hs
      have h1 := h.2 ((i + (c.length - (s + 1))) % c.length) (Nat.mod_lt _ hL)
      have e : ((i + (c.length - (s + 1))) % c.length + 1) % c.length = (i + (c.length - s)) % c.length := by
        rw [Nat.mod_add_mod]
        congr 1
        omega
      simp only [e] at h1
      by_cases h0 : s = 0
      · subst h0
        have e2 : (i + (c.length - 0)) % c.length = i := by rw [Nat.sub_zero, Nat.add_mod_right]; exact Nat.mod_eq_of_lt hi
        simp only [e2] at h1
        exact .one h1
      · refine .step h1 ?_ (h.1 _ (List.getElem_mem _)) (ih (by omega) (by omega))
        have hle := hm _ (List.getElem_mem (l := c) (n := (i + (c.length - s)) % c.length) (Nat.mod_lt _ hL))
        refine Nat.lt_of_le_of_ne hle fun heq => ?_
        have := (List.getElem_inj hd).1 heq
        have h3 : (i + (c.length - s)) % c.length = i := this.symm
        by_cases h4 : i + (c.length - s) < c.length
        · rw [Nat.mod_eq_of_lt h4] at h3; omega
        · rw [Nat.mod_eq_sub_mod (by omega), Nat.mod_eq_of_lt (by omega)] at h3; omega
  have := key c.length hL (Nat.le_refl _)
  have e2 : (i + (c.length - c.length)) % c.length = i := by rw [Nat.sub_self, Nat.add_zero]; exact Nat.mod_eq_of_lt hi
  simp only [e2] at this
  exact this

theorem nodup_lt_length {c : List Nat} {n : Nat} (hd : c.Nodup) (h : ∀ x ∈ c, x < n) : c.length ≤ n := by
  have := List.Nodup.length_le_of_subset hd (fun x hx => List.mem_range.2 (h x hx))
  simpa using this

/-! ### The circle that 'round' finds -/

/-- What a circle is. -/
def circOk (W : Web) (l : List Int) : Prop := 2 ≤ l.length ∧ (∀ p ∈ l, 0 ≤ p ∧ p < (W.n : Int)) ∧ l.Nodup ∧ ∀ i, i < l.length → hasS (W.to (l.getD i 0).toNat) (l.getD ((i + 1) % l.length) 0).toNat = true

theorem findNext_is {left : List Int} {last : Nat} {m : Int} (h : ∃ q, a < q ∧ q < W.n ∧ hasS (W.to last) q = true ∧ left.getD q 0 = m) : ∃ q, findNext W a left last m = some q ∧ a < q ∧ q < W.n ∧ hasS (W.to last) q = true ∧ left.getD q 0 = m := by
  obtain ⟨q, h1, h2, h3, h4⟩ := h
  unfold findNext
  cases hf : (List.range' (a + 1) (W.n - (a + 1))).find? fun q => hasS (W.to last) q && left.getD q 0 == m with
  | none =>
    rw [List.find?_eq_none] at hf
    have := hf q (by rw [List.mem_range'_1]; omega)
    simp [h3] at this
    rw [List.getD_eq_getElem?_getD] at h4
    exact absurd h4 this
  | some r =>
    have h5 := List.find?_some hf
    have h6 := List.mem_of_find?_eq_some hf
    rw [List.mem_range'_1] at h6
    simp only [Bool.and_eq_true, beq_iff_eq] at h5
    exact ⟨r, rfl, by omega, by omega, h5.1, h5.2⟩

/-- The way so far: it falls from k + 1 by one at each step. -/
structure Way (W : Web) (a : Nat) (left : List Int) (L m : Nat) (out : List Int) : Prop where
  len : out.length + m = L
  get : ∀ i, (h : i < out.length) → ∃ p : Nat, out[i] = (p : Int) ∧ p < W.n ∧ a ≤ p ∧ left.getD p 0 = ((L - i : Nat) : Int)
  arc : ∀ i, (h : i + 1 < out.length) → hasS (W.to out[i].toNat) out[i + 1].toNat = true
  first : ∃ t, out = (a : Int) :: t

theorem pathL_way {left : List Int} (hb : Back W a left) {L : Nat} : ∀ (m : Nat) (out : List Int), m < L → Way W a left L m out → Way W a left L 0 (pathL W a left out m)
  | 0, out, _, h => h
  | m + 1, out, hm, h => by
    unfold pathL
    refine pathL_way hb m _ (by omega) ?_
    obtain ⟨t, ht⟩ := h.first
    have hlen := h.len
    have h0 : 0 < out.length := by rw [ht]; simp
    obtain ⟨p, hp, hpn, hap, hpl⟩ := h.get (out.length - 1) (by omega)
    have hlast : out.getLastD 0 = (p : Int) := by
      rw [← hp]
      rw [List.getLastD_eq_getLast?, List.getLast?_eq_getElem?, List.getElem?_eq_getElem (by omega)]
      rfl
    have e1 : L - (out.length - 1) = (m + 1) + 1 := by omega
    rw [e1] at hpl
    obtain ⟨_, _, j, hj, hq⟩ := hb.back p (by omega)
    have ej : j = m + 1 := by omega
    subst ej
    rcases hq with ⟨hq, _⟩ | ⟨_, q, q1, q2, q3, q4⟩
    · omega
    · obtain ⟨r, r1, r2, r3, r4, r5⟩ := findNext_is (W := W) (a := a) (left := left) (last := p) (m := ((m + 1 : Nat) : Int)) ⟨q, q2, q3, q1, q4⟩
      have e2 : pathStep W a left out ((m + 1 : Nat) : Int) = out ++ [(r : Int)] := by
        unfold pathStep
        rw [hlast, Int.toNat_natCast, r1]
      rw [e2]
      refine ⟨by simp; omega, fun i hi => ?_, fun i hi => ?_, ?_⟩
      · by_cases hil : i < out.length
        · rw [List.getElem_append_left hil]; exact h.get i hil
        · have : i = out.length := by simp at hi; omega
          subst this
          rw [List.getElem_append_right (by omega)]
          refine ⟨r, by simp, r3, by omega, ?_⟩
          rw [r5]
          congr 1
          omega
      · by_cases hil : i + 1 < out.length
        · rw [List.getElem_append_left (by omega), List.getElem_append_left hil]; exact h.arc i hil
        · have : i = out.length - 1 := by simp at hi; omega
          subst this
          rw [List.getElem_append_left (by omega), List.getElem_append_right (by omega), hp]
          simpa using r4
      · exact ⟨t ++ [(r : Int)], by rw [ht]; rfl⟩

theorem roundOf_circ (hn : W.n ≤ 24) (hirr : ∀ p, p < W.n → hasS (W.to p) p = false) (ha : a < W.n) (h : (leftOf W a).getD a 0 ≠ 0) : circOk W (roundOf W a) ∧ ((roundOf W a).length : Int) = (leftOf W a).getD a 0 := by
  obtain ⟨hb, _⟩ := leftOf_spec hn ha
  unfold roundOf
  rw [if_neg h]
  generalize leftOf W a = left at *
  obtain ⟨_, _, j, hj, hq⟩ := hb.back a h
  have hw0 : Way W a left (j + 1) j [(a : Int)] := ⟨by simp; omega, fun i hi => by
    have : i = 0 := by simpa using hi
    subst this
    exact ⟨a, rfl, ha, Nat.le_refl _, by rw [hj]; rfl⟩, fun i hi => by simp at hi, ⟨[], rfl⟩⟩
  have e : (left.getD a 0 - 1).toNat = j := by omega
  rw [e]
  have hw := pathL_way hb j [(a : Int)] (by omega) hw0
  generalize pathL W a left [(a : Int)] j = out at *
  have hlen : out.length = j + 1 := by have := hw.len; omega
  refine ⟨⟨?_, ?_, ?_, ?_⟩, by rw [hj]; omega⟩
  · rcases hq with ⟨rfl, h1⟩ | ⟨h0, _⟩
    · rw [hirr a ha] at h1; cases h1
    · omega
  · intro p hp
    obtain ⟨i, hi, rfl⟩ := List.getElem_of_mem hp
    obtain ⟨q, hq1, hq2, _⟩ := hw.get i hi
    rw [hq1]; omega
  · unfold List.Nodup
    rw [List.pairwise_iff_getElem]
    intro i k hi hk hik he
    obtain ⟨q, hq1, _, _, hq2⟩ := hw.get i hi
    obtain ⟨r, hr1, _, _, hr2⟩ := hw.get k hk
    have : q = r := by omega
    subst this
    omega
  · intro i hi
    have hg : ∀ k, (hk : k < out.length) → out.getD k 0 = out[k] := fun k hk => by rw [List.getD_eq_getElem?_getD, List.getElem?_eq_getElem hk]; rfl
    rw [hg i hi]
    by_cases hl : i + 1 < out.length
    · rw [Nat.mod_eq_of_lt hl, hg _ hl]
      exact hw.arc i hl
    · have e1 : i = j := by omega
      rw [show i + 1 = out.length by omega, Nat.mod_self, hg 0 (by omega)]
      obtain ⟨q, hq1, hq2, hq3, hq4⟩ := hw.get i hi
      obtain ⟨t, ht⟩ := hw.first
      have e0 : out[0] = (a : Int) := by subst ht; rfl
      rw [e0, hq1]
      simp only [Int.toNat_natCast]
      obtain ⟨_, _, j', hj', hq'⟩ := hb.back q (by omega)
      have : j' = 0 := by omega
      subst this
      rcases hq' with ⟨_, h1⟩ | ⟨h0, _⟩
      · exact h1
      · omega

theorem circOk_cyc {l : List Int} (h : circOk W l) : Cyc W (l.map Int.toNat) ∧ (l.map Int.toNat).Nodup := by
  obtain ⟨h1, h2, h3, h4⟩ := h
  have hg : ∀ k, (hk : k < l.length) → l.getD k 0 = l[k] := fun k hk => by rw [List.getD_eq_getElem?_getD, List.getElem?_eq_getElem hk]; rfl
  refine ⟨⟨fun x hx => ?_, fun i hi => ?_⟩, ?_⟩
  · obtain ⟨p, hp, rfl⟩ := List.mem_map.1 hx
    have := h2 p hp
    omega
  · simp only [List.length_map] at hi
    have := h4 i hi
    have hm : (i + 1) % l.length < l.length := Nat.mod_lt _ (by omega)
    rw [hg i hi, hg _ hm] at this
    simpa using this
  · unfold List.Nodup
    rw [List.pairwise_map]
    rw [List.nodup_iff_pairwise_ne] at h3
    refine List.Pairwise.imp_of_mem (fun {x y} hx hy hne he => hne ?_) h3
    have := h2 x hx
    have := h2 y hy
    omega

/-- A circle is not shorter than one that 'round' finds. -/
theorem circOk_round (hn : W.n ≤ 24) {l : List Int} (h : circOk W l) : ∃ a, a < W.n ∧ (leftOf W a).getD a 0 ≠ 0 ∧ (leftOf W a).getD a 0 ≤ (l.length : Int) := by
  obtain ⟨hc, hd⟩ := circOk_cyc h
  have h0 : l.map Int.toNat ≠ [] := fun e => by have := h.1; have := congrArg List.length e; simp at this; subst this; simp at *
  obtain ⟨i, hi, hm⟩ := min_at _ h0
  have hw := hc.walk hd hi hm
  have hl := nodup_lt_length hd hc.1
  have ha := hc.1 _ (List.getElem_mem hi)
  have := (leftOf_spec hn ha).2 _ (by omega) hw
  rw [List.length_map] at this
  exact ⟨_, ha, this⟩
theorem circB_round (hn : W.n ≤ 24) (hw : Woven W) (hc : circB W = true) : ∃ a, a < W.n ∧ (leftOf W a).getD a 0 ≠ 0 := by
  unfold circB at hc
  rw [List.any_eq_true] at hc
  obtain ⟨a, ha, hr⟩ := hc
  have ha := List.mem_range.1 ha
  obtain ⟨c, h0, h1⟩ := cyc_of_path (hw.path a a ha hr) ha
  obtain ⟨c', h0', hd, h1'⟩ := cyc_nodup _ c (Nat.le_refl _) h0 h1
  obtain ⟨i, hi, hm⟩ := min_at _ h0'
  have hwk := h1'.walk hd hi hm
  have hl := nodup_lt_length hd h1'.1
  have ha' := h1'.1 _ (List.getElem_mem hi)
  exact ⟨_, ha', ((leftOf_spec hn ha').2 _ (by omega) hwk).1⟩
end
end Go.Proofs.Yteljjkghjbofnaa

/-! Plain law: the circle that is found; orders and circles. -/
set_option maxRecDepth 100000
namespace Go.Proofs.Yteljjkghjbofnaa
open Go Go.Proofs Go.RowKit

section
variable {W : Web}

theorem circlePart_spec (W : Web) : ∀ (k : Nat), (circlePart W k ≠ [] → ∃ a, a < k ∧ circlePart W k = roundOf W a ∧ roundOf W a ≠ []) ∧ ∀ a, a < k → roundOf W a ≠ [] → circlePart W k ≠ [] ∧ (circlePart W k).length ≤ (roundOf W a).length
  | 0 => ⟨fun h => absurd rfl h, fun a h => by omega⟩
  | k + 1 => by
    obtain ⟨h1, h2⟩ := circlePart_spec W k
    have e : circlePart W (k + 1) = circleStep W (circlePart W k) k := by unfold circlePart; rw [List.range_succ, List.foldl_append]; rfl
    rw [e]
    unfold circleStep
    by_cases hc : roundOf W k ≠ [] ∧ (circlePart W k = [] ∨ (roundOf W k).length < (circlePart W k).length)
    · rw [if_pos hc]
      refine ⟨fun _ => ⟨k, by omega, rfl, hc.1⟩, fun a ha hr => ⟨hc.1, ?_⟩⟩
      by_cases hak : a = k
      · subst hak; exact Nat.le_refl _
      · have := h2 a (by omega) hr
        rcases hc.2 with h | h
        · exact absurd h this.1
        · omega
    · rw [if_neg hc]
      refine ⟨fun h => ?_, fun a ha hr => ?_⟩
      · obtain ⟨a, ha, hx⟩ := h1 h
        exact ⟨a, by omega, hx⟩
      · by_cases hak : a = k
        · subst hak
          have hne : circlePart W a ≠ [] := fun h => hc ⟨hr, .inl h⟩
          exact ⟨hne, Nat.le_of_not_lt fun h => hc ⟨hr, .inr h⟩⟩
        · exact h2 a (by omega) hr

theorem roundOf_ne {a : Nat} (h : roundOf W a ≠ []) : (leftOf W a).getD a 0 ≠ 0 := fun e => h (by unfold roundOf; rw [if_pos e])

/-- The circle that is found is a circle. -/
theorem circlePart_circ (hn : W.n ≤ 24) (hirr : ∀ p, p < W.n → hasS (W.to p) p = false) (h : circlePart W W.n ≠ []) : circOk W (circlePart W W.n) := by
  obtain ⟨a, ha, he, hr⟩ := (circlePart_spec W W.n).1 h
  rw [he]
  exact (roundOf_circ hn hirr ha (roundOf_ne hr)).1
theorem circlePart_least (hn : W.n ≤ 24) (hirr : ∀ p, p < W.n → hasS (W.to p) p = false) {l : List Int} (h : circOk W l) : circlePart W W.n ≠ [] ∧ (circlePart W W.n).length ≤ l.length := by
  obtain ⟨a, ha, h1, h2⟩ := circOk_round hn h
  obtain ⟨h3, h4⟩ := roundOf_circ hn hirr ha h1
  have hne : roundOf W a ≠ [] := fun e => by have := h3.1; rw [e] at this; simp at this
  obtain ⟨h5, h6⟩ := (circlePart_spec W W.n).2 a ha hne
  exact ⟨h5, by omega⟩
theorem path_irr (hc : circB W = false) (hw : Woven W) {a : Nat} (ha : a < W.n) : ¬ Path W.to W.n a a := fun h => by
  have := (hw.iff a a ha).2 h
  rw [circB_false hc a ha] at this
  cases this
theorem cyc_path {c : List Nat} (h : Cyc W c) {i : Nat} (hi : i < c.length) : ∀ k, 0 < k → Path W.to W.n c[i] (c[(i + k) % c.length]'(Nat.mod_lt _ (by omega)))
  | 0, h0 => by omega
  | 1, _ => .arc (h.2 i hi)
  | k + 2, _ => by
    have h1 := cyc_path h hi (k + 1) (by omega)
    have h2 := h.2 ((i + (k + 1)) % c.length) (Nat.mod_lt _ (by omega))
    have e : ((i + (k + 1)) % c.length + 1) % c.length = (i + (k + 2)) % c.length := by rw [Nat.mod_add_mod]; rfl
    simp only [e] at h2
    exact h1.trans (h.1 _ (List.getElem_mem _)) (.arc h2)

theorem circlePart_iff (hn : W.n ≤ 24) (hirr : ∀ p, p < W.n → hasS (W.to p) p = false) (hw : Woven W) : circlePart W W.n ≠ [] ↔ circB W = true := by
  refine ⟨fun h => ?_, fun h => ?_⟩
  · have hc := circlePart_circ hn hirr h
    obtain ⟨h1, h2⟩ := circOk_cyc hc
    have hl : 0 < ((circlePart W W.n).map Int.toNat).length := by rw [List.length_map]; have := hc.1; omega
    have hp := cyc_path h1 (i := 0) hl ((circlePart W W.n).map Int.toNat).length hl
    have e : (0 + ((circlePart W W.n).map Int.toNat).length) % ((circlePart W W.n).map Int.toNat).length = 0 := by rw [Nat.zero_add, Nat.mod_self]
    simp only [e] at hp
    cases hb : circB W
    · exact absurd hp (path_irr hb hw (h1.1 _ (List.getElem_mem _)))
    · rfl
  · obtain ⟨a, ha, h1⟩ := circB_round hn hw h
    obtain ⟨h3, _⟩ := roundOf_circ hn hirr ha h1
    have hne : roundOf W a ≠ [] := fun e => by have := h3.1; rw [e] at this; simp at this
    exact ((circlePart_spec W W.n).2 a ha hne).1

/-- Two patches of a circle one behind the other are contrary. -/
theorem circ_contrary (hw : Woven W) {l : List Int} (h : circOk W l) : hasS (W.reach (l.getD 0 0).toNat) (l.getD 1 0).toNat = true ∧ hasS (W.reach (l.getD 1 0).toNat) (l.getD 0 0).toNat = true ∧ l.getD 0 0 ≠ l.getD 1 0 := by
  have hlen := h.1
  have hg : ∀ k, (hk : k < l.length) → l.getD k 0 = l[k] := fun k hk => by rw [List.getD_eq_getElem?_getD, List.getElem?_eq_getElem hk]; rfl
  obtain ⟨h1, h2⟩ := circOk_cyc h
  have e0 : (l.getD 0 0).toNat = (l.map Int.toNat)[0]'(by rw [List.length_map]; omega) := by rw [hg 0 (by omega)]; simp
  have e1 : (l.getD 1 0).toNat = (l.map Int.toNat)[1]'(by rw [List.length_map]; omega) := by rw [hg 1 (by omega)]; simp
  have hp := cyc_path h1 (i := 0) (by rw [List.length_map]; omega) 1 (by omega)
  have hq := cyc_path h1 (i := 1) (by rw [List.length_map]; omega) (l.length - 1) (by omega)
  have f0 : (0 + 1) % (l.map Int.toNat).length = 1 := by rw [List.length_map]; exact Nat.mod_eq_of_lt (by omega)
  have f1 : (1 + (l.length - 1)) % (l.map Int.toNat).length = 0 := by rw [List.length_map, show 1 + (l.length - 1) = l.length by omega, Nat.mod_self]
  simp only [f0] at hp
  simp only [f1] at hq
  rw [e0, e1]
  refine ⟨(hw.iff _ _ (h1.1 _ (List.getElem_mem _))).2 hp, (hw.iff _ _ (h1.1 _ (List.getElem_mem _))).2 hq, ?_⟩
  rw [hg 0 (by omega), hg 1 (by omega)]
  intro e
  have := (List.getElem_inj h.2.2.1).1 e
  omega

/-! ### Orders -/

theorem orderedB_iff {l : List Int} : orderedB W l = true ↔ l.length = W.n ∧ (∀ p ∈ l, 0 ≤ p ∧ p < (W.n : Int)) ∧ l.Nodup ∧ ∀ i, i < l.length → W.to (l.getD i 0).toNat &&& setS (l.take i) = 0#32 := by
  unfold orderedB eachB
  simp only [Bool.and_eq_true, decide_eq_true_eq, List.all_eq_true, List.mem_range, beq_iff_eq]
  exact ⟨fun h => ⟨h.1.1, h.1.2.1, h.1.2.2, h.2⟩, fun h => ⟨⟨h.1, h.2.1, h.2.2.1⟩, h.2.2.2⟩⟩

theorem ordered_fwd (hn : W.n ≤ 24) {l : List Int} (h : orderedB W l = true) (hirr : ∀ p, p < W.n → hasS (W.to p) p = false) {i j : Nat} (hi : i < l.length) (hj : j < l.length) (ha : hasS (W.to (l.getD i 0).toNat) (l.getD j 0).toNat = true) : i < j := by
  obtain ⟨h1, h2, h3, h4⟩ := orderedB_iff.1 h
  have hg : ∀ k, (hk : k < l.length) → l.getD k 0 = l[k] := fun k hk => by rw [List.getD_eq_getElem?_getD, List.getElem?_eq_getElem hk]; rfl
  refine Nat.lt_of_not_le fun hle => ?_
  have hpi := h2 _ (List.getElem_mem hi)
  have hpj := h2 _ (List.getElem_mem hj)
  rcases Nat.lt_or_eq_of_le hle with hlt | rfl
  · refine inter_of ha ?_ (h4 i hi)
    rw [hasS_setS _ (fun p hp => by have := h2 p (List.mem_of_mem_take hp); omega)]
    rw [hg j hj]
    refine decide_eq_true ?_
    rw [Int.toNat_of_nonneg hpj.1]
    exact List.mem_take_iff_getElem.2 ⟨j, by omega, rfl⟩
  · rw [hg j hi] at ha
    rw [hirr _ (by omega)] at ha
    cases ha

/-- Where there is an order, there is no circle. -/
theorem ordered_circ (hn : W.n ≤ 24) (hw : Woven W) (hirr : ∀ p, p < W.n → hasS (W.to p) p = false) {l : List Int} (h : orderedB W l = true) : circB W = false := by
  obtain ⟨h1, h2, h3, h4⟩ := orderedB_iff.1 h
  have hg : ∀ k, (hk : k < l.length) → l.getD k 0 = l[k] := fun k hk => by rw [List.getD_eq_getElem?_getD, List.getElem?_eq_getElem hk]; rfl
  have hat : ∀ p, p < W.n → ∃ i, i < l.length ∧ l.getD i 0 = (p : Int) := fun p hp => by
    obtain ⟨i, hi, e⟩ := List.getElem_of_mem (mem_full h1 h2 h3 hp)
    exact ⟨i, hi, by rw [hg i hi]; exact e⟩
  have key : ∀ a b, Path W.to W.n a b → ∀ i j, i < l.length → j < l.length → l.getD i 0 = (a : Int) → l.getD j 0 = (b : Int) → i < j := by
    intro a b hp
    induction hp with
    | arc ha => intro i j hi hj ei ej; exact ordered_fwd hn h hirr hi hj (by rw [ei, ej]; exact ha)
    | cons ha hm _ ih =>
      intro i j hi hj ei ej
      obtain ⟨k, hk, ek⟩ := hat _ hm
      exact Nat.lt_trans (ordered_fwd hn h hirr hi hk (by rw [ei, ek]; exact ha)) (ih k j hk hj ek ej)
  unfold circB
  rw [List.any_eq_false]
  intro a ha hr
  have ha := List.mem_range.1 ha
  obtain ⟨i, hi, ei⟩ := hat a ha
  have := key a a (hw.path a a ha hr) i i hi hi ei ei
  omega

/-- The first order. -/
theorem firstL_facts (hn : W.n ≤ 24) (hg : Goes W) : ∀ (k : Nat), k ≤ W.n → (firstL W k).length = k ∧ (∀ p ∈ firstL W k, 0 ≤ p ∧ p < (W.n : Int)) ∧ (firstL W k).Nodup ∧ ∀ i, (h : i < (firstL W k).length) → ∃ p : Nat, (firstL W k)[i] = (p : Int) ∧ p ∈ readyL W (setS ((firstL W k).take i))
  | 0, _ => ⟨rfl, by simp [firstL], by simp [firstL], fun i h => by simp [firstL] at h⟩
  | k + 1, hk => by
    obtain ⟨h1, h2, h3, h4⟩ := firstL_facts hn hg k (by omega)
    have hne := hg _ h2 h3 (by omega)
    obtain ⟨q, t, hq⟩ := List.exists_cons_of_ne_nil hne
    have hm : q ∈ readyL W (setS (firstL W k)) := by rw [hq]; simp
    obtain ⟨hqn, hqr⟩ := mem_readyL.1 hm
    have hnot : (q : Int) ∉ firstL W k := by
      unfold readyB at hqr
      rw [hasS_setS _ (fun p hp => by have := h2 p hp; omega)] at hqr
      simp at hqr
      exact hqr.1
    have e : firstL W (k + 1) = firstL W k ++ [(q : Int)] := by
      show firstL W k ++ [_] = _
      rw [hq]; rfl
    rw [e]
    refine ⟨by simp [h1], fun p hp => ?_, ?_, fun i hi => ?_⟩
    · rcases List.mem_append.1 hp with h | h
      · exact h2 p h
      · simp at h; subst h; omega
    · rw [List.nodup_append]
      exact ⟨h3, by simp, fun a ha b hb e => by simp at hb; subst hb; subst e; exact hnot ha⟩
    · by_cases hil : i < (firstL W k).length
      · rw [List.getElem_append_left hil, List.take_append_of_le_length (by omega)]
        exact h4 i hil
      · have : i = (firstL W k).length := by simp at hi; omega
        subst this
        refine ⟨q, by simp, ?_⟩
        rw [List.take_left]
        exact hm
theorem firstOf_ordered (hn : W.n ≤ 24) (hg : Goes W) : orderedB W (firstOf W) = true := by
  obtain ⟨h1, h2, h3, h4⟩ := firstL_facts hn hg W.n (Nat.le_refl _)
  unfold firstOf
  generalize firstL W W.n = l at *
  refine orderedB_iff.2 ⟨h1, h2, h3, fun i hi => ?_⟩
  have hgd : ∀ k, (hk : k < l.length) → l.getD k 0 = l[k] := fun k hk => by rw [List.getD_eq_getElem?_getD, List.getElem?_eq_getElem hk]; rfl
  refine Classical.byContradiction fun hne => ?_
  obtain ⟨q, hq1, hq2⟩ := inter_some hne
  rw [hasS_setS _ (fun p hp => by have := h2 p (List.mem_of_mem_take hp); omega)] at hq2
  have hq2 := of_decide_eq_true hq2
  obtain ⟨j, hj, he⟩ := List.mem_take_iff_getElem.1 hq2
  obtain ⟨r, hr1, hr2⟩ := h4 j (by omega)
  have : r = q := by omega
  subst this
  obtain ⟨hrn, hrr⟩ := mem_readyL.1 hr2
  unfold readyB at hrr
  simp only [Bool.and_eq_true, List.all_eq_true, List.mem_range] at hrr
  have hpi := h2 _ (List.getElem_mem hi)
  have h5 := hrr.2 (l.getD i 0).toNat (by rw [hgd i hi]; omega)
  rw [hq1] at h5
  simp only [Bool.not_true, Bool.false_or] at h5
  rw [hasS_setS _ (fun p hp => by have := h2 p (List.mem_of_mem_take hp); omega)] at h5
  have h5 := of_decide_eq_true h5
  rw [hgd i hi, Int.toNat_of_nonneg hpi.1] at h5
  obtain ⟨k, hk, hke⟩ := List.mem_take_iff_getElem.1 h5
  have := (List.getElem_inj h3).1 hke
  omega
end

theorem toS_has (l : List (Int × Int)) (hl : ∀ x ∈ l, 0 ≤ x.2 ∧ x.2 < 32) (a b : Nat) : hasS (toS l a) b = true ↔ ∃ x ∈ l, x.1.toNat = a ∧ x.2.toNat = b := by
  have key : ∀ (l : List (Int × Int)) (f : Nat → S), (∀ x ∈ l, 0 ≤ x.2 ∧ x.2 < 32) → (hasS (l.foldl stepTo f a) b = true ↔ hasS (f a) b = true ∨ ∃ x ∈ l, x.1.toNat = a ∧ x.2.toNat = b) := by
    intro l
    induction l with
    | nil => intro f _; simp
    | cons x l ih =>
      intro f h
      have hx := h x (by simp)
      rw [List.foldl_cons, ih _ (fun y hy => h y (by simp [hy]))]
      have e : hasS (stepTo f x a) b = true ↔ hasS (f a) b = true ∨ (x.1.toNat = a ∧ x.2.toNat = b) := by
        unfold stepTo upd
        by_cases h1 : a = x.1.toNat
        · subst h1
          rw [if_pos rfl, hasS_or, hasS_one _ _ (by omega)]
          simp only [Bool.or_eq_true, decide_eq_true_eq]
          exact ⟨fun h => h.imp id (fun h => ⟨by trivial, h.symm⟩), fun h => h.imp id (fun h => h.2.symm)⟩
        · rw [if_neg h1]
          exact ⟨.inl, fun h => h.elim id (fun h => absurd h.1.symm h1)⟩
      rw [e]
      simp only [List.mem_cons, exists_eq_or_imp]
      exact or_assoc
  have := key l (fun _ => 0#32) hl
  simpa [toS] using this
theorem webOf_irr {o : Prob} (h : chk o = 0) (p : Nat) : hasS ((webOf o).to p) p = false := by
  obtain ⟨_, h2, h3, _⟩ := pair_of_chk h
  cases hh : hasS ((webOf o).to p) p
  · rfl
  · obtain ⟨x, hx, h4, h5⟩ := (toS_has o.arcs (fun x hx => by have := h3 x hx; omega) p p).1 hh
    have := h3 x hx
    omega

end Go.Proofs.Yteljjkghjbofnaa
