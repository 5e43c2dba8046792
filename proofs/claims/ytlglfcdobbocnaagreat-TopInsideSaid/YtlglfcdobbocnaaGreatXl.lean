/- A region that draws its order: loads that hand back the same while other operations make memory, and then a few operations one after the other. -/
import Derived.Test.YtlglfcdobbocnaaGreatXg
import Derived.OrdersHeld
import Derived.Deep.RegionHeld3
set_option maxRecDepth 100000
namespace Go.Proofs.YtlglfcdobbocnaaGreat
open Go Go.Proofs Go.RowKit
attribute [local go_sem] Oper.semAt_some
section
variable {P : Program} {ops : Array Oper} {Q : Exit → Act → World → Prop} {md : Region.Mode} {S : World → Prop}
/-- Whatever order is picked from here on; behind each operation before number m S holds. -/
def wpAnyT (P : Program) (md : Region.Mode) (ops : Array Oper) (Q : Exit → Act → World → Prop) (S : World → Prop) (m : Nat) : Nat → Array Bool → Act → World → Prop
  | 0, listed, a, w => Region.ready md ops listed = [] ∧ Q .normal a w
  | fuel + 1, listed, a, w =>
    (Region.ready md ops listed = [] → Q .normal a w) ∧
    ∀ i ∈ Region.ready md ops listed, wpOp P ops Q i (fun a' w' => (i < m → S w') ∧ wpAnyT P md ops Q S m fuel (listed.setIfInBounds i true) a' w') a w
theorem wpAny_of_T {m : Nat} : ∀ (fuel : Nat) (listed : Array Bool) (a : Act) (w : World), wpAnyT P md ops Q S m fuel listed a w → wpAny P md ops Q fuel listed a w
  | 0, _, _, _, h => h
  | fuel + 1, _, _, _, h => ⟨h.1, fun i hi => wpOp_mono (fun a' w' h' => wpAny_of_T fuel _ a' w' h'.2) (h.2 i hi)⟩
/-- From number m on all wait for those before number n. -/
def lateB (md : Region.Mode) (ops : Array Oper) (n m : Nat) : Bool := (List.range (ops.size - m)).all fun t => (List.range n).all fun i => Region.waitsFor md ops (m + t) i
theorem late_lt {n m i j : Nat} {listed : Array Bool} (hB : lateB md ops n m = true) (hin : i < n) (hun : listed.getD i true = false) (hj : j ∈ Region.ready md ops listed) : j < m := by
  rcases Nat.lt_or_ge j m with h | h
  · exact h
  · exfalso
    obtain ⟨_, oj, hoj, hall⟩ := mem_ready.1 hj
    have hjs : j < ops.size := (Array.getElem?_eq_some_iff.1 hoj).1
    have h1 := List.all_eq_true.1 (List.all_eq_true.1 hB (j - m) (List.mem_range.2 (by omega))) i (List.mem_range.2 hin)
    rw [show m + (j - m) = j by omega] at h1
    obtain ⟨o', ho', e, he, hb, hon⟩ := Region.waitsFor_spec h1
    have : o' = oj := Option.some.inj (ho'.symm.trans hoj)
    subst this
    have h2 := hall e he hb
    rw [hon, getD_both hun] at h2
    cases h2
theorem wpAnyT_first {n m i : Nat} {oi : Oper} {v : Value} (hi : ops[i]? = some oi) (hsel : ∀ (j : Nat) (o : Oper) cs b, ops[j]? = some o → o.op ≠ .select cs b) (hB : lateB md ops n m = true) (hin : i < n)
    (hQ : ∀ c a w, Q (.panic c) (a.put oi.dst v) w → Q (.panic c) a w) :
    ∀ (fuel : Nat) (listed : Array Bool) (a : Act) (w : World),
      (∀ j oj, ops[j]? = some oj → j ≠ i → listed.getD j true = false → (∀ e ∈ oj.after, Region.binds md e = true → e.on ≠ i) → oi.apart ops oj = true) →
      i ∈ Region.ready md ops listed → YieldsIf P ops S oi v a → S w →
      wpAnyT P md ops Q S m fuel (listed.setIfInBounds i true) (a.put oi.dst v) w → wpAnyT P md ops Q S m (fuel + 1) listed a w := by
  intro fuel
  induction fuel with
  | zero =>
    intro listed a w _ hr hy hS H
    refine ⟨fun h => (by rw [h] at hr; cases hr), fun j hj => ?_⟩
    by_cases hji : j = i
    · subst hji; exact hy.wpOp hi hS ⟨fun _ => hS, H⟩
    · have := ready_mono hj hji
      rw [H.1] at this
      cases this
  | succ fuel ih =>
    intro listed a w hfree hr hy hS H
    refine ⟨fun h => (by rw [h] at hr; cases hr), fun j hj => ?_⟩
    by_cases hji : j = i
    · subst hji; exact hy.wpOp hi hS ⟨fun _ => hS, H⟩
    · have h1 := H.2 j (ready_mono hj hji)
      have hjm : j < m := late_lt hB hin (mem_ready.1 hr).1 hj
      obtain ⟨hjun, oj, hoj, hall⟩ := mem_ready.1 hj
      have hnot : ∀ e ∈ oj.after, Region.binds md e = true → e.on ≠ i := fun e he hb heq => by
        have h1 := hall e he hb
        rw [heq, getD_both (mem_ready.1 hr).1] at h1
        cases h1
      have h2 := wpOp_putIf hoj (hfree j oj hoj hji hjun hnot) (fun cs b => hsel i oi cs b hi) (fun cs b => hsel j oj cs b hoj) hQ hy h1
      have hfree' : ∀ k ok, ops[k]? = some ok → k ≠ i → (listed.setIfInBounds j true).getD k true = false →
          (∀ e ∈ ok.after, Region.binds md e = true → e.on ≠ i) → oi.apart ops ok = true := fun k ok hk hki hun hno => by
        refine hfree k ok hk hki ?_ hno
        by_cases hjk : j = k
        · subst hjk; exact hjun
        · rw [getD_set_ne true hjk] at hun; exact hun
      refine wpOp_mono (fun a' w' h3 => ⟨h3.2.1, ih (listed.setIfInBounds j true) a' w' hfree' (ready_mono hr (Ne.symm hji)) h3.1 (h3.2.1 hjm) ?_⟩) h2
      rw [Array.setIfInBounds_comm _ _ hji]
      exact h3.2.2
/-- The loads, in the order of the text. -/
def wpHeld (P : Program) (ops : Array Oper) (S : World → Prop) (K : Act → Prop) : List Oper → Act → Prop
  | [], a => K a
  | o :: rest, a => ∃ v, YieldsIf P ops S o v a ∧ wpHeld P ops S K rest (a.put o.dst v)
theorem wpHeld_nil {K : Act → Prop} {a : Act} (h : K a) : wpHeld P ops S K [] a := h
theorem wpHeld_step {K : Act → Prop} {a : Act} {o : Oper} {rest : List Oper} (v : Value) (hw : Region.wanted o (yielded ops a.tmps) = true) (h : ∀ w, S w → (execOp a.eval o).run P w = .ok (.value v) w) (hn : wpHeld P ops S K rest (a.put o.dst v)) : wpHeld P ops S K (o :: rest) a :=
  ⟨v, .inl ⟨hw, h⟩, hn⟩
/-- What comes behind them, one after the other. -/
def wpLate (P : Program) (ops : Array Oper) (Q : Exit → Act → World → Prop) (S : World → Prop) (m : Nat) : List Oper → Nat → Act → World → Prop
  | [], _, a, w => Q .normal a w
  | o :: rest, k, a, w => if Region.wanted o (yielded ops a.tmps) then o.wp P a w (fun a' w' => (k < m → S w') ∧ wpLate P ops Q S m rest (k + 1) a' w') Q else (k < m → S w) ∧ wpLate P ops Q S m rest (k + 1) (a.put o.dst undef) w
theorem wpLate_nil {m k : Nat} {a : Act} {w : World} (h : Q .normal a w) : wpLate P ops Q S m [] k a w := h
theorem wpLate_step {m k : Nat} {a : Act} {w : World} {o : Oper} {rest : List Oper} (h : ∀ K' : Act → World → Prop, (∀ a w, (k < m → S w) → wpLate P ops Q S m rest (k + 1) a w → K' a w) → if Region.wanted o (yielded ops a.tmps) = true then o.wp P a w K' Q else K' (a.put o.dst undef) w) : wpLate P ops Q S m (o :: rest) k a w :=
  h _ fun _ _ h1 h2 => ⟨h1, h2⟩
theorem wpAnyT_seq {m : Nat} : ∀ (l : List Oper) (k : Nat) (listed : Array Bool) (a : Act) (w : World), (∀ j, l[j]? = ops[k + j]?) →
    Region.seqB md ops l.length k listed = true → wpLate P ops Q S m l k a w → wpAnyT P md ops Q S m l.length listed a w
  | [], _, _, _, _, _, hB, h => ⟨by simpa [Region.seqB] using hB, h⟩
  | o :: l, k, listed, a, w, hl, hB, h => by
    have h0 : ops[k]? = some o := by simpa using (hl 0).symm
    simp only [List.length_cons, Region.seqB, Bool.and_eq_true, decide_eq_true_eq] at hB
    refine ⟨fun h1 => (by rw [hB.1] at h1; cases h1), fun i hi => ?_⟩
    rw [hB.1] at hi
    have hik : i = k := by simpa using hi
    subst hik
    have hw : wpOp P ops Q i (fun a' w' => (i < m → S w') ∧ wpLate P ops Q S m l (i + 1) a' w') a w := by
      unfold wpOp
      simp only [h0]
      unfold wpLate at h
      split
      · rename_i hw
        rw [if_pos hw] at h
        exact .inl h
      · rename_i hw
        rw [if_neg hw] at h
        exact h
    exact wpOp_mono (fun a' w' h' => ⟨h'.1, wpAnyT_seq l (i + 1) _ a' w' (fun j => by have := hl (j + 1); simpa [Nat.add_assoc, Nat.add_comm 1 j] using this) hB.2 h'.2⟩) hw
theorem wpAnyT_lex {n m : Nat} {tl : List Oper} {w : World} (hsel : Region.noSelect ops = true) (hB : lateB md ops n m = true) (htl : ∀ j, tl[j]? = ops[n + j]?)
    (hQ : ∀ c a a' w, Q (.panic c) a w → Q (.panic c) a' w) (hS : S w) :
    ∀ (l : List Oper) (k : Nat) (listed : Array Bool) (a : Act), (∀ j, j < l.length → l[j]? = ops[k + j]?) → k + l.length = n →
    Region.lexHead md ops tl.length l.length k listed = true → wpHeld P ops S (fun a' => wpLate P ops Q S m tl n a' w) l a → wpAnyT P md ops Q S m (l.length + tl.length) listed a w
  | [], k, listed, a, _, hk, hL, h => by
    have : k = n := by simpa using hk
    subst this
    rw [List.length_nil, Nat.zero_add]
    exact wpAnyT_seq tl k listed a w htl (by simpa [Region.lexHead] using hL) h
  | o :: l, k, listed, a, hl, hk, hL, h => by
    have h0 : ops[k]? = some o := by simpa using (hl 0 (by simp)).symm
    simp only [List.length_cons, Region.lexHead, Bool.and_eq_true] at hL
    obtain ⟨⟨hr, hf⟩, hL'⟩ := hL
    have hkn : k < n := by simp only [List.length_cons] at hk; omega
    obtain ⟨v, hy, hK⟩ := h
    rw [show (o :: l).length + tl.length = (l.length + tl.length) + 1 by simp only [List.length_cons]; omega]
    exact wpAnyT_first h0 (Region.noSelect_spec hsel) hB hkn (fun c a w h => hQ c _ a w h) (l.length + tl.length) listed a w (Region.free_spec h0 hf) (by simpa using hr) hy hS
      (wpAnyT_lex hsel hB htl hQ hS l (k + 1) _ _ (fun j hj => by have := hl (j + 1) (by simp; omega); simpa [Nat.add_assoc, Nat.add_comm 1 j] using this) (by simp only [List.length_cons] at hk; omega) hL' hK)
/-- The first n operations only load, the same in whatever world meets S; the others come one after the other; from number m on they wait for all loads. -/
theorem region_late {id : Nat} {a : Act} {w : World} {l : List Oper} (S : World → Prop) (n m : Nat) (hm : P.follows .mixedOrders = true) (hsel : Region.noSelect l.toArray = true) (hlen : n ≤ l.length)
    (hB : lateB .any l.toArray n m = true) (hL : Region.lexHead .any l.toArray (l.length - n) n 0 (Array.replicate l.length false) = true)
    (hS : S w.drew)
    (h : wpHeld P l.toArray S (fun a' => wpLate P l.toArray (NoPanic Q) S m (l.drop n) n a' w.drew) (l.take n) a) : (Code.region id l.toArray true).wp P Q a w := by
  refine wp_region_noPanic (wp_region_any hm (wpAny_of_T (S := S) (m := m) _ _ _ _ ?_))
  have htl : (l.take n).length = n := by simp; omega
  have hdl : (l.drop n).length = l.length - n := by simp
  have := wpAnyT_lex (md := .any) (ops := l.toArray) (n := n) (m := m) (tl := l.drop n) (w := w.drew) hsel hB (fun j => by simp [List.getElem?_drop]) (fun _ _ _ _ h => (h : False).elim) hS (l.take n) 0 (Array.replicate l.length false) a
    (fun j hj => by rw [htl] at hj; simp [hj]) (by rw [htl]; omega) (by rw [htl, hdl]; exact hL) h
  rw [htl, hdl, show n + (l.length - n) = l.length by omega] at this
  simpa using this
end
end Go.Proofs.YtlglfcdobbocnaaGreat
