/- Plain law of OrderMore: more arcs, more near pairs, a longer drying: no earlier end. -/
import Derived.Test.YteljjkghjbofnaaKe
import Derived.Test.YteljjkghjbofnaaTr
set_option maxRecDepth 100000
namespace Go.Proofs.Yteljjkghjbofnaa
open Go Go.Proofs Go.RowKit

def LeD (d e : List Int) : Prop := d.length = e.length ∧ ∀ p, d.getD p 0 ≤ e.getD p 0
theorem LeD.set {d e : List Int} (h : LeD d e) {p : Nat} {x y : Int} (hxy : x ≤ y) : LeD (d.set p x) (e.set p y) := by
  refine ⟨by simp [h.1], fun q => ?_⟩
  by_cases hq : p = q
  · subst hq
    by_cases hp : p < d.length
    · rw [getD_set_same hp, getD_set_same (by rw [← h.1]; exact hp)]
      exact hxy
    · rw [List.set_eq_of_length_le (by omega), List.set_eq_of_length_le (by rw [← h.1]; omega)]
      exact h.2 p
  · rw [getD_set_other hq, getD_set_other hq]
    exact h.2 q
theorem LeD.setR {d e : List Int} (h : LeD d e) {p : Nat} {y : Int} (hy : e.getD p 0 ≤ y) : LeD d (e.set p y) := by
  refine ⟨by simp [h.1], fun q => ?_⟩
  by_cases hq : p = q
  · subst hq
    by_cases hp : p < e.length
    · rw [getD_set_same hp]
      exact Int.le_trans (h.2 p) hy
    · rw [List.set_eq_of_length_le (by omega)]
      exact h.2 p
  · rw [getD_set_other hq]
    exact h.2 q
variable {W W' : Web} {dry dry' : Int}
theorem dayNear_mono (hsub : ∀ a b, hasS (W.near a) b = true → hasS (W'.near a) b = true) (hd : dry ≤ dry') {d e : List Int} (h : LeD d e) (p : Nat) (q : Int) : LeD (dayNear W dry p d q) (dayNear W' dry' p e q) := by
  unfold dayNear
  have h1 := h.2 p
  have h2 := h.2 q.toNat
  by_cases hn : hasS (W.near p) q.toNat = true
  · rw [if_pos hn, if_pos (hsub _ _ hn)]
    exact h.set (by omega)
  · rw [if_neg hn]
    split
    · exact h.setR (by omega)
    · exact h
theorem dayStep_mono (hsub : ∀ a b, hasS (W.near a) b = true → hasS (W'.near a) b = true) (hd : dry ≤ dry') (l : List Int) {d e : List Int} (h : LeD d e) (i : Nat) : LeD (dayStep W dry l d i) (dayStep W' dry' l e i) := by
  unfold dayStep
  have hf : LeD (dayFirst l i d) (dayFirst l i e) := by
    unfold dayFirst
    split
    · exact h.set (by have := h.2 (l.getD (i - 1) 0).toNat; omega)
    · exact h
  generalize dayFirst l i d = d1 at *
  generalize dayFirst l i e = e1 at *
  generalize l.take i = qs
  induction qs generalizing d1 e1 with
  | nil => exact hf
  | cons q qs ih => exact ih _ _ (dayNear_mono hsub hd hf _ q)
theorem days_mono (hn : W.n = W'.n) (hsub : ∀ a b, hasS (W.near a) b = true → hasS (W'.near a) b = true) (hd : dry ≤ dry') (l : List Int) : LeD (daysOf W dry l) (daysOf W' dry' l) := by
  have : ∀ k, LeD (daysPart W dry l k) (daysPart W' dry' l k) := fun k => by
    induction k with
    | zero => exact ⟨by simp [daysPart, hn], fun p => by simp [daysPart, hn]⟩
    | succ k ih => rw [daysPart_succ, daysPart_succ]; exact dayStep_mono hsub hd l ih k
  exact this _
theorem ordered_fewer (hn : W.n = W'.n) (hsub : ∀ a b, hasS (W.to a) b = true → hasS (W'.to a) b = true) {l : List Int} (h : orderedB W' l = true) : orderedB W l = true := by
  obtain ⟨h1, h2, h3, h4⟩ := orderedB_iff.1 h
  refine orderedB_iff.2 ⟨by rw [h1, hn], by rw [hn]; exact h2, h3, fun i hi => ?_⟩
  have h5 := h4 i hi
  refine hasS_ext fun x hx => ?_
  have h6 : hasS (W'.to (l.getD i 0).toNat &&& setS (l.take i)) x = false := by rw [h5]; simp [hasS]
  rw [hasS_and] at h6 ⊢
  cases h7 : hasS (W.to (l.getD i 0).toNat) x
  · simp [hasS]
  · rw [hsub _ _ h7] at h6
    rw [Bool.true_and] at h6 ⊢
    rw [h6]
    simp [hasS]

/-- What Wait answers of what can be planned. -/
theorem best_facts {o : Prob} {dry : Int} (hc : chk o = 0) (hcb : circB (webOf o) = false) (h0 : 0 < (webOf o).n) (hd : 0 ≤ dry ∧ dry ≤ 30) :
    ∃ x, bestPair (webOf o) dry (bestOf (webOf o) dry (ordersL (webOf o))) = (x, daysOf (webOf o) dry x) ∧ orderedB (webOf o) x = true ∧ ∀ l, orderedB (webOf o) l = true → endOf (webOf o) dry x ≤ endOf (webOf o) dry l := by
  have hn := webOf_n hc
  have hirr : ∀ p, p < (webOf o).n → hasS ((webOf o).to p) p = false := fun p _ => webOf_irr hc p
  have hb : ∀ x ∈ ordersL (webOf o), endOf (webOf o) dry x < 2000 := fun x hx => by
    have := (end_bound (W := webOf o) (dry := dry) hd (ordersL_sound hn hx) hn h0).1
    omega
  obtain ⟨h1, _⟩ := best_wait (W := webOf o) (dry := dry) (ordersL (webOf o)) hb
  have hg : Goes (webOf o) := goes_of hn (woven_of o) hcb
  rw [← h1]
  have key := fun l hl => wait_least hn h0 hirr hd (List.prefix_refl (ordersL (webOf o))) (o1 := (waitAll (webOf o) dry (ordersL (webOf o))).2.1) (d1 := (waitAll (webOf o) dry (ordersL (webOf o))).2.2) rfl (.inl rfl) (l := l) hl
  have hf := key _ (firstOf_ordered hn hg)
  exact ⟨_, Prod.ext rfl hf.2.1, hf.1, fun l hl => (key l hl).2.2⟩

theorem more_any {o o' : Prob} {dry dry' : Int} (hc : chk o = 0) (hc' : chk o' = 0) (hcb : circB (webOf o) = false) (hcb' : circB (webOf o') = false) (hN : o.N = o'.N) (ha : ∀ x ∈ o.arcs, x ∈ o'.arcs) (hb : ∀ x ∈ o.near, x ∈ o'.near) (hd : 0 ≤ dry ∧ dry ≤ 30) (hd' : 0 ≤ dry' ∧ dry' ≤ 30) (hdd : dry ≤ dry') :
    lastK (bestPair (webOf o) dry (bestOf (webOf o) dry (ordersL (webOf o)))).2 (bestPair (webOf o) dry (bestOf (webOf o) dry (ordersL (webOf o)))).2.length ≤
    lastK (bestPair (webOf o') dry' (bestOf (webOf o') dry' (ordersL (webOf o')))).2 (bestPair (webOf o') dry' (bestOf (webOf o') dry' (ordersL (webOf o')))).2.length := by
  have hn := webOf_n hc
  have hn' := webOf_n hc'
  have hnn : (webOf o).n = (webOf o').n := by unfold webOf; simp [hN]
  obtain ⟨p1, p2, p3, p4⟩ := pair_of_chk hc
  obtain ⟨q1, q2, q3, q4⟩ := pair_of_chk hc'
  have hto : ∀ a b, hasS ((webOf o).to a) b = true → hasS ((webOf o').to a) b = true := fun a b h => by
    have h := (toS_has o.arcs (fun x hx => by have := p3 x hx; omega) a b).1 h
    obtain ⟨x, hx, e⟩ := h
    exact (toS_has o'.arcs (fun x hx => by have := q3 x hx; omega) a b).2 ⟨x, ha x hx, e⟩
  have hnr : ∀ a b, hasS ((webOf o).near a) b = true → hasS ((webOf o').near a) b = true := fun a b h => by
    have h := (nearS_has o.near _ (fun x hx => by have := p4 x hx; omega) a b).1 h
    refine (nearS_has o'.near _ (fun x hx => by have := q4 x hx; omega) a b).2 ?_
    rcases h with h | ⟨x, hx, e⟩
    · exact .inl h
    · exact .inr ⟨x, hb x hx, e⟩
  by_cases h0 : 0 < (webOf o).n
  · obtain ⟨x, e1, e2, e3⟩ := best_facts hc hcb h0 hd
    obtain ⟨y, f1, f2, f3⟩ := best_facts hc' hcb' (by omega) hd'
    rw [e1, f1]
    show lastK (daysOf (webOf o) dry x) _ ≤ lastK (daysOf (webOf o') dry' y) _
    rw [last_end hn h0 hd e2, last_end hn' (by omega) hd' f2]
    have g1 := e3 y (ordered_fewer hnn hto f2)
    have g2 := (days_mono hnn hnr hdd y).2 (y.getD (y.length - 1) 0).toNat
    exact Int.le_trans g1 g2
  · have hz : ∀ (W : Web) (dry : Int), W.n = 0 → ∀ b, (bestPair W dry b).2 = [] := fun W dry hW b => by
      cases b with
      | none => rfl
      | some x => exact List.length_eq_zero_iff.1 (by show (daysOf W dry x).length = 0; rw [show (daysOf W dry x).length = W.n from daysPart_length W dry x x.length, hW])
    rw [hz _ _ (by omega), hz _ _ (by omega)]
    exact Int.le_refl _

theorem wait_parts {o : Prob} {dry : Int} (h : (WaitR o dry).2 = 0) : chk o = 0 ∧ (0 ≤ dry ∧ dry ≤ 30) ∧ circB (webOf o) = false ∧ (WaitR o dry).1 = bestPair (webOf o) dry (bestOf (webOf o) dry (ordersL (webOf o))) := by
  unfold WaitR at *
  split at h
  · rename_i h1
    split at h
    · rename_i h2
      split at h
      · cases h
      · split at h
        · cases h
        · rename_i h3 h4
          refine ⟨h1, h2, by simpa using h4, ?_⟩
          rw [if_pos h1, if_pos h2, if_neg h3, if_neg h4]
    · cases h
  · rename_i h1
    exact absurd h h1
theorem wait_nil {o : Prob} {dry : Int} (h : (WaitR o dry).2 ≠ 0) : (WaitR o dry).1 = ([], []) := by
  unfold WaitR at *
  split
  · rename_i h1
    rw [if_pos h1] at h
    split
    · rename_i h2
      rw [if_pos h2] at h
      split
      · rfl
      · rename_i h3
        rw [if_neg h3] at h
        split
        · rfl
        · rename_i h4
          rw [if_neg h4] at h
          exact absurd rfl h
    · rfl
  · rfl
theorem more_dry {o : Prob} {dry more : Int} (h : (WaitR o dry).2 = 0) (h2 : (WaitR o (dry + more)).2 = 0) (hm : 0 ≤ more) : lastK (WaitR o dry).1.2 (WaitR o dry).1.2.length ≤ lastK (WaitR o (dry + more)).1.2 (WaitR o (dry + more)).1.2.length := by
  obtain ⟨a1, a2, a3, a4⟩ := wait_parts h
  obtain ⟨b1, b2, b3, b4⟩ := wait_parts h2
  rw [a4, b4]
  exact more_any a1 b1 a3 b3 rfl (fun _ h => h) (fun _ h => h) a2 b2 (by omega)
theorem joinR_parts {o p : Prob} (h : (JoinR o p).2 = 0) : chk o = 0 ∧ chk p = 0 ∧ o.N = p.N ∧ (JoinR o p).1 = ⟨o.N, uniP o.arcs p.arcs, uniP o.near p.near⟩ := by
  unfold JoinR at *
  by_cases h1 : chk o = 0
  · rw [if_neg (by simp [h1])] at h ⊢
    by_cases h2 : chk p = 0
    · rw [if_neg (by simp [h2])] at h ⊢
      by_cases h3 : o.N = p.N
      · rw [if_neg (by simp [h3])]
        exact ⟨h1, h2, h3, rfl⟩
      · rw [if_pos h3] at h
        cases h
    · rw [if_pos h2] at h
      exact absurd h h2
  · rw [if_pos h1] at h
    exact absurd h h1
theorem more_join {o p : Prob} {dry : Int} (hj : (JoinR o p).2 = 0) (h : (WaitR o dry).2 = 0) (h2 : (WaitR (JoinR o p).1 dry).2 = 0) : lastK (WaitR o dry).1.2 (WaitR o dry).1.2.length ≤ lastK (WaitR (JoinR o p).1 dry).1.2 (WaitR (JoinR o p).1 dry).1.2.length := by
  obtain ⟨a1, a2, a3, a4⟩ := wait_parts h
  obtain ⟨b1, b2, b3, b4⟩ := wait_parts h2
  obtain ⟨c1, c2, c3, c4⟩ := joinR_parts hj
  rw [a4, b4]
  have hu := (uniP_union p.arcs o.arcs (risB_pw.1 (chk_parts c1))).2
  have hv := (uniP_union p.near o.near (risB_pw.1 (chk_near_ris c1))).2
  refine more_any a1 b1 a3 b3 (by rw [c4]) (fun x hx => ?_) (fun x hx => ?_) a2 b2 (Int.le_refl _)
  · rw [c4]; exact (hu x).2 (.inl hx)
  · rw [c4]; exact (hv x).2 (.inl hx)
end Go.Proofs.Yteljjkghjbofnaa
