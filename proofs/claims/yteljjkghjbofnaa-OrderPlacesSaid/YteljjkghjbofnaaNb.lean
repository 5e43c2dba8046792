/- Plain law of OrderPlaces. -/
import Derived.Test.YteljjkghjbofnaaUc
import Derived.Test.YteljjkghjbofnaaNa
import Derived.Test.YteljjkghjbofnaaWi
/-! Plain law of OrderPlaces. -/
set_option maxRecDepth 100000
namespace Go.Proofs.Yteljjkghjbofnaa
open Go Go.Proofs Go.RowKit

section
variable {W : Web}
theorem sumC_cons (d : S) (p : Nat) (l : List Nat) : sumC W d (p :: l) = cnt W (d ||| oneS p) + sumC W d l := by simp [sumC]
theorem nthScan_split {d : S} : ∀ {ps : List Nat} {k k' : Int} {p : Nat}, nthScan W d ps k = (some p, k') → ∃ A B, ps = A ++ p :: B ∧ k = sumC W d A + k'
  | [], k, k', p, h => by unfold nthScan at h; cases h
  | q :: ps, k, k', p, h => by
    unfold nthScan at h
    by_cases hk : k < cnt W (d ||| oneS q)
    · rw [if_pos hk] at h
      cases h
      exact ⟨[], ps, rfl, by simp [sumC]⟩
    · rw [if_neg hk] at h
      obtain ⟨A, B, h1, h2⟩ := nthScan_split h
      exact ⟨q :: A, B, by rw [h1]; rfl, by rw [sumC_cons]; omega⟩
theorem cnt_small (hn : W.n ≤ 12) (d : S) : 0 ≤ cnt W d ∧ cnt W d ≤ 479001600 := by
  obtain ⟨h1, h2, -⟩ := cnt_bound hn (rest W d) d (Nat.le_refl _)
  have h3 : fct (rest W d) ≤ fct 12 := fct_mono (Nat.le_trans (rest_le W d) hn)
  have h4 : fct 12 = 479001600 := by decide +kernel
  omega
theorem sumC_nonneg (hn : W.n ≤ 12) (d : S) : ∀ l : List Nat, 0 ≤ sumC W d l
  | [] => by simp [sumC]
  | p :: l => by
    have := (cnt_small hn (d ||| oneS p)).1
    have := sumC_nonneg hn d l
    rw [sumC_cons]
    omega
theorem foldC_sum (hn : W.n ≤ 12) (d : S) {n : Int} (l : List Nat) (h0 : 0 ≤ n) (hl : l.length ≤ 12) (hb : n ≤ 479001600) : foldC W d n l = n + sumC W d l :=
  (fold_sum (W := W) (d := d) (F := 479001600) l n (fun p _ => cnt_small hn _) h0 (by omega)).1
theorem rankAt_take (l : List Int) (x : Int) : ∀ i, i ≤ l.length → rankAt W (l ++ [x]) i = rankAt W l i
  | 0, _ => rfl
  | i + 1, h => by
    unfold rankAt
    rw [rankAt_take l x i (by omega), List.take_append_of_le_length (by omega)]
    have : (l ++ [x]).getD i 0 = l.getD i 0 := by
      rw [List.getD_eq_getElem?_getD, List.getD_eq_getElem?_getD, List.getElem?_append_left (by omega)]
    rw [this]
theorem rankAt_snoc (l : List Int) (x : Int) : rankAt W (l ++ [x]) (l.length + 1) = rankSum W (setS l) (rankAt W l l.length) x.toNat := by
  show rankSum W (setS ((l ++ [x]).take l.length)) (rankAt W (l ++ [x]) l.length) ((l ++ [x]).getD l.length 0).toNat = _
  rw [rankAt_take l x l.length (Nat.le_refl _), List.take_left]
  have : (l ++ [x]).getD l.length 0 = x := by
    rw [List.getD_eq_getElem?_getD, List.getElem?_append_right (Nat.le_refl _)]
    simp
  rw [this]

structure NthI (W : Web) (k : Int) (j : Nat) (s : List Int × Int) : Prop where
  ord : OrdF W s.1
  len : s.1.length = j
  lo : 0 ≤ s.2
  hi : s.2 < cnt W (setS s.1)
  rl : 0 ≤ rankAt W s.1 j
  sum : rankAt W s.1 j + s.2 = k
theorem NthI.step (hn : W.n ≤ 12) {k : Int} {j : Nat} {s : List Int × Int} (h : NthI W k j s) (hj : j < W.n) (hk : k ≤ 479001600) : NthI W k (j + 1) (nthStep W s) := by
  have hne := setS_not_whole (W := W) (by omega) h.ord.1 (by rw [h.len]; exact hj)
  have hsum := (cnt_bound hn _ (setS s.1) (Nat.le_refl _)).2.2 hne
  obtain ⟨p, k', e, hp, h0, h1⟩ := nthScan_some (W := W) (d := setS s.1) (readyL W (setS s.1)) s.2 h.lo (by rw [← hsum]; exact h.hi)
  obtain ⟨A, B, eA, ek⟩ := nthScan_split e
  have est : nthStep W s = (s.1 ++ [(p : Int)], k') := by unfold nthStep; rw [e]
  have hr := readyL_rising W (setS s.1)
  rw [eA] at hr
  have hA : ∀ q ∈ A, q < p := fun q hq => (List.pairwise_append.1 hr).2.2 q hq p (List.mem_cons_self ..)
  have hpn := (mem_readyL.1 hp).1
  have hlen : A.length ≤ 12 := by
    have h1 := readyL_rest W (setS s.1)
    have h2 := rest_le W (setS s.1)
    rw [eA] at h1
    simp at h1
    omega
  have hl := h.len
  have hlo := h.lo
  have hrl := h.rl
  have hsm := h.sum
  have hrank : rankAt W (s.1 ++ [(p : Int)]) (j + 1) = rankAt W s.1 j + sumC W (setS s.1) A := by
    rw [← hl, rankAt_snoc, Int.toNat_natCast, rankSum_stop (Nat.le_of_lt hpn) eA hA (Nat.le_refl p), foldC_sum hn _ A (by rw [hl]; exact hrl) hlen (by rw [hl]; omega)]
  have hnn := sumC_nonneg hn (setS s.1) A
  rw [est]
  refine ⟨h.ord.snoc (by omega) hp, by simp [hl], h0, ?_, ?_, ?_⟩
  · show k' < cnt W (setS (s.1 ++ [(p : Int)]))
    rw [setS_snoc_nat]
    exact h1
  · show 0 ≤ rankAt W (s.1 ++ [(p : Int)]) (j + 1)
    rw [hrank]; omega
  · show rankAt W (s.1 ++ [(p : Int)]) (j + 1) + k' = k
    rw [hrank]; omega
theorem setS_full (hn : W.n ≤ 24) {l : List Int} (h1 : l.length = W.n) (h2 : ∀ p ∈ l, 0 ≤ p ∧ p < (W.n : Int)) (h3 : l.Nodup) : setS l = wholeS W.n := by
  refine hasS_ext fun x hx => ?_
  rw [hasS_setS _ (fun p hp => by have := h2 p hp; omega), hasS_whole (by omega)]
  by_cases hxn : x < W.n
  · rw [decide_eq_true hxn, decide_eq_true (mem_full h1 h2 h3 hxn)]
  · rw [decide_eq_false hxn, decide_eq_false (fun h => by have := h2 _ h; omega)]
theorem nth_inv (hn : W.n ≤ 12) {k : Int} (h0 : 0 ≤ k) (h1 : k < cnt W 0#32) : ∀ j, j ≤ W.n → NthI W k j (nthSt W k j)
  | 0, _ => ⟨⟨by simp [nthSt], by simp [nthSt], fun i h => by simp [nthSt] at h⟩, rfl, h0, h1, Int.le_refl _, by show (0 : Int) + k = k; omega⟩
  | j + 1, h => (nth_inv hn h0 h1 j (by omega)).step hn (by omega) (by have := cnt_small hn (0#32); omega)
theorem nth_rank (hn : W.n ≤ 12) {k : Int} (h0 : 0 ≤ k) (h1 : k < cnt W 0#32) : orderedB W (nthOf W k) = true ∧ rankAt W (nthOf W k) (nthOf W k).length = k ∧ (nthOf W k).length = W.n := by
  have h := nth_inv hn h0 h1 W.n (Nat.le_refl _)
  have hl : (nthOf W k).length = W.n := h.len
  refine ⟨h.ord.ordered (by omega) hl, ?_, hl⟩
  rw [hl]
  have hs := h.sum
  have hi := h.hi
  have hlo := h.lo
  have hw : setS (nthSt W k W.n).1 = wholeS W.n := setS_full (by omega) h.len h.ord.1 h.ord.2.1
  rw [hw, cnt_eq (by omega), if_pos rfl] at hi
  show rankAt W (nthSt W k W.n).1 W.n = k
  omega
theorem cnt_pos (hn : W.n ≤ 12) (hg : Goes W) : ∀ (m : Nat) (l : List Int), OrdF W l → l.length + m = W.n → 0 < cnt W (setS l)
  | 0, l, h, hm => by
    rw [setS_full (by omega) (by omega) h.1 h.2.1, cnt_eq (by omega), if_pos rfl]
    decide
  | m + 1, l, h, hm => by
    have hne := setS_not_whole (W := W) (by omega) h.1 (by omega)
    rw [(cnt_bound hn _ (setS l) (Nat.le_refl _)).2.2 hne]
    obtain ⟨q, t, e⟩ := List.exists_cons_of_ne_nil (hg l h.1 h.2.1 (by omega))
    have hq : q ∈ readyL W (setS l) := by rw [e]; simp
    have h1 := cnt_pos hn hg m (l ++ [(q : Int)]) (h.snoc (by omega) hq) (by simp; omega)
    rw [setS_snoc_nat] at h1
    have h2 := sumC_nonneg hn (setS l) t
    rw [e, sumC_cons]
    omega
theorem firstL_ordF (hn : W.n ≤ 24) (hg : Goes W) {k : Nat} (hk : k ≤ W.n) : OrdF W (firstL W k) := by
  obtain ⟨h1, h2, h3, h4⟩ := firstL_facts hn hg k hk
  exact ⟨h2, h3, h4⟩
theorem nth_first (hn : W.n ≤ 12) (hg : Goes W) : ∀ j, j ≤ W.n → nthSt W 0 j = (firstL W j, 0)
  | 0, _ => rfl
  | j + 1, h => by
    show nthStep W (nthSt W 0 j) = _
    rw [nth_first hn hg j (by omega)]
    have ho := firstL_ordF (by omega) hg (k := j) (by omega)
    have hlen : (firstL W j).length = j := (firstL_facts (by omega) hg j (by omega)).1
    obtain ⟨q, t, e⟩ := List.exists_cons_of_ne_nil (hg _ ho.1 ho.2.1 (by omega))
    have hq : q ∈ readyL W (setS (firstL W j)) := by rw [e]; simp
    have h1 := cnt_pos hn hg (W.n - (j + 1)) (firstL W j ++ [(q : Int)]) (ho.snoc (by omega) hq) (by simp; omega)
    rw [setS_snoc_nat] at h1
    unfold nthStep
    show (match nthScan W (setS (firstL W j)) (readyL W (setS (firstL W j))) 0 with | (some p, k) => (firstL W j ++ [(p : Int)], k) | (none, k) => (firstL W j, k)) = (firstL W j ++ [(((readyL W (setS (firstL W j))).headD 0 : Nat) : Int)], 0)
    rw [e]
    unfold nthScan
    rw [if_pos h1]
    rfl
theorem nth_zero (hn : W.n ≤ 12) (hg : Goes W) : nthOf W 0 = firstOf W := by
  unfold nthOf firstOf
  rw [nth_first hn hg W.n (Nat.le_refl _)]
end

section
variable {W W' : Web}
theorem sum_filter_le {P P' : Nat → Bool} {f f' : Nat → Int} : ∀ (l : List Nat), (∀ x ∈ l, P' x = true → P x = true) → (∀ x ∈ l, P' x = true → f' x ≤ f x) → (∀ x, 0 ≤ f x) → ((l.filter P').map f').sum ≤ ((l.filter P).map f).sum
  | [], _, _, _ => by simp
  | x :: l, h1, h2, h3 => by
    have ih := sum_filter_le (P := P) (P' := P') (f := f) (f' := f') l (fun y hy => h1 y (List.mem_cons_of_mem _ hy)) (fun y hy => h2 y (List.mem_cons_of_mem _ hy)) h3
    have hx := h3 x
    rw [List.filter_cons, List.filter_cons]
    by_cases hp : P' x = true
    · have h4 := h1 x (List.mem_cons_self ..) hp
      have h5 := h2 x (List.mem_cons_self ..) hp
      rw [if_pos hp, if_pos h4]
      simp only [List.map_cons, List.sum_cons]
      omega
    · rw [if_neg hp]
      by_cases hq : P x = true
      · rw [if_pos hq]
        simp only [List.map_cons, List.sum_cons]
        omega
      · rw [if_neg hq]
        exact ih
theorem readyB_fewer (hn : W.n = W'.n) (hsub : ∀ a b, hasS (W.to a) b = true → hasS (W'.to a) b = true) {d : S} {p : Nat} (h : readyB W' d p = true) : readyB W d p = true := by
  unfold readyB at *
  simp only [Bool.and_eq_true, List.all_eq_true, List.mem_range] at *
  refine ⟨h.1, fun a ha => ?_⟩
  have := h.2 a (by omega)
  cases h1 : hasS (W.to a) p
  · rfl
  · rw [hsub _ _ h1] at this
    exact this
theorem cnt_fewer (h12 : W.n ≤ 12) (hn : W.n = W'.n) (hsub : ∀ a b, hasS (W.to a) b = true → hasS (W'.to a) b = true) : ∀ (f : Nat) (d : S), rest W d ≤ f → cnt W' d ≤ cnt W d := by
  have hr : ∀ d, rest W' d = rest W d := fun d => by unfold rest; rw [hn]
  intro f
  induction f with
  | zero =>
    intro d hf
    by_cases hw : d = wholeS W.n
    · rw [cnt_eq (by omega), cnt_eq (W := W) (by omega), if_pos hw, if_pos (by rw [← hn]; exact hw)]
      exact Int.le_refl _
    · rw [(cnt_bound h12 _ d (Nat.le_refl _)).2.2 hw, (cnt_bound (W := W') (by omega) _ d (Nat.le_refl _)).2.2 (by rw [← hn]; exact hw)]
      have h1 : readyL W' d = [] := List.eq_nil_of_length_eq_zero (by have := readyL_rest W' d; rw [hr] at this; omega)
      rw [h1]
      exact sumC_nonneg h12 d _
  | succ f ih =>
    intro d hf
    by_cases hw : d = wholeS W.n
    · rw [cnt_eq (by omega), cnt_eq (W := W) (by omega), if_pos hw, if_pos (by rw [← hn]; exact hw)]
      exact Int.le_refl _
    · rw [(cnt_bound h12 _ d (Nat.le_refl _)).2.2 hw, (cnt_bound (W := W') (by omega) _ d (Nat.le_refl _)).2.2 (by rw [← hn]; exact hw)]
      unfold sumC readyL
      rw [← hn]
      refine sum_filter_le _ (fun p _ h => readyB_fewer hn hsub h) (fun p hp h => ih _ ?_) (fun p => (cnt_small h12 _).1)
      have hm : p ∈ readyL W d := mem_readyL.2 ⟨List.mem_range.1 hp, readyB_fewer hn hsub h⟩
      have := rest_lt (by omega) hm
      omega
end

theorem cnt_circ {o : Prob} (hc : chk o = 0) (h12 : (webOf o).n ≤ 12) : cnt (webOf o) 0#32 = 0 ↔ circB (webOf o) = true := by
  have hn := webOf_n hc
  constructor
  · intro h
    cases hcb : circB (webOf o)
    · have hg : Goes (webOf o) := goes_of hn (woven_of o) hcb
      have := cnt_pos h12 hg (webOf o).n [] ⟨by simp, by simp, fun i h => by simp at h⟩ (by simp)
      have e : setS [] = 0#32 := rfl
      rw [e, h] at this
      omega
    · rfl
  · intro h
    refine Classical.byContradiction fun hne => ?_
    have h0 := (cnt_small h12 (0#32)).1
    have h1 := (nth_rank h12 (k := 0) (Int.le_refl _) (by omega)).1
    rw [ordered_circ hn (woven_of o) (fun p _ => webOf_irr hc p) h1] at h
    cases h
theorem pairsB_iff {l : List (Int × Int)} {N : Int} {r : Bool} : pairsB l N r = true ↔ (∀ x ∈ l, pairOk N r x = true) ∧ l.Pairwise (fun a b => cmpP a b < 0) := by
  unfold pairsB
  rw [Bool.and_eq_true, List.all_eq_true, risB_pw]
theorem chk_iff {o : Prob} : chk o = 0 ↔ (0 ≤ o.N ∧ o.N ≤ 24) ∧ pairsB o.arcs o.N false = true ∧ pairsB o.near o.N true = true := by
  rw [← chkR_eq]
  unfold chkR
  by_cases h1 : 24 < o.N
  · rw [if_pos h1]
    constructor
    · intro h; cases h
    · intro h; omega
  · rw [if_neg h1]
    by_cases h2 : o.N < 0 ∨ pairsB o.arcs o.N false = false ∨ pairsB o.near o.N true = false
    · rw [if_pos h2]
      constructor
      · intro h; cases h
      · rintro ⟨h3, h4, h5⟩
        rcases h2 with h | h | h
        · omega
        · rw [h4] at h; cases h
        · rw [h5] at h; cases h
    · rw [if_neg h2]
      have h3 : 0 ≤ o.N := by
        refine Classical.byContradiction fun h => h2 (.inl (by omega))
      refine ⟨fun _ => ⟨⟨h3, by omega⟩, ?_, ?_⟩, fun _ => rfl⟩
      · cases h : pairsB o.arcs o.N false
        · exact absurd (.inr (.inl h)) h2
        · rfl
      · cases h : pairsB o.near o.N true
        · exact absurd (.inr (.inr h)) h2
        · rfl
theorem pairsB_uni {A B : List (Int × Int)} {N : Int} {r : Bool} (hA : pairsB A N r = true) (hB : pairsB B N r = true) : pairsB (uniP A B) N r = true := by
  obtain ⟨a1, a2⟩ := pairsB_iff.1 hA
  obtain ⟨b1, b2⟩ := pairsB_iff.1 hB
  obtain ⟨u1, u2⟩ := uniP_union B A a2
  refine pairsB_iff.2 ⟨fun x hx => ?_, u1⟩
  rcases (u2 x).1 hx with h | h
  · exact a1 x h
  · exact b1 x h
theorem join_chk {o p : Prob} (h : (JoinR o p).2 = 0) : chk (JoinR o p).1 = 0 := by
  obtain ⟨h1, h2, h3, h4⟩ := joinR_parts h
  obtain ⟨a1, a2, a3⟩ := chk_iff.1 h1
  obtain ⟨b1, b2, b3⟩ := chk_iff.1 h2
  rw [← h3] at b2 b3
  rw [h4]
  exact chk_iff.2 ⟨a1, pairsB_uni a2 b2, pairsB_uni a3 b3⟩
theorem places_join {o p : Prob} (he : errC o = 0) (h : (JoinR o p).2 = 0) : errC (JoinR o p).1 = 0 ∧ cnt (webOf (JoinR o p).1) 0#32 ≤ cnt (webOf o) 0#32 := by
  have hc := join_chk h
  obtain ⟨h1, h2, h3, h4⟩ := joinR_parts h
  obtain ⟨e1, e2⟩ := errC_ok he
  have hN : (JoinR o p).1.N = o.N := by rw [h4]
  have hnn : (webOf o).n = (webOf (JoinR o p).1).n := by unfold webOf; simp [hN]
  refine ⟨by unfold errC; rw [if_pos hc, if_neg (by omega)], ?_⟩
  refine cnt_fewer e2 hnn (fun a b h => ?_) _ _ (Nat.le_refl _)
  have hu := (uniP_union p.arcs o.arcs (risB_pw.1 (chk_parts h1))).2
  obtain ⟨p1, p2, p3, p4⟩ := pair_of_chk h1
  obtain ⟨q1, q2, q3, q4⟩ := pair_of_chk hc
  obtain ⟨x, hx, e⟩ := (toS_has o.arcs (fun x hx => by have := p3 x hx; omega) a b).1 h
  refine (toS_has (JoinR o p).1.arcs (fun x hx => by have := q3 x hx; omega) a b).2 ⟨x, ?_, e⟩
  rw [h4]
  exact (hu x).2 (.inl hx)
end Go.Proofs.Yteljjkghjbofnaa

/-! Plain law of OrderJoins. -/
set_option maxRecDepth 100000
namespace Go.Proofs.Yteljjkghjbofnaa
open Go Go.Proofs Go.RowKit

theorem uniP_comm {A B : List (Int × Int)} (hA : A.Pairwise (fun a b => cmpP a b < 0)) (hB : B.Pairwise (fun a b => cmpP a b < 0)) : uniP B A = uniP A B := by
  have h1 := uniP_union B A hA
  have h2 := uniP_union A B hB
  exact strict_ext h2.1 h1.1 fun x => by rw [h1.2, h2.2]; exact or_comm
theorem uniP_self {A : List (Int × Int)} (hA : A.Pairwise (fun a b => cmpP a b < 0)) : uniP A A = A :=
  strict_ext (uniP_union A A hA).1 hA fun x => by rw [(uniP_union A A hA).2]; simp
theorem join_comm {o p : Prob} (h : (JoinR o p).2 = 0) : JoinR p o = JoinR o p := by
  obtain ⟨h1, h2, h3, -⟩ := joinR_parts h
  have e1 : ¬ chk o ≠ 0 := fun h => h h1
  have e2 : ¬ chk p ≠ 0 := fun h => h h2
  have e3 : ¬ o.N ≠ p.N := fun h => h h3
  have e4 : ¬ p.N ≠ o.N := fun h => h h3.symm
  simp only [JoinR, if_neg e1, if_neg e2, if_neg e3, if_neg e4]
  rw [uniP_comm (risB_pw.1 (chk_parts h1)) (risB_pw.1 (chk_parts h2)), uniP_comm (risB_pw.1 (chk_near_ris h1)) (risB_pw.1 (chk_near_ris h2)), h3]
theorem join_self {o : Prob} (h1 : chk o = 0) : JoinR o o = (o, 0) := by
  have e1 : ¬ chk o ≠ 0 := fun h => h h1
  have e2 : ¬ o.N ≠ o.N := fun h => h rfl
  simp only [JoinR, if_neg e1, if_neg e2]
  rw [uniP_self (risB_pw.1 (chk_parts h1)), uniP_self (risB_pw.1 (chk_near_ris h1))]

/-! ### Restrict -/
/-- Where n is in a list, counted from i. -/
def idxF (n : Int) : List Int → Nat → Int
  | [], _ => -1
  | x :: t, i => if x = n then (i : Int) else idxF n t (i + 1)
theorem idxF_cases (n : Int) : ∀ (l : List Int) (i : Nat), (n ∉ l ∧ idxF n l i = -1) ∨ ∃ a, ∃ h : a < l.length, l[a] = n ∧ idxF n l i = ((i + a : Nat) : Int)
  | [], i => .inl ⟨by simp, rfl⟩
  | x :: t, i => by
    unfold idxF
    by_cases hx : x = n
    · rw [if_pos hx]
      exact .inr ⟨0, by simp, hx, rfl⟩
    · rw [if_neg hx]
      rcases idxF_cases n t (i + 1) with ⟨h1, h2⟩ | ⟨a, ha, h1, h2⟩
      · refine .inl ⟨?_, h2⟩
        simp only [List.mem_cons, not_or]
        exact ⟨fun h => hx h.symm, h1⟩
      · refine .inr ⟨a + 1, by simp; omega, ?_, ?_⟩
        · rw [List.getElem_cons_succ]; exact h1
        · rw [h2]
          congr 1
          omega
def idxR (keep : List Int) (n : Int) : Int := idxF n keep 0
section
variable {keep : List Int}
theorem idxR_at (hnd : keep.Nodup) {a : Nat} (ha : a < keep.length) : idxR keep keep[a] = a := by
  rcases idxF_cases keep[a] keep 0 with ⟨h1, h2⟩ | ⟨b, hb, h1, h2⟩
  · exact absurd (List.getElem_mem ha) h1
  · have : b = a := (List.getElem_inj hnd).1 h1
    subst this
    show idxF _ _ _ = _
    rw [h2]
    congr 1
    omega
theorem idxR_pos (hnd : keep.Nodup) {n : Int} (h : 0 ≤ idxR keep n) : ∃ a, ∃ h : a < keep.length, keep[a] = n ∧ idxR keep n = a := by
  rcases idxF_cases n keep 0 with ⟨h1, h2⟩ | ⟨b, hb, h1, h2⟩
  · have h3 : idxR keep n = -1 := h2
    omega
  · exact ⟨b, hb, h1, by rw [← h1]; exact idxR_at hnd hb⟩
end
def pick (keep : List Int) (a : Nat) : Nat := (keep.getD a 0).toNat
def resA (W : Web) (keep : List Int) : List (Int × Int) := keptK (fun a b => hasS (W.to (pick keep a)) (pick keep b)) keep.length keep.length
def resN (W : Web) (keep : List Int) : List (Int × Int) := keptK (fun a b => decide (a < b) && hasS (W.near (pick keep a)) (pick keep b)) keep.length keep.length
def RestrictR (o : Prob) (keep : List Int) : Prob × Int :=
  if chk o = 0 then (if eachB (webOf o).n keep = true then (⟨keep.length, resA (webOf o) keep, resN (webOf o) keep⟩, 0) else (⟨0, [], []⟩, 1)) else (⟨0, [], []⟩, chk o)
def stepA (keep : List Int) (out : List (Int × Int)) (x : Int × Int) : List (Int × Int) := if 0 ≤ idxR keep x.1 ∧ 0 ≤ idxR keep x.2 then insP out (idxR keep x.1, idxR keep x.2) else out
def stepN (keep : List Int) (out : List (Int × Int)) (x : Int × Int) : List (Int × Int) := if 0 ≤ idxR keep x.1 ∧ 0 ≤ idxR keep x.2 then insP out (min (idxR keep x.1) (idxR keep x.2), max (idxR keep x.1) (idxR keep x.2)) else out
theorem foldS_facts {step : List (Int × Int) → Int × Int → List (Int × Int)} {P : Int × Int → Prop} {f : Int × Int → Int × Int} (hy : ∀ out x, P x → step out x = insP out (f x)) (hn : ∀ out x, ¬ P x → step out x = out) :
    ∀ (l out : List (Int × Int)), out.Pairwise (fun a b => cmpP a b < 0) → (l.foldl step out).Pairwise (fun a b => cmpP a b < 0) ∧ ∀ y, y ∈ l.foldl step out ↔ y ∈ out ∨ ∃ x ∈ l, P x ∧ y = f x
  | [], out, h => ⟨h, fun y => by simp⟩
  | x :: l, out, h => by
    rw [List.foldl_cons]
    by_cases hp : P x
    · rw [hy out x hp]
      obtain ⟨h1, h2⟩ := foldS_facts hy hn l (insP out (f x)) (insP_lt _ _ h)
      refine ⟨h1, fun y => ?_⟩
      rw [h2, insP_mem]
      constructor
      · rintro ((h | h) | ⟨z, hz, h⟩)
        · exact .inl h
        · exact .inr ⟨x, by simp, hp, h⟩
        · exact .inr ⟨z, List.mem_cons_of_mem _ hz, h⟩
      · rintro (h | ⟨z, hz, h3, h4⟩)
        · exact .inl (.inl h)
        · rcases List.mem_cons.1 hz with rfl | hz
          · exact .inl (.inr h4)
          · exact .inr ⟨z, hz, h3, h4⟩
    · rw [hn out x hp]
      obtain ⟨h1, h2⟩ := foldS_facts hy hn l out h
      refine ⟨h1, fun y => ?_⟩
      rw [h2]
      constructor
      · rintro (h | ⟨z, hz, h⟩)
        · exact .inl h
        · exact .inr ⟨z, List.mem_cons_of_mem _ hz, h⟩
      · rintro (h | ⟨z, hz, h3, h4⟩)
        · exact .inl h
        · rcases List.mem_cons.1 hz with rfl | hz
          · exact absurd h3 hp
          · exact .inr ⟨z, hz, h3, h4⟩
theorem stepA_facts (keep : List Int) (l : List (Int × Int)) : (l.foldl (stepA keep) []).Pairwise (fun a b => cmpP a b < 0) ∧ ∀ y, y ∈ l.foldl (stepA keep) [] ↔ ∃ x ∈ l, (0 ≤ idxR keep x.1 ∧ 0 ≤ idxR keep x.2) ∧ y = (idxR keep x.1, idxR keep x.2) := by
  obtain ⟨h1, h2⟩ := foldS_facts (step := stepA keep) (P := fun x => 0 ≤ idxR keep x.1 ∧ 0 ≤ idxR keep x.2) (f := fun x => (idxR keep x.1, idxR keep x.2)) (fun out x h => if_pos h) (fun out x h => if_neg h) l [] List.Pairwise.nil
  exact ⟨h1, fun y => by rw [h2]; simp⟩
theorem stepN_facts (keep : List Int) (l : List (Int × Int)) : (l.foldl (stepN keep) []).Pairwise (fun a b => cmpP a b < 0) ∧ ∀ y, y ∈ l.foldl (stepN keep) [] ↔ ∃ x ∈ l, (0 ≤ idxR keep x.1 ∧ 0 ≤ idxR keep x.2) ∧ y = (min (idxR keep x.1) (idxR keep x.2), max (idxR keep x.1) (idxR keep x.2)) := by
  obtain ⟨h1, h2⟩ := foldS_facts (step := stepN keep) (P := fun x => 0 ≤ idxR keep x.1 ∧ 0 ≤ idxR keep x.2) (f := fun x => (min (idxR keep x.1) (idxR keep x.2), max (idxR keep x.1) (idxR keep x.2))) (fun out x h => if_pos h) (fun out x h => if_neg h) l [] List.Pairwise.nil
  exact ⟨h1, fun y => by rw [h2]; simp⟩
theorem eachB_iff {n : Nat} {l : List Int} : eachB n l = true ↔ (∀ p ∈ l, 0 ≤ p ∧ p < (n : Int)) ∧ l.Nodup := by
  unfold eachB
  rw [decide_eq_true_eq]
theorem pick_at {keep : List Int} {n : Nat} (hin : ∀ p ∈ keep, 0 ≤ p ∧ p < (n : Int)) {a : Nat} (ha : a < keep.length) : ((pick keep a : Nat) : Int) = keep[a] := by
  unfold pick
  rw [getD_mem ha]
  have := hin _ (List.getElem_mem ha)
  omega
theorem rest_arcs {o : Prob} {keep : List Int} (hc : chk o = 0) (hk : eachB (webOf o).n keep = true) : o.arcs.foldl (stepA keep) [] = resA (webOf o) keep := by
  obtain ⟨hin, hnd⟩ := eachB_iff.1 hk
  obtain ⟨p1, p2, p3, p4⟩ := pair_of_chk hc
  obtain ⟨h1, h2⟩ := stepA_facts keep o.arcs
  refine strict_ext h1 (keptK_ris _ _ _) fun y => ?_
  unfold resA
  rw [h2, mem_keptK]
  have hto := toS_has o.arcs (fun x hx => by have := p3 x hx; omega)
  constructor
  · rintro ⟨x, hx, ⟨ha, hb⟩, rfl⟩
    obtain ⟨a, ha', ea, ia⟩ := idxR_pos hnd ha
    obtain ⟨b, hb', eb, ib⟩ := idxR_pos hnd hb
    have hx3 := p3 x hx
    refine ⟨a, b, ha', hb', ?_, ?_, by rw [ia, ib]⟩
    · rintro rfl
      exact hx3.2.2.2.2 (ea.symm.trans eb)
    · have e1 := pick_at hin ha'
      have e2 := pick_at hin hb'
      exact (hto _ _).2 ⟨x, hx, by omega, by omega⟩
  · rintro ⟨a, b, ha, hb, hab, hw, rfl⟩
    obtain ⟨x, hx, e1, e2⟩ := (hto _ _).1 hw
    have hx3 := p3 x hx
    have f1 := pick_at hin ha
    have f2 := pick_at hin hb
    have g1 : x.1 = keep[a] := by omega
    have g2 : x.2 = keep[b] := by omega
    have i1 := idxR_at hnd ha
    have i2 := idxR_at hnd hb
    refine ⟨x, hx, ?_, ?_⟩
    · rw [g1, g2, i1, i2]; omega
    · rw [g1, g2, i1, i2]
theorem rest_near {o : Prob} {keep : List Int} (hc : chk o = 0) (hk : eachB (webOf o).n keep = true) : o.near.foldl (stepN keep) [] = resN (webOf o) keep := by
  obtain ⟨hin, hnd⟩ := eachB_iff.1 hk
  obtain ⟨p1, p2, p3, p4⟩ := pair_of_chk hc
  obtain ⟨h1, h2⟩ := stepN_facts keep o.near
  refine strict_ext h1 (keptK_ris _ _ _) fun y => ?_
  unfold resN
  rw [h2, mem_keptK]
  have hnr : ∀ a b, hasS ((webOf o).near a) b = true ↔ ∃ x ∈ o.near, (x.1.toNat = a ∧ x.2.toNat = b) ∨ (x.1.toNat = b ∧ x.2.toNat = a) := fun a b => by
    have h := nearS_has o.near (fun _ => 0#32) (fun x hx => by have := p4 x hx; omega) a b
    constructor
    · intro h3
      rcases h.1 h3 with h4 | h4
      · simp [hasS] at h4
      · exact h4
    · intro h3
      exact h.2 (.inr h3)
  constructor
  · rintro ⟨x, hx, ⟨ha, hb⟩, rfl⟩
    obtain ⟨a, ha', ea, ia⟩ := idxR_pos hnd ha
    obtain ⟨b, hb', eb, ib⟩ := idxR_pos hnd hb
    have hx3 := p4 x hx
    have e1 := pick_at hin ha'
    have e2 := pick_at hin hb'
    have hne : a ≠ b := by
      rintro rfl
      omega
    rw [ia, ib]
    by_cases hlt : a < b
    · refine ⟨a, b, ha', hb', hne, ?_, by rw [Int.min_eq_left (by omega), Int.max_eq_right (by omega)]⟩
      rw [decide_eq_true hlt, Bool.true_and]
      exact (hnr _ _).2 ⟨x, hx, .inl ⟨by omega, by omega⟩⟩
    · refine ⟨b, a, hb', ha', fun h => hne h.symm, ?_, by rw [Int.min_eq_right (by omega), Int.max_eq_left (by omega)]⟩
      rw [decide_eq_true (show b < a by omega), Bool.true_and]
      exact (hnr _ _).2 ⟨x, hx, .inr ⟨by omega, by omega⟩⟩
  · rintro ⟨a, b, ha, hb, hab, hw, rfl⟩
    rw [Bool.and_eq_true, decide_eq_true_eq] at hw
    obtain ⟨hlt, hw⟩ := hw
    obtain ⟨x, hx, e⟩ := (hnr _ _).1 hw
    have hx3 := p4 x hx
    have f1 := pick_at hin ha
    have f2 := pick_at hin hb
    have i1 := idxR_at hnd ha
    have i2 := idxR_at hnd hb
    rcases e with ⟨e1, e2⟩ | ⟨e1, e2⟩
    · have g1 : x.1 = keep[a] := by omega
      have g2 : x.2 = keep[b] := by omega
      refine ⟨x, hx, ?_, ?_⟩
      · rw [g1, g2, i1, i2]; omega
      · rw [g1, g2, i1, i2, Int.min_eq_left (by omega), Int.max_eq_right (by omega)]
    · have g1 : x.1 = keep[b] := by omega
      have g2 : x.2 = keep[a] := by omega
      refine ⟨x, hx, ?_, ?_⟩
      · rw [g1, g2, i1, i2]; omega
      · rw [g1, g2, i1, i2, Int.min_eq_right (by omega), Int.max_eq_left (by omega)]
/-- All patches. -/
def allI (n : Nat) : List Int := (List.range n).map fun k : Nat => (k : Int)
theorem allI_len (n : Nat) : (allI n).length = n := by simp [allI]
theorem allI_each (n : Nat) : eachB n (allI n) = true := by
  refine eachB_iff.2 ⟨fun p hp => ?_, ?_⟩
  · unfold allI at hp
    obtain ⟨k, hk, rfl⟩ := List.mem_map.1 hp
    have := List.mem_range.1 hk
    omega
  · unfold allI
    rw [List.nodup_iff_pairwise_ne, List.pairwise_map]
    exact List.Pairwise.imp (fun h => by omega) List.nodup_range
theorem allI_pick {n a : Nat} (ha : a < n) : pick (allI n) a = a := by
  unfold pick
  rw [getD_mem (by rw [allI_len]; exact ha)]
  simp [allI]
theorem rest_all {o : Prob} (hc : chk o = 0) : RestrictR o (allI (webOf o).n) = (o, 0) := by
  unfold RestrictR
  rw [if_pos hc, if_pos (allI_each _)]
  obtain ⟨p1, p2, p3, p4⟩ := pair_of_chk hc
  have hN := webOf_nI hc
  have ea : resA (webOf o) (allI (webOf o).n) = o.arcs := by
    refine strict_ext (keptK_ris _ _ _) (risB_pw.1 (chk_parts hc)) fun y => ?_
    unfold resA
    rw [mem_keptK, allI_len]
    have hto := toS_has o.arcs (fun x hx => by have := p3 x hx; omega)
    constructor
    · rintro ⟨a, b, ha, hb, hab, hw, rfl⟩
      rw [allI_pick ha, allI_pick hb] at hw
      obtain ⟨x, hx, e1, e2⟩ := (hto _ _).1 hw
      have hx3 := p3 x hx
      have : x = ((a : Int), (b : Int)) := Prod.ext (by show x.1 = _; omega) (by show x.2 = _; omega)
      rw [← this]; exact hx
    · intro hy
      have hx3 := p3 y hy
      refine ⟨y.1.toNat, y.2.toNat, by omega, by omega, by omega, ?_, Prod.ext (by show y.1 = _; omega) (by show y.2 = _; omega)⟩
      rw [allI_pick (by omega), allI_pick (by omega)]
      exact (hto _ _).2 ⟨y, hy, rfl, rfl⟩
  have en : resN (webOf o) (allI (webOf o).n) = o.near := by
    refine strict_ext (keptK_ris _ _ _) (risB_pw.1 (chk_near_ris hc)) fun y => ?_
    unfold resN
    rw [mem_keptK, allI_len]
    have hnr : ∀ a b, hasS ((webOf o).near a) b = true ↔ ∃ x ∈ o.near, (x.1.toNat = a ∧ x.2.toNat = b) ∨ (x.1.toNat = b ∧ x.2.toNat = a) := fun a b => by
      have h := nearS_has o.near (fun _ => 0#32) (fun x hx => by have := p4 x hx; omega) a b
      constructor
      · intro h3
        rcases h.1 h3 with h4 | h4
        · simp [hasS] at h4
        · exact h4
      · intro h3
        exact h.2 (.inr h3)
    constructor
    · rintro ⟨a, b, ha, hb, hab, hw, rfl⟩
      rw [allI_pick ha, allI_pick hb, Bool.and_eq_true, decide_eq_true_eq] at hw
      obtain ⟨hlt, hw⟩ := hw
      obtain ⟨x, hx, e⟩ := (hnr _ _).1 hw
      have hx3 := p4 x hx
      rcases e with ⟨e1, e2⟩ | ⟨e1, e2⟩
      · have : x = ((a : Int), (b : Int)) := Prod.ext (by show x.1 = _; omega) (by show x.2 = _; omega)
        rw [← this]; exact hx
      · omega
    · intro hy
      have hx3 := p4 y hy
      refine ⟨y.1.toNat, y.2.toNat, by omega, by omega, by omega, ?_, Prod.ext (by show y.1 = _; omega) (by show y.2 = _; omega)⟩
      rw [allI_pick (by omega), allI_pick (by omega), Bool.and_eq_true, decide_eq_true_eq]
      exact ⟨by omega, (hnr _ _).2 ⟨y, hy, .inl ⟨rfl, rfl⟩⟩⟩
  rw [ea, en, allI_len, hN]
end Go.Proofs.Yteljjkghjbofnaa

/-! Count and Nth of what is not valid, at any length; how many near pairs there may be. -/
set_option maxRecDepth 100000
namespace Go.Proofs.Yteljjkghjbofnaa
open Go Go.Proofs Go.RowKit
attribute [local go_sem] Oper.semAt_some

theorem errC_bad {o : Prob} (h : chk o ≠ 0) : errC o = chk o := by unfold errC; rw [if_neg h]
set_option maxHeartbeats 400000 in
theorem counted_bad_b (o : Prob) (ao bo : Option Addr) (ca cb : Nat) (w : World) (hA : Pairs w ao o.arcs) (hB : Pairs w bo o.near) (hla : o.arcs.length < 9223372036854775808) (hlb : o.near.length < 9223372036854775808) (hv : chk o ≠ 0) :
    Calls Try.prog 111 #[probV o ao ca bo cb] w (Gives (.tuple #[.pointer none, .int .i64 (chk o)]) w) := by
  have HA := Lib.hid hA
  have HB := Lib.hid hB
  have HV := Lib.hid hv
  have hv' : (chk o != 0) = true := by simp [hv]
  clear hA hB hv
  go_enter Try.func111, Try.ntmps111
  go_wp2_with fail
  obtain ⟨w0, e0, hk0, hb0, -⟩ := alloc_prob w o.N o.arcs o.near ao ca bo cb
  rw [e0]
  clear e0
  have HK0 := Lib.hid hk0
  clear hk0 hb0
  refine (open_bad_b o ao bo ca cb w0 (HA.out.kept HK0.out) (HB.out.kept HK0.out) hla hlb HV.out).mono ?_
  rintro e w1 ⟨rfl, hk1⟩
  have HK1 := Lib.hid (HK0.out.trans hk1)
  clear hk1
  go_wp2
  go_ret2
  exact ⟨rfl, HK1.out⟩
set_option maxHeartbeats 400000 in
theorem Count_bad_b (o : Prob) (ao bo : Option Addr) (ca cb : Nat) (w : World) (hA : Pairs w ao o.arcs) (hB : Pairs w bo o.near) (hla : o.arcs.length < 9223372036854775808) (hlb : o.near.length < 9223372036854775808) (hv : chk o ≠ 0) :
    Calls Try.prog 49 #[probV o ao ca bo cb] w (Gives (.tuple #[.int .i64 0, .int .i64 (chk o)]) w) := by
  have HA := Lib.hid hA
  have HB := Lib.hid hB
  have HV := Lib.hid hv
  have hv' : (chk o != 0) = true := by simp [hv]
  clear hA hB hv
  go_enter Try.func49, Try.ntmps49
  go_wp2_with fail
  obtain ⟨w0, e0, hk0, hb0, -⟩ := alloc_prob w o.N o.arcs o.near ao ca bo cb
  rw [e0]
  clear e0
  have HK0 := Lib.hid hk0
  clear hk0 hb0
  refine (counted_bad_b o ao bo ca cb w0 (HA.out.kept HK0.out) (HB.out.kept HK0.out) hla hlb HV.out).mono ?_
  rintro e w1 ⟨rfl, hk1⟩
  have HK1 := Lib.hid (HK0.out.trans hk1)
  clear hk1
  go_wp2
  go_ret2
  exact ⟨rfl, HK1.out⟩
set_option maxHeartbeats 400000 in
theorem Nth_bad_b (o : Prob) (ao bo : Option Addr) (ca cb : Nat) (k : Int) (w : World) (hA : Pairs w ao o.arcs) (hB : Pairs w bo o.near) (hla : o.arcs.length < 9223372036854775808) (hlb : o.near.length < 9223372036854775808) (hv : chk o ≠ 0) :
    Calls Try.prog 53 #[probV o ao ca bo cb, .int .i64 k] w (ListErr [] (chk o) w) := by
  have HA := Lib.hid hA
  have HB := Lib.hid hB
  have HV := Lib.hid hv
  have hb : (chk o != 0) = true := by simp [hv]
  clear hA hB hv
  refine calls_of_wp_marks Try.func53 rfl ?_
  simp only [Try.ntmps53, List.size_toArray, List.length_cons, List.length_nil, Nat.reduceAdd, Nat.reduceSub, Array.replicate_succ, Array.replicate_zero, List.push_toArray, List.append_toArray, List.nil_append, List.cons_append]
  go_wp2_with fail
  obtain ⟨w0, e0, hk0, -, -⟩ := alloc_prob w o.N o.arcs o.near ao ca bo cb
  rw [e0]
  clear e0
  have HK1 := Lib.hid (hk0.alloc (.cells #[.int .i64 k] 3))
  clear hk0
  generalize (w0.alloc (.cells #[.int .i64 k] 3)) = w1 at *
  refine (counted_bad_b o ao bo ca cb w1 (HA.out.kept HK1.out) (HB.out.kept HK1.out) hla hlb HV.out).mono ?_
  rintro e w2 ⟨rfl, hk2⟩
  have HK2 := Lib.hid (HK1.out.trans hk2)
  clear hk2
  go_wp2
  refine leaves_marks (B := w.heap.size) [] _ (fun D hD => by cases hD) List.nodup_nil (fun w' hs => ⟨_, results_tmp2 rfl _ _ _, ?_⟩)
  exact ⟨_, rfl, NewI.nil _ _, hs.kept HK2.out (Nat.le_refl _)⟩

theorem near_len' {o : Prob} (hc : chk o = 0) : o.near.length ≤ 276 := by
  obtain ⟨h0, h24, _, hp⟩ := pair_of_chk hc
  have hsub : o.near ⊆ (List.range 24).flatMap (fun a => (List.range (24 - (a + 1))).map fun b => (((a : Nat) : Int), ((a + 1 + b : Nat) : Int))) := fun x hx => by
    have := hp x hx
    refine List.mem_flatMap.2 ⟨x.1.toNat, List.mem_range.2 (by omega), List.mem_map.2 ⟨x.2.toNat - (x.1.toNat + 1), List.mem_range.2 (by omega), ?_⟩⟩
    refine Prod.ext ?_ ?_
    · show ((x.1.toNat : Nat) : Int) = x.1
      omega
    · show ((x.1.toNat + 1 + (x.2.toNat - (x.1.toNat + 1)) : Nat) : Int) = x.2
      omega
  have := List.Nodup.length_le_of_subset (ris_nodup (chk_near_ris hc)) hsub
  have e : ((List.range 24).flatMap (fun a => (List.range (24 - (a + 1))).map fun b => (((a : Nat) : Int), ((a + 1 + b : Nat) : Int)))).length = 276 := by decide +kernel
  omega
theorem chk_slim {o : Prob} (hc : chk o = 0) : slimB o = true := by
  have h1 := arcs_len hc
  have h2 := near_len' hc
  unfold slimB
  simp
  omega
end Go.Proofs.Yteljjkghjbofnaa
