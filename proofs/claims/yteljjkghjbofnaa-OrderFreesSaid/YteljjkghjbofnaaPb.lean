/- Plain law of OrderFrees, 2: broad is the size of the greatest sets of free patches; Free is the first of them. -/
import Derived.Test.YteljjkghjbofnaaPa
import Derived.Test.YteljjkghjbofnaaWa
set_option maxRecDepth 100000
namespace Go.Proofs.Yteljjkghjbofnaa
open Go Go.Proofs Go.RowKit

/-! ### Counting -/
def cntP (n : Nat) (f : Nat → Bool) : Nat := ((List.range n).filter f).length
theorem cntL_split (l : List Nat) (f g : Nat → Bool) : (l.filter f).length = (l.filter fun x => f x && g x).length + (l.filter fun x => f x && !g x).length := by
  induction l with
  | nil => rfl
  | cons x l ih =>
    simp only [List.filter_cons]
    cases hf : f x <;> cases hg : g x <;> simp <;> omega
theorem cntP_split (n : Nat) (f g : Nat → Bool) : cntP n f = cntP n (fun x => f x && g x) + cntP n (fun x => f x && !g x) := cntL_split _ f g
theorem cntP_inj {n : Nat} {f g : Nat → Bool} (h : Nat → Nat) (h1 : ∀ x, x < n → f x = true → h x < n ∧ g (h x) = true) (h2 : ∀ x y, x < n → y < n → f x = true → f y = true → h x = h y → x = y) : cntP n f ≤ cntP n g := by
  have hp : ((List.range n).filter f).Pairwise (· < ·) := List.Pairwise.filter _ List.pairwise_lt_range
  have hd : (((List.range n).filter f).map h).Nodup := by
    unfold List.Nodup
    rw [List.pairwise_map]
    refine List.Pairwise.imp_of_mem (fun {a b} ha hb hlt e => ?_) hp
    have ha' := List.mem_filter.1 ha
    have hb' := List.mem_filter.1 hb
    have := h2 a b (List.mem_range.1 ha'.1) (List.mem_range.1 hb'.1) ha'.2 hb'.2 e
    omega
  have := List.Nodup.length_le_of_subset hd (l₂ := (List.range n).filter g) (fun y hy => by
    obtain ⟨x, hx, rfl⟩ := List.mem_map.1 hy
    have hx' := List.mem_filter.1 hx
    obtain ⟨a, b⟩ := h1 x (List.mem_range.1 hx'.1) hx'.2
    exact List.mem_filter.2 ⟨List.mem_range.2 a, b⟩)
  unfold cntP
  rw [List.length_map] at this
  exact this
theorem cntP_mono {n : Nat} {f g : Nat → Bool} (h : ∀ x, x < n → f x = true → g x = true) : cntP n f ≤ cntP n g :=
  cntP_inj (fun x => x) (fun x hx hf => ⟨hx, h x hx hf⟩) (fun _ _ _ _ _ _ e => e)
theorem cntP_lt {n : Nat} {f g : Nat → Bool} (h : ∀ x, x < n → f x = true → g x = true) {y : Nat} (hy : y < n) (h1 : f y = false) (h2 : g y = true) : cntP n f < cntP n g :=
  filter_length_lt (fun x hx => h x (List.mem_range.1 hx)) (List.mem_range.2 hy) h1 h2
theorem cntP_le (n : Nat) (f : Nat → Bool) : cntP n f ≤ n := by
  have := List.length_filter_le f (List.range n)
  rw [List.length_range] at this
  exact this
theorem cntP_cut {n k : Nat} {f : Nat → Bool} (h : ∀ x, f x = true → x < n) (hk : n ≤ k) : cntP k f = cntP n f := by
  unfold cntP
  congr 1
  refine sorted_ext (List.Pairwise.filter _ List.pairwise_lt_range) (List.Pairwise.filter _ List.pairwise_lt_range) fun x => ?_
  rw [List.mem_filter, List.mem_filter, List.mem_range, List.mem_range]
  exact ⟨fun ⟨_, b⟩ => ⟨h x b, b⟩, fun ⟨a, b⟩ => ⟨by omega, b⟩⟩

section
variable {W : Web} {sm : S}

/-! ### Free patches -/
/-- Nothing leads from one to another. -/
def okA (W : Web) (t : List Nat) : Bool := t.all fun x => t.all fun y => !hasS (W.reach x) y
theorem okA_iff {t : List Nat} : okA W t = true ↔ ∀ x ∈ t, ∀ y ∈ t, hasS (W.reach x) y = false := by
  unfold okA
  simp only [List.all_eq_true, Bool.not_eq_true']
structure Anti (W : Web) (X : Nat → Bool) (t : List Nat) : Prop where
  cm : Comb W.n 0 t.length t
  ok : okA W t = true
  inn : ∀ x ∈ t, X x = true
structure MaxP (W : Web) (X : Nat → Bool) (c : Nat) : Prop where
  ex : ∃ t, Anti W X t ∧ t.length = c
  le : ∀ t, Anti W X t → t.length ≤ c
structure GreatP (W : Web) (X : Nat → Bool) (c : Nat) (t : List Nat) : Prop where
  an : Anti W X t
  len : t.length = c
  le : ∀ t', Anti W X t' → t'.length ≤ c
  first : ∀ t', Anti W X t' → t'.length = c → lessB t' t = false
theorem GreatP.eq {X : Nat → Bool} {c c' : Nat} {t t' : List Nat} (h : GreatP W X c t) (h' : GreatP W X c' t') : t = t' := by
  have h1 := h.le t' h'.an
  have h2 := h'.le t h.an
  have e1 := h.len
  have e2 := h'.len
  exact lessB_tri (by omega) (h'.first t h.an (by omega)) (h.first t' h'.an (by omega))

/-! ### The ends of the chains -/
def gN (st : MS) (x : Nat) : Nat := if 0 ≤ nx st x then (nx st x).toNat else x
def itN (st : MS) : Nat → Nat → Nat
  | 0, x => x
  | k + 1, x => itN st k (gN st x)
theorem itN_succ (st : MS) : ∀ (k x : Nat), itN st (k + 1) x = gN st (itN st k x)
  | 0, _ => rfl
  | k + 1, x => itN_succ st k (gN st x)
theorem gN_end {st : MS} {x : Nat} (h : nx st x < 0) : gN st x = x := by unfold gN; rw [if_neg (by omega)]
theorem itN_end {st : MS} {x : Nat} (h : nx st x < 0) : ∀ k, itN st k x = x
  | 0 => rfl
  | k + 1 => by show itN st k (gN st x) = x; rw [gN_end h]; exact itN_end h k
theorem gN_in (hn : W.n ≤ 24) {st : MS} (hf : FitM W sm st) {x : Nat} (hx : x < W.n) (h : 0 ≤ nx st x) : gN st x < W.n ∧ nx st x = (gN st x : Int) ∧ hasS sm (gN st x) = true ∧ hasS (W.reach x) (gN st x) = true := by
  have hb := nx_bound hf.ok (p := x) (by omega)
  unfold gN
  rw [if_pos h]
  have e : nx st x = ((nx st x).toNat : Int) := by omega
  obtain ⟨a, b, c⟩ := hf.ed x (nx st x).toNat hx (by omega) e
  exact ⟨by omega, e, b, c⟩
theorem gN_st (hn : W.n ≤ 24) {st : MS} (hf : FitM W sm st) {x : Nat} (hx : x < W.n) (hs : hasS sm x = true) : gN st x < W.n ∧ hasS sm (gN st x) = true := by
  by_cases h : 0 ≤ nx st x
  · obtain ⟨a, -, b, -⟩ := gN_in hn hf hx h; exact ⟨a, b⟩
  · rw [gN_end (by omega)]; exact ⟨hx, hs⟩
theorem itN_st (hn : W.n ≤ 24) {st : MS} (hf : FitM W sm st) : ∀ (k : Nat) {x : Nat}, x < W.n → hasS sm x = true → itN st k x < W.n ∧ hasS sm (itN st k x) = true
  | 0, _, hx, hs => ⟨hx, hs⟩
  | k + 1, _, hx, hs => itN_st hn hf k (gN_st hn hf hx hs).1 (gN_st hn hf hx hs).2
theorem itN_reach (hn : W.n ≤ 24) (hw : Woven W) {st : MS} (hf : FitM W sm st) {x : Nat} (hx : x < W.n) (hs : hasS sm x = true) : ∀ k, itN st k x = x ∨ hasS (W.reach x) (itN st k x) = true
  | 0 => .inl rfl
  | k + 1 => by
    rw [itN_succ]
    have h1 := itN_reach hn hw hf hx hs k
    have h2 := itN_st hn hf k hx hs
    by_cases h : 0 ≤ nx st (itN st k x)
    · obtain ⟨a, -, -, b⟩ := gN_in hn hf h2.1 h
      rcases h1 with h1 | h1
      · rw [h1] at b ⊢; exact .inr b
      · exact .inr (hw.trans _ _ _ hx h2.1 h1 b)
    · rw [gN_end (by omega)]; exact h1
theorem itN_term (hn : W.n ≤ 24) (hw : Woven W) (hc : circB W = false) {st : MS} (hf : FitM W sm st) : ∀ (k : Nat) {x : Nat}, x < W.n → cntP W.n (fun y => hasS (W.reach x) y) ≤ k → nx st (itN st k x) < 0 := by
  have dn : ∀ {x : Nat}, x < W.n → 0 ≤ nx st x → cntP W.n (fun y => hasS (W.reach (gN st x)) y) < cntP W.n (fun y => hasS (W.reach x) y) := fun {x} hx h => by
    obtain ⟨a, -, -, b⟩ := gN_in hn hf hx h
    exact cntP_lt (fun y hy h2 => hw.trans _ _ _ hx a b h2) a (circB_false hc _ a) b
  intro k
  induction k with
  | zero =>
    intro x hx h
    by_cases h0 : 0 ≤ nx st x
    · have := dn hx h0; omega
    · show nx st x < 0; omega
  | succ k ih =>
    intro x hx h
    by_cases h0 : 0 ≤ nx st x
    · have h1 := dn hx h0
      exact ih (gN_in hn hf hx h0).1 (by omega)
    · rw [itN_end (by omega)]; omega
theorem itN_back (hn : W.n ≤ 24) {st : MS} (hf : FitM W sm st) {x y : Nat} (hx : x < W.n) (hs : hasS sm x = true) (hy : y < W.n) : ∀ c, gN st y = itN st c x → (∃ c', y = itN st c' x) ∨ ∃ c', x = itN st c' y
  | 0, e => .inr ⟨1, e.symm⟩
  | c + 1, e => by
    rw [itN_succ] at e
    have hz := itN_st hn hf c hx hs
    by_cases h1 : 0 ≤ nx st y
    · by_cases h2 : 0 ≤ nx st (itN st c x)
      · obtain ⟨a, b, -, -⟩ := gN_in hn hf hy h1
        obtain ⟨a', b', -, -⟩ := gN_in hn hf hz.1 h2
        rw [← e] at b'
        have f1 := (hf.fit y (gN st y) hy a).1 b
        have f2 := (hf.fit (itN st c x) (gN st y) hz.1 a).1 b'
        exact .inl ⟨c, by omega⟩
      · rw [gN_end (x := itN st c x) (by omega)] at e
        exact itN_back hn hf hx hs hy c e
    · rw [gN_end (x := y) (by omega)] at e
      exact .inl ⟨c + 1, by rw [itN_succ]; exact e⟩
theorem itN_orb (hn : W.n ≤ 24) {st : MS} (hf : FitM W sm st) : ∀ (a : Nat) {x y : Nat}, x < W.n → hasS sm x = true → y < W.n → hasS sm y = true → itN st a x = itN st a y → (∃ c, y = itN st c x) ∨ ∃ c, x = itN st c y
  | 0, _, _, _, _, _, _, e => .inl ⟨0, e.symm⟩
  | a + 1, x, y, hx, hsx, hy, hsy, e => by
    rcases itN_orb hn hf a (gN_st hn hf hx hsx).1 (gN_st hn hf hx hsx).2 (gN_st hn hf hy hsy).1 (gN_st hn hf hy hsy).2 e with ⟨c, h⟩ | ⟨c, h⟩
    · exact itN_back hn hf hx hsx hy (c + 1) h
    · exact (itN_back hn hf hy hsy hx (c + 1) h).symm

theorem anti_le (hn : W.n ≤ 24) (hw : Woven W) (hc : circB W = false) {st : MS} (hf : FitM W sm st) {t : List Nat} (ht : Anti W (hasS sm) t) : t.length ≤ cntP W.n (fun x => hasS sm x && !decide (0 ≤ nx st x)) := by
  have hd : (t.map (itN st W.n)).Nodup := by
    unfold List.Nodup
    rw [List.pairwise_map]
    refine List.Pairwise.imp_of_mem (fun {a b} ha hb hlt e => ?_) ht.cm.ris
    have hk := okA_iff.1 ht.ok
    rcases itN_orb hn hf W.n (ht.cm.hi a ha) (ht.inn a ha) (ht.cm.hi b hb) (ht.inn b hb) e with ⟨c, h⟩ | ⟨c, h⟩
    · rcases itN_reach hn hw hf (ht.cm.hi a ha) (ht.inn a ha) c with h2 | h2
      · omega
      · rw [← h, hk a ha b hb] at h2; cases h2
    · rcases itN_reach hn hw hf (ht.cm.hi b hb) (ht.inn b hb) c with h2 | h2
      · omega
      · rw [← h, hk b hb a ha] at h2; cases h2
  have := List.Nodup.length_le_of_subset hd (l₂ := (List.range W.n).filter (fun x => hasS sm x && !decide (0 ≤ nx st x))) (fun y hy => by
    obtain ⟨x, hx, rfl⟩ := List.mem_map.1 hy
    obtain ⟨a, b⟩ := itN_st hn hf W.n (ht.cm.hi x hx) (ht.inn x hx)
    have h := itN_term hn hw hc hf W.n (ht.cm.hi x hx) (cntP_le _ _)
    refine List.mem_filter.2 ⟨List.mem_range.2 a, ?_⟩
    rw [b]
    simp
    omega)
  rw [List.length_map] at this
  exact this

theorem anti_ex {st : MS} (hf : FitM W sm st) {L R : Nat → Bool} (hb : Bl W sm st L R) (hd : ∀ p, p < W.n → hasS sm p = true → 0 ≤ nx st p ∨ L p = true) : ∃ t, Anti W (hasS sm) t ∧ cntP W.n (fun x => hasS sm x && !decide (0 ≤ nx st x)) ≤ t.length := by
  refine ⟨(List.range W.n).filter fun x => hasS sm x && (L x && !R x), ⟨⟨rfl, List.Pairwise.filter _ List.pairwise_lt_range, fun _ _ => Nat.zero_le _, fun x hx => List.mem_range.1 (List.mem_filter.1 hx).1⟩, okA_iff.2 fun x hx y hy => ?_, fun x hx => ?_⟩, ?_⟩
  · have hx' := List.mem_filter.1 hx
    have hy' := List.mem_filter.1 hy
    simp only [Bool.and_eq_true, Bool.not_eq_true'] at hx' hy'
    cases h : hasS (W.reach x) y
    · rfl
    · have := (hb.cl x hx'.2.2.1).2.2 y (List.mem_range.1 hy'.1) hy'.2.1 h
      rw [hy'.2.2.2] at this
      cases this
  · have hx' := List.mem_filter.1 hx
    simp only [Bool.and_eq_true] at hx'
    exact hx'.2.1
  · show _ ≤ cntP W.n (fun x => hasS sm x && (L x && !R x))
    have e1 := cntP_split W.n (hasS sm) (fun x => decide (0 ≤ nx st x))
    have e2 := cntP_split W.n (hasS sm) (fun x => L x && !R x)
    have e3 := cntP_split W.n (fun x => hasS sm x && !(L x && !R x)) L
    have e4 := cntP_split W.n (fun x => hasS sm x && decide (0 ≤ nx st x)) L
    have e5 : cntP W.n (fun x => (hasS sm x && !(L x && !R x)) && L x) ≤ cntP W.n (fun x => (hasS sm x && decide (0 ≤ nx st x)) && L x) := by
      refine cntP_inj (fun q => (bf st q).toNat) (fun q hq h => ?_) (fun x y hx hy h h2 e => ?_)
      · simp only [Bool.and_eq_true, Bool.not_eq_true', Bool.and_eq_false_iff, Bool.not_eq_false'] at h
        obtain ⟨⟨h1, h2⟩, h3⟩ := h
        have hR : R q = true := by
          rcases h2 with h2 | h2
          · rw [h3] at h2; cases h2
          · exact h2
        obtain ⟨-, -, r, h4, h5⟩ := hb.mt q hR
        obtain ⟨g1, g2, -⟩ := hb.cl r h5
        have h6 := (hf.fit r q g1 hq).2 h4
        show (bf st q).toNat < W.n ∧ ((hasS sm (bf st q).toNat && decide (0 ≤ nx st (bf st q).toNat)) && L (bf st q).toNat) = true
        rw [show (bf st q).toNat = r by omega, g2, h5]
        exact ⟨g1, by simp [h6]⟩
      · simp only [Bool.and_eq_true, Bool.not_eq_true', Bool.and_eq_false_iff, Bool.not_eq_false'] at h h2
        have hRx : R x = true := by
          rcases h.1.2 with h3 | h3
          · rw [h.2] at h3; cases h3
          · exact h3
        have hRy : R y = true := by
          rcases h2.1.2 with h3 | h3
          · rw [h2.2] at h3; cases h3
          · exact h3
        obtain ⟨-, -, r, h4, h5⟩ := hb.mt x hRx
        obtain ⟨-, -, r', h4', h5'⟩ := hb.mt y hRy
        have e' : r = r' := by
          have e2 : (bf st x).toNat = (bf st y).toNat := e
          omega
        have f1 := (hf.fit r x (hb.cl r h5).1 hx).2 h4
        have f2 := (hf.fit r' y (hb.cl r' h5').1 hy).2 h4'
        rw [← e'] at f2
        omega
    have e6 : cntP W.n (fun x => (hasS sm x && !(L x && !R x)) && !L x) ≤ cntP W.n (fun x => (hasS sm x && decide (0 ≤ nx st x)) && !L x) := by
      refine cntP_mono fun x hx h => ?_
      simp only [Bool.and_eq_true, Bool.not_eq_true'] at h
      rcases hd x hx h.1.1 with h2 | h2
      · simp only [Bool.and_eq_true, Bool.not_eq_true', decide_eq_true_eq]
        exact ⟨⟨h.1.1, h2⟩, h.2⟩
      · rw [h.2] at h2; cases h2
    omega

theorem broad_fold (next : List Int) : ∀ (k : Nat) (m : Int), (List.range k).foldl (broadStep sm next) m = m - (cntP k (fun p => hasS sm p && decide (0 ≤ next.getD p 0)) : Int)
  | 0, m => by simp [cntP]
  | k + 1, m => by
    rw [List.range_succ, List.foldl_append, broad_fold next k]
    unfold cntP
    rw [List.range_succ, List.filter_append]
    simp only [List.foldl_cons, List.foldl_nil, List.filter_cons, List.filter_nil]
    unfold broadStep
    by_cases h : hasS sm k = true ∧ 0 ≤ next.getD k 0
    · rw [if_pos h, if_pos (by simp only [Bool.and_eq_true, decide_eq_true_eq]; exact h)]
      simp
      omega
    · rw [if_neg h, if_neg (by simp only [Bool.and_eq_true, decide_eq_true_eq]; exact h)]
      simp
theorem broad_max (hn : W.n ≤ 24) (hw : Woven W) (hc : circB W = false) (hs : ∀ x, hasS sm x = true → x < W.n) : ∃ c : Nat, broadI W sm = (c : Int) ∧ MaxP W (hasS sm) c := by
  obtain ⟨hf, -, L, R, hb, hd⟩ := matchSt_inv (W := W) (sm := sm) hn W.n (Nat.le_refl _)
  refine ⟨cntP W.n (fun x => hasS sm x && !decide (0 ≤ nx (matchSt W sm W.n) x)), ?_, ?_, fun t ht => anti_le hn hw hc hf ht⟩
  · unfold broadI
    rw [broad_fold]
    have e1 : popS sm = cntP W.n (hasS sm) := cntP_cut hs (by omega)
    have e2 : cntP 24 (fun p => hasS sm p && decide (0 ≤ (matchedL W sm).getD p 0)) = cntP W.n (fun x => hasS sm x && decide (0 ≤ nx (matchSt W sm W.n) x)) :=
      cntP_cut (fun x h => hs x (by simp only [Bool.and_eq_true] at h; exact h.1)) hn
    have e3 := cntP_split W.n (hasS sm) (fun x => decide (0 ≤ nx (matchSt W sm W.n) x))
    rw [e1, e2]
    omega
  · obtain ⟨t, h1, h2⟩ := anti_ex hf hb hd
    exact ⟨t, h1, Nat.le_antisymm (anti_le hn hw hc hf h1) h2⟩

/-! ### Free -/
theorem has_freePart {p : Nat} : ∀ (k : Nat), k ≤ 24 → ∀ q, hasS (freePart W sm p k) q = (decide (q < k) && freeB W sm p q)
  | 0, _, q => by simp [freePart]
  | k + 1, hk, q => by
    rw [freePart_succ]
    have h := has_freePart (p := p) k (by omega) q
    by_cases hf : freeB W sm p k = true
    · rw [if_pos hf, hasS_or, h, hasS_one k q (by omega)]
      by_cases e : q = k
      · subst e; simp [hf]
      · have e2 : decide (q < k + 1) = decide (q < k) := by simp; omega
        rw [e2]; simp [e]
    · rw [if_neg hf, h]
      by_cases e : q = k
      · subst e; simp [hf]
      · have e2 : decide (q < k + 1) = decide (q < k) := by simp; omega
        rw [e2]
theorem has_above {p x : Nat} (hp : p < 24) : hasS (aboveS sm p) x = (hasS sm x && decide (p < x)) := by
  unfold aboveS
  rw [hasS_and]
  have h : hasS (oneS (p + 1) - 1#32) x = decide (x < p + 1) := hasS_whole (n := p + 1) (by omega)
  by_cases hx : x < 32
  · have e : hasS (~~~(oneS (p + 1) - 1#32)) x = !hasS (oneS (p + 1) - 1#32) x := by
      unfold hasS
      rw [BitVec.getLsbD_not]
      simp [hx]
    rw [e, h]
    congr 1
    by_cases h2 : x < p + 1
    · simp [h2]; omega
    · simp [h2]; omega
  · rw [hasS_ge (a := sm) (by omega)]
    simp

/-- After k patches. -/
theorem free_inv (hn : W.n ≤ 24) (hw : Woven W) (hc : circB W = false) : ∃ c0, ∀ k, k ≤ W.n → ∃ (o : List Nat) (s : S) (c : Nat), freePt W k = (o.map fun i : Nat => (i : Int), s, (c : Int)) ∧ (∀ x, hasS s x = true → x < W.n) ∧
    MaxP W (fun x => hasS s x && decide (k ≤ x)) c ∧ ∀ t, GreatP W (fun x => hasS s x && decide (k ≤ x)) c t → GreatP W (fun x => decide (x < W.n)) c0 (o ++ t) := by
  have hwh : ∀ x, hasS (wholeS W.n) x = decide (x < W.n) := fun x => hasS_whole (by omega)
  obtain ⟨c0, hc0, hm0⟩ := broad_max hn hw hc (sm := wholeS W.n) (fun x h => by rw [hwh] at h; simpa using h)
  refine ⟨c0, fun k => ?_⟩
  induction k with
  | zero =>
    intro _
    have e : (fun x => hasS (wholeS W.n) x && decide (0 ≤ x)) = fun x => decide (x < W.n) := by funext x; rw [hwh]; simp
    have e' : hasS (wholeS W.n) = fun x => decide (x < W.n) := by funext x; exact hwh x
    refine ⟨[], wholeS W.n, c0, ?_, fun x h => by rw [hwh] at h; simpa using h, ?_, fun t ht => ?_⟩
    · show ([], wholeS W.n, broadI W (wholeS W.n)) = _
      rw [hc0]
      rfl
    · rw [e, ← e']; exact hm0
    · rw [e] at ht; exact ht
  | succ k ih =>
    intro hk
    obtain ⟨o, s, c, h1, h2, h3, h4⟩ := ih (by omega)
    rw [freePt_succ, h1]
    unfold freeStep
    simp only []
    -- where k is not chosen
    have stay : (∀ t, Anti W (fun x => hasS s x && decide (k ≤ x)) t → t.length = c → k ∉ t) →
        MaxP W (fun x => hasS s x && decide (k + 1 ≤ x)) c ∧ ∀ t, GreatP W (fun x => hasS s x && decide (k + 1 ≤ x)) c t → GreatP W (fun x => decide (x < W.n)) c0 (o ++ t) := by
      intro hno
      have up : ∀ t, Anti W (fun x => hasS s x && decide (k + 1 ≤ x)) t → Anti W (fun x => hasS s x && decide (k ≤ x)) t := fun t ht => ⟨ht.cm, ht.ok, fun x hx => by
        have := ht.inn x hx
        simp only [Bool.and_eq_true, decide_eq_true_eq] at this ⊢
        exact ⟨this.1, by omega⟩⟩
      have dn : ∀ t, Anti W (fun x => hasS s x && decide (k ≤ x)) t → t.length = c → Anti W (fun x => hasS s x && decide (k + 1 ≤ x)) t := fun t ht hl => ⟨ht.cm, ht.ok, fun x hx => by
        have := ht.inn x hx
        simp only [Bool.and_eq_true, decide_eq_true_eq] at this ⊢
        refine ⟨this.1, ?_⟩
        have hne : x ≠ k := fun e => hno t ht hl (by rw [← e]; exact hx)
        omega⟩
      obtain ⟨t0, ht0, hl0⟩ := h3.ex
      refine ⟨⟨⟨t0, dn t0 ht0 hl0, hl0⟩, fun t ht => h3.le t (up t ht)⟩, fun t ht => h4 t ⟨up t ht.an, ht.len, fun t' ht' => h3.le t' ht', fun t' ht' hl' => ht.first t' (dn t' ht' hl') hl'⟩⟩
    by_cases hA : hasS s k = false ∨ (c : Int) = 0
    · rw [if_pos hA]
      refine ⟨o, s, c, rfl, h2, stay fun t ht hl hkt => ?_⟩
      rcases hA with hA | hA
      · have := ht.inn k hkt
        simp only [Bool.and_eq_true] at this
        rw [hA] at this
        cases this.1
      · have : t = [] := List.eq_nil_of_length_eq_zero (by omega)
        rw [this] at hkt
        cases hkt
    · rw [if_neg hA]
      have hsk : hasS s k = true := by
        cases h : hasS s k
        · exact absurd (.inl h) hA
        · rfl
      have hc1 : 1 ≤ c := by
        rcases Nat.eq_zero_or_pos c with h | h
        · exact absurd (.inr (by omega)) hA
        · exact h
      have hr : ∀ q, hasS (freeS W (aboveS s k) k) q = true ↔ (q < W.n ∧ hasS s q = true ∧ k < q ∧ hasS (W.reach k) q = false ∧ hasS (W.reach q) k = false) := fun q => by
        unfold freeS
        rw [has_freePart W.n hn q]
        unfold freeB
        rw [has_above (by omega)]
        simp only [Bool.and_eq_true, decide_eq_true_eq, Bool.not_eq_true']
        constructor
        · rintro ⟨a, ⟨⟨⟨b, b'⟩, d⟩, e⟩, f⟩; exact ⟨a, b, b', e, f⟩
        · rintro ⟨a, b, b', e, f⟩; exact ⟨a, ⟨⟨⟨b, b'⟩, by omega⟩, e⟩, f⟩
      obtain ⟨cr, hcr, hmr⟩ := broad_max hn hw hc (sm := freeS W (aboveS s k) k) (fun x h => ((hr x).1 h).1)
      -- the sets that begin with k
      have hcons : ∀ t, Anti W (hasS (freeS W (aboveS s k) k)) t → Anti W (fun x => hasS s x && decide (k ≤ x)) (k :: t) := fun t ht => by
        refine ⟨?_, ?_, ?_⟩
        · refine Comb.cons (k := t.length) ⟨rfl, ht.cm.ris, fun x hx => ?_, ht.cm.hi⟩ (Nat.zero_le _) (by omega)
          have := (hr x).1 (ht.inn x hx)
          omega
        · refine okA_iff.2 fun x hx y hy => ?_
          have hk0 := circB_false hc k (by omega)
          rcases List.mem_cons.1 hx with ex | hx2 <;> rcases List.mem_cons.1 hy with ey | hy2
          · rw [ex, ey]; exact hk0
          · rw [ex]; exact ((hr y).1 (ht.inn y hy2)).2.2.2.1
          · rw [ey]; exact ((hr x).1 (ht.inn x hx2)).2.2.2.2
          · exact okA_iff.1 ht.ok x hx2 y hy2
        · intro x hx
          simp only [Bool.and_eq_true, decide_eq_true_eq]
          rcases List.mem_cons.1 hx with rfl | hx
          · exact ⟨hsk, Nat.le_refl _⟩
          · have := (hr x).1 (ht.inn x hx)
            exact ⟨this.2.1, by omega⟩
      have htail : ∀ t, Anti W (fun x => hasS s x && decide (k ≤ x)) (k :: t) → Anti W (hasS (freeS W (aboveS s k) k)) t := fun t ht => by
        have hcm := Comb.tail (k := t.length) ht.cm
        have hok := okA_iff.1 ht.ok
        refine ⟨⟨rfl, hcm.1.ris, fun _ _ => Nat.zero_le _, hcm.1.hi⟩, okA_iff.2 fun x hx y hy => hok x (List.mem_cons_of_mem _ hx) y (List.mem_cons_of_mem _ hy), fun x hx => (hr x).2 ?_⟩
        have hi := ht.inn x (List.mem_cons_of_mem _ hx)
        simp only [Bool.and_eq_true] at hi
        exact ⟨hcm.1.hi x hx, hi.1, hcm.1.lo x hx, hok k (List.mem_cons_self ..) x (List.mem_cons_of_mem _ hx), hok x (List.mem_cons_of_mem _ hx) k (List.mem_cons_self ..)⟩
      have hhead : ∀ t, Anti W (fun x => hasS s x && decide (k ≤ x)) t → k ∈ t → ∃ t', t = k :: t' := fun t ht hkt => by
        cases t with
        | nil => cases hkt
        | cons x t' =>
          rcases List.mem_cons.1 hkt with h | h
          · exact ⟨t', by rw [h]⟩
          · have h1 := (List.pairwise_cons.1 ht.cm.ris).1 k h
            have h2 := ht.inn x (List.mem_cons_self ..)
            simp only [Bool.and_eq_true, decide_eq_true_eq] at h2
            omega
      rw [hcr]
      by_cases hB : (cr : Int) = (c : Int) - 1
      · rw [if_pos hB]
        have hcc : c = cr + 1 := by omega
        have eX : (fun x => hasS (freeS W (aboveS s k) k) x && decide (k + 1 ≤ x)) = hasS (freeS W (aboveS s k) k) := by
          funext x
          cases h : hasS (freeS W (aboveS s k) k) x
          · rfl
          · have := ((hr x).1 h).2.2.1
            simp
            omega
        refine ⟨o ++ [k], freeS W (aboveS s k) k, cr, ?_, fun x h => ((hr x).1 h).1, by rw [eX]; exact hmr, fun t ht => ?_⟩
        · rw [List.map_append, ← hB]; rfl
        · rw [eX] at ht
          rw [List.append_assoc]
          refine h4 (k :: t) ⟨hcons t ht.an, by rw [List.length_cons, ht.len, hcc], h3.le, fun t' ht' hl' => ?_⟩
          cases t' with
          | nil => simp at hl'; omega
          | cons y t' =>
            unfold lessB
            by_cases e : y = k
            · subst e
              rw [if_pos rfl]
              exact ht.first t' (htail t' ht') (by simp only [List.length_cons] at hl'; omega)
            · rw [if_neg e]
              have := ht'.inn y (List.mem_cons_self ..)
              simp only [Bool.and_eq_true, decide_eq_true_eq] at this
              exact decide_eq_false (by omega)
      · rw [if_neg hB]
        refine ⟨o, s, c, rfl, h2, stay fun t ht hl hkt => hB ?_⟩
        obtain ⟨t', rfl⟩ := hhead t ht hkt
        have l1 := hmr.le t' (htail t' ht)
        obtain ⟨tr, htr, hlr⟩ := hmr.ex
        have l2 := h3.le _ (hcons tr htr)
        simp only [List.length_cons] at hl l2
        omega
theorem free_great (hn : W.n ≤ 24) (hw : Woven W) (hc : circB W = false) : ∃ (o : List Nat) (c : Nat), freeL W = o.map (fun i : Nat => (i : Int)) ∧ GreatP W (fun x => decide (x < W.n)) c o := by
  obtain ⟨c0, h⟩ := free_inv hn hw hc
  obtain ⟨o, s, c, h1, h2, h3, h4⟩ := h W.n (Nat.le_refl _)
  have none : ∀ t, Anti W (fun x => hasS s x && decide (W.n ≤ x)) t → t = [] := fun t ht => by
    cases t with
    | nil => rfl
    | cons x t =>
      have h1 := ht.inn x (List.mem_cons_self ..)
      have h2 := ht.cm.hi x (List.mem_cons_self ..)
      simp only [Bool.and_eq_true, decide_eq_true_eq] at h1
      omega
  have ec : c = 0 := by
    obtain ⟨t, ht, hl⟩ := h3.ex
    rw [none t ht] at hl
    simp at hl
    omega
  have hg := h4 [] ⟨⟨⟨rfl, List.Pairwise.nil, fun x hx => (by cases hx), fun x hx => (by cases hx)⟩, rfl, fun x hx => (by cases hx)⟩, by rw [ec]; rfl, fun t ht => by rw [none t ht]; simp, fun t ht _ => by rw [none t ht]; rfl⟩
  rw [List.append_nil] at hg
  refine ⟨o, c0, ?_, hg⟩
  unfold freeL
  rw [h1]

/-! ### The reference goes through all sets -/
structure BestG (W : Web) (s : Nat) (best : List Nat) : Prop where
  cm : Comb W.n 0 best.length best
  ok : okA W best = true
  le : ∀ r, r < s → okA W (membs W.n r) = true → (membs W.n r).length ≤ best.length ∧ ((membs W.n r).length = best.length → lessB (membs W.n r) best = false)
theorem BestG.zero : BestG W 0 [] := ⟨⟨rfl, List.Pairwise.nil, fun x hx => (by cases hx), fun x hx => (by cases hx)⟩, rfl, fun r h => by omega⟩
theorem BestG.skip {s : Nat} {best : List Nat} (h : BestG W s best) (hn : okA W (membs W.n s) = true → (membs W.n s).length < best.length ∨ ((membs W.n s).length = best.length ∧ lessB (membs W.n s) best = false)) : BestG W (s + 1) best :=
  ⟨h.cm, h.ok, fun r hr hk => by
    by_cases e : r = s
    · subst e
      rcases hn hk with h1 | ⟨h1, h2⟩
      · exact ⟨by omega, fun e => by omega⟩
      · exact ⟨by omega, fun _ => h2⟩
    · exact h.le r (by omega) hk⟩
theorem BestG.take {s : Nat} {best : List Nat} (h : BestG W s best) (hk : okA W (membs W.n s) = true) (hl : best.length ≤ (membs W.n s).length) (hf : (membs W.n s).length = best.length → lessB (membs W.n s) best = true) : BestG W (s + 1) (membs W.n s) :=
  ⟨membs_comb W.n s, hk, fun r hr hkr => by
    by_cases e : r = s
    · subst e
      refine ⟨Nat.le_refl _, fun _ => ?_⟩
      cases h2 : lessB (membs W.n r) (membs W.n r)
      · rfl
      · have := lessB_total _ _ h2
        rw [h2] at this
        cases this
    · obtain ⟨h1, h2⟩ := h.le r (by omega) hkr
      refine ⟨by omega, fun e => ?_⟩
      have e1 : (membs W.n s).length = best.length := by omega
      exact lessB_trans (by omega) (by omega) (lessB_total _ _ (hf e1)) (h2 (by omega))⟩
theorem BestG.great (hn : W.n ≤ 32) {best : List Nat} (h : BestG W (2 ^ W.n) best) : GreatP W (fun x => decide (x < W.n)) best.length best := by
  refine ⟨⟨h.cm, h.ok, fun x hx => by simpa using h.cm.hi x hx⟩, rfl, fun t ht => ?_, fun t ht hl => ?_⟩
  · obtain ⟨s, hs, rfl⟩ := membs_onto hn ht.cm
    exact (h.le s hs ht.ok).1
  · obtain ⟨s, hs, rfl⟩ := membs_onto hn ht.cm
    exact (h.le s hs ht.ok).2 hl
/-- What the reference finds is what Free returns. -/
theorem free_ref (hn : W.n ≤ 24) (hw : Woven W) (hc : circB W = false) {best : List Nat} (h : BestG W (2 ^ W.n) best) : freeL W = best.map fun i : Nat => (i : Int) := by
  obtain ⟨o, c, h1, h2⟩ := free_great hn hw hc
  rw [h1, GreatP.eq h2 (h.great (by omega))]
end
end Go.Proofs.Yteljjkghjbofnaa
