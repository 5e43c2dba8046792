/- Plain law: the fewest arcs without which there is no circle. -/
import Derived.Test.YteljjkghjbofnaaYa
set_option maxRecDepth 100000
namespace Go.Proofs.Yteljjkghjbofnaa
open Go Go.Proofs Go.RowKit

/-! ### Arcs without some, some arcs -/

def keepT (A : List (Int × Int)) (ch : List Nat) (k : Nat) : List (Int × Int) := ((List.range k).filter fun i => !decide (i ∈ ch)).map fun i => A.getD i (0, 0)
def pickT (A : List (Int × Int)) (ch : List Nat) (k : Nat) : List (Int × Int) := ((List.range k).filter fun i => decide (i ∈ ch)).map fun i => A.getD i (0, 0)
theorem keepT_yes {A : List (Int × Int)} {ch : List Nat} {k : Nat} (h : k < A.length) (hk : ¬ k ∈ ch) : keepT A ch (k + 1) = keepT A ch k ++ [A[k]] := by
  unfold keepT
  rw [List.range_succ, List.filter_append, List.filter_cons, if_pos (by simpa using hk), List.map_append]
  simp [List.getD_eq_getElem?_getD, List.getElem?_eq_getElem h]
theorem keepT_no {A : List (Int × Int)} {ch : List Nat} {k : Nat} (hk : k ∈ ch) : keepT A ch (k + 1) = keepT A ch k := by
  unfold keepT
  rw [List.range_succ, List.filter_append, List.filter_cons, if_neg (by simpa using hk)]
  simp
theorem pickT_yes {A : List (Int × Int)} {ch : List Nat} {k : Nat} (h : k < A.length) (hk : k ∈ ch) : pickT A ch (k + 1) = pickT A ch k ++ [A[k]] := by
  unfold pickT
  rw [List.range_succ, List.filter_append, List.filter_cons, if_pos (by simpa using hk), List.map_append]
  simp [List.getD_eq_getElem?_getD, List.getElem?_eq_getElem h]
theorem pickT_no {A : List (Int × Int)} {ch : List Nat} {k : Nat} (hk : ¬ k ∈ ch) : pickT A ch (k + 1) = pickT A ch k := by
  unfold pickT
  rw [List.range_succ, List.filter_append, List.filter_cons, if_neg (by simpa using hk)]
  simp
theorem keepT_len (A : List (Int × Int)) (ch : List Nat) (k : Nat) : (keepT A ch k).length ≤ k := by
  unfold keepT
  rw [List.length_map]
  have := List.length_filter_le (fun i => !decide (i ∈ ch)) (List.range k)
  simpa using this
theorem pickT_len (A : List (Int × Int)) (ch : List Nat) (k : Nat) : (pickT A ch k).length ≤ k := by
  unfold pickT
  rw [List.length_map]
  have := List.length_filter_le (fun i => decide (i ∈ ch)) (List.range k)
  simpa using this
theorem keepT_mem {A : List (Int × Int)} {ch : List Nat} {k : Nat} (hk : k ≤ A.length) {x : Int × Int} (h : x ∈ keepT A ch k) : x ∈ A := by
  unfold keepT at h
  obtain ⟨i, hi, rfl⟩ := List.mem_map.1 h
  have := List.mem_range.1 (List.mem_filter.1 hi).1
  rw [List.getD_eq_getElem?_getD, List.getElem?_eq_getElem (by omega)]
  exact List.getElem_mem _
theorem keepT_ris {A : List (Int × Int)} (ch : List Nat) {k : Nat} (hk : k ≤ A.length) (h : risB A = true) : risB (keepT A ch k) = true := by
  rw [risB_pw] at h ⊢
  unfold keepT
  rw [List.pairwise_map]
  rw [List.pairwise_iff_getElem] at h
  refine List.Pairwise.imp_of_mem (fun {i j} hi hj hij => ?_) (List.Pairwise.filter _ List.pairwise_lt_range)
  have h1 := List.mem_range.1 (List.mem_filter.1 hi).1
  have h2 := List.mem_range.1 (List.mem_filter.1 hj).1
  rw [List.getD_eq_getElem?_getD, List.getElem?_eq_getElem (by omega), List.getD_eq_getElem?_getD, List.getElem?_eq_getElem (by omega)]
  exact h i j (by omega) (by omega) hij

theorem chk_parts {o : Prob} (hc : chk o = 0) : risB o.arcs = true := by
  unfold chk at hc
  split at hc
  · cases hc
  · split at hc
    · cases hc
    · rename_i h
      cases hr : risB o.arcs
      · exact absurd (.inr (.inr (.inr (.inl hr)))) h
      · rfl
theorem chk_bare {o : Prob} (hc : chk o = 0) : chk ⟨o.N, o.arcs, []⟩ = 0 := by
  unfold chk at hc ⊢
  split at hc
  · cases hc
  · rename_i h1
    rw [if_neg h1]
    split at hc
    · cases hc
    · rename_i h2
      rw [if_neg]
      rintro (h | h | h | h | h | h)
      · exact h2 (.inl h)
      · exact h2 (.inr (.inl h))
      · simp at h
      · exact h2 (.inr (.inr (.inr (.inl h))))
      · exact absurd h (show ¬ risB [] = false by decide)
      · simp at h
theorem chk_keep {o : Prob} (hc : chk o = 0) (ch : List Nat) : chk ⟨o.N, keepT o.arcs ch o.arcs.length, o.near⟩ = 0 :=
  chk_arcs hc (fun x hx => (pair_of_chk hc).2.2.1 x (keepT_mem (Nat.le_refl _) hx)) (keepT_ris ch (Nat.le_refl _) (chk_parts hc))

/-- Is there no circle without the arcs ch? -/
def okC (o : Prob) (ch : List Nat) : Bool := !circB (webOf ⟨o.N, keepT o.arcs ch o.arcs.length, []⟩)
theorem okC_near (o : Prob) (ch : List Nat) : okC o ch = !circB (webOf ⟨o.N, keepT o.arcs ch o.arcs.length, o.near⟩) := rfl

theorem keepT_all (A : List (Int × Int)) : keepT A (List.range A.length) A.length = [] := by
  unfold keepT
  rw [List.filter_eq_nil_iff.2 (fun i hi => by simpa using List.mem_range.1 hi)]
  rfl
theorem circB_bare (N : Int) (h : N ≤ 24) (h0 : 0 ≤ N) : circB (webOf ⟨N, [], []⟩) = false := by
  have hc : chk ⟨N, [], []⟩ = 0 := by
    unfold chk
    rw [if_neg (by show ¬ 24 < N; omega), if_neg]
    rintro (h | h | h | h | h | h)
    · have h : N < 0 := h; omega
    · simp at h
    · simp at h
    · exact absurd h (show ¬ risB [] = false by decide)
    · exact absurd h (show ¬ risB [] = false by decide)
    · simp at h
  cases hcb : circB (webOf ⟨N, [], []⟩)
  · rfl
  · exfalso
    obtain ⟨a, ha, hne⟩ := circB_round (webOf_n hc) (woven_of _) hcb
    obtain ⟨_, _, j, hj, hq⟩ := (leftOf_spec (webOf_n hc) ha).1.back a hne
    have hno : ∀ x y, hasS ((webOf ⟨N, [], []⟩).to x) y = true → False := fun x y h => by
      have := (webOf_to hc x y).1 h
      simp at this
    rcases hq with ⟨_, h⟩ | ⟨_, q, h, _⟩
    · exact hno _ _ h
    · exact hno _ _ h
theorem okC_all {o : Prob} (hc : chk o = 0) : okC o (List.range o.arcs.length) = true := by
  obtain ⟨h0, h24, _⟩ := pair_of_chk hc
  unfold okC
  rw [keepT_all, circB_bare o.N h24 h0]
  rfl

/-! ### Sets of numbers as rising lists -/

def lessB : List Nat → List Nat → Bool
  | a :: s, b :: t => if a = b then lessB s t else decide (a < b)
  | _, _ => false
theorem lessB_tri : ∀ {s t : List Nat}, s.length = t.length → lessB s t = false → lessB t s = false → s = t
  | [], [], _, _, _ => rfl
  | a :: s, b :: t, hl, h1, h2 => by
    unfold lessB at h1 h2
    by_cases e : a = b
    · subst e
      rw [if_pos rfl] at h1 h2
      rw [lessB_tri (by simpa using hl) h1 h2]
    · rw [if_neg e] at h1
      rw [if_neg (Ne.symm e)] at h2
      have := of_decide_eq_false h1
      have := of_decide_eq_false h2
      omega
theorem lessB_app (p : List Nat) : ∀ {s t : List Nat}, lessB (p ++ s) (p ++ t) = lessB s t := by
  induction p with
  | nil => intros; rfl
  | cons x p ih =>
    intro s t
    show lessB (x :: (p ++ s)) (x :: (p ++ t)) = _
    unfold lessB
    rw [if_pos rfl, ih]
    cases s <;> cases t <;> simp [lessB]
theorem lessB_total (s t : List Nat) : lessB s t = true → lessB t s = false := by
  induction s generalizing t with
  | nil => intro h; simp [lessB] at h
  | cons a s ih =>
    cases t with
    | nil => intro h; simp [lessB] at h
    | cons b t =>
      intro h
      unfold lessB at h ⊢
      by_cases e : a = b
      · subst e; rw [if_pos rfl] at h ⊢; exact ih t h
      · rw [if_neg e] at h
        rw [if_neg (Ne.symm e)]
        have := of_decide_eq_true h
        exact decide_eq_false (by omega)

/-- A rising list of k numbers from f on, below m. -/
structure Comb (m f k : Nat) (t : List Nat) : Prop where
  len : t.length = k
  ris : t.Pairwise (· < ·)
  lo : ∀ x ∈ t, f ≤ x
  hi : ∀ x ∈ t, x < m
theorem Comb.cons {m f k x : Nat} {t : List Nat} (h : Comb m (x + 1) k t) (hf : f ≤ x) (hx : x < m) : Comb m f (k + 1) (x :: t) :=
  ⟨by simp [h.len], List.pairwise_cons.2 ⟨fun y hy => by have := h.lo y hy; omega, h.ris⟩, fun y hy => by
    rcases List.mem_cons.1 hy with rfl | hy
    · exact hf
    · have := h.lo y hy; omega, fun y hy => by
    rcases List.mem_cons.1 hy with rfl | hy
    · exact hx
    · exact h.hi y hy⟩
theorem Comb.tail {m f k x : Nat} {t : List Nat} (h : Comb m f (k + 1) (x :: t)) : Comb m (x + 1) k t ∧ f ≤ x ∧ x < m := by
  have h1 := List.pairwise_cons.1 h.ris
  exact ⟨⟨by simpa using h.len, h1.2, fun y hy => by have := h1.1 y hy; omega, fun y hy => h.hi y (List.mem_cons_of_mem _ hy)⟩, h.lo x (List.mem_cons_self ..), h.hi x (List.mem_cons_self ..)⟩
theorem Comb.room : ∀ {k m f : Nat} {t : List Nat}, Comb m f k t → t ≠ [] → f + k ≤ m
  | 0, m, f, t, h, hne => absurd (List.eq_nil_of_length_eq_zero h.len) hne
  | k + 1, m, f, [], h, hne => absurd rfl hne
  | k + 1, m, f, x :: t, h, _ => by
    obtain ⟨h1, h2, h3⟩ := h.tail
    cases t with
    | nil => have := h1.len; simp at this; omega
    | cons y t => have := h1.room (by simp); omega

def firstO (g : Nat → Option (List Nat)) : List Nat → Option (List Nat)
  | [] => none
  | i :: is => match g i with
    | some l => some l
    | none => firstO g is
theorem firstO_none {g : Nat → Option (List Nat)} : ∀ {is : List Nat}, firstO g is = none ↔ ∀ i ∈ is, g i = none
  | [] => by simp [firstO]
  | i :: is => by
    unfold firstO
    cases h : g i with
    | some l => simp [h]
    | none => simp only [firstO_none, List.mem_cons, forall_eq_or_imp, h, true_and]
theorem firstO_some {g : Nat → Option (List Nat)} {l : List Nat} : ∀ {is : List Nat}, firstO g is = some l → ∃ A i B, is = A ++ i :: B ∧ (∀ x ∈ A, g x = none) ∧ g i = some l
  | [], h => by simp [firstO] at h
  | i :: is, h => by
    unfold firstO at h
    cases hg : g i with
    | some l' => rw [hg] at h; exact ⟨[], i, is, rfl, fun x hx => (by cases hx), by rw [hg, ← h]⟩
    | none =>
      rw [hg] at h
      obtain ⟨A, j, B, h1, h2, h3⟩ := firstO_some h
      exact ⟨i :: A, j, B, by rw [h1]; rfl, fun x hx => by
        rcases List.mem_cons.1 hx with rfl | hx
        · exact hg
        · exact h2 x hx, h3⟩
theorem firstO_at {g : Nat → Option (List Nat)} {i : Nat} {l : List Nat} {B : List Nat} (hi : g i = some l) : ∀ {A : List Nat}, (∀ x ∈ A, g x = none) → firstO g (A ++ i :: B) = some l
  | [], _ => by show firstO g (i :: B) = _; unfold firstO; rw [hi]
  | x :: A, h => by
    show firstO g (x :: (A ++ i :: B)) = _
    unfold firstO
    rw [h x (List.mem_cons_self ..)]
    exact firstO_at hi fun y hy => h y (List.mem_cons_of_mem _ hy)

/-- The first of the sets that go on from ch with k numbers from f on, that is ok. -/
def takeF (ok : List Nat → Bool) (m : Nat) : Nat → Nat → List Nat → Option (List Nat)
  | 0, _, ch => if ok ch = true then some ch else none
  | k + 1, f, ch => firstO (fun i => takeF ok m k (i + 1) (ch ++ [i])) (List.range' f (m - k - f))

theorem takeF_none {ok : List Nat → Bool} {m : Nat} : ∀ {k f : Nat} {ch : List Nat}, takeF ok m k f ch = none → ∀ t, Comb m f k t → ok (ch ++ t) = false
  | 0, f, ch, h, t, ht => by
    obtain rfl := List.eq_nil_of_length_eq_zero ht.len
    unfold takeF at h
    rw [List.append_nil]
    cases hk : ok ch
    · rfl
    · rw [hk] at h; simp at h
  | k + 1, f, ch, h, t, ht => by
    cases t with
    | nil => have := ht.len; simp at this
    | cons x t =>
      obtain ⟨h1, h2, h3⟩ := ht.tail
      unfold takeF at h
      rw [firstO_none] at h
      have hroom : x + k < m := by
        cases t with
        | nil => have := h1.len; simp at this; omega
        | cons y t => have := h1.room (by simp); omega
      have := takeF_none (h x (by rw [List.mem_range'_1]; omega)) t h1
      rw [List.append_assoc] at this
      exact this
theorem takeF_some {ok : List Nat → Bool} {m : Nat} : ∀ {k f : Nat} {ch l : List Nat}, takeF ok m k f ch = some l → ∃ t, l = ch ++ t ∧ Comb m f k t ∧ ok l = true ∧ ∀ t', Comb m f k t' → ok (ch ++ t') = true → lessB t' t = false
  | 0, f, ch, l, h => by
    unfold takeF at h
    by_cases hk : ok ch = true
    · rw [if_pos hk] at h
      cases h
      refine ⟨[], (List.append_nil _).symm, ⟨rfl, .nil, fun x hx => (by cases hx), fun x hx => (by cases hx)⟩, hk, fun t' h' _ => ?_⟩
      obtain rfl := List.eq_nil_of_length_eq_zero h'.len
      rfl
    · rw [if_neg hk] at h; cases h
  | k + 1, f, ch, l, h => by
    unfold takeF at h
    obtain ⟨A, i, B, h1, h2, h3⟩ := firstO_some h
    obtain ⟨t, e, hc, hok, hmin⟩ := takeF_some h3
    have hi : i ∈ List.range' f (m - k - f) := by rw [h1]; simp
    rw [List.mem_range'_1] at hi
    refine ⟨i :: t, by rw [e, List.append_assoc]; rfl, hc.cons hi.1 (by omega), hok, fun t' h' hok' => ?_⟩
    cases t' with
    | nil => rfl
    | cons x t' =>
      obtain ⟨g1, g2, g3⟩ := h'.tail
      unfold lessB
      by_cases e : x = i
      · subst e
        rw [if_pos rfl]
        exact hmin t' g1 (by rw [List.append_assoc]; exact hok')
      · rw [if_neg e]
        refine decide_eq_false fun hlt => ?_
        have hxA : x ∈ A := by
          have hx : x ∈ List.range' f (m - k - f) := by rw [List.mem_range'_1]; omega
          rw [h1] at hx
          rcases List.mem_append.1 hx with hx | hx
          · exact hx
          · have hp : (List.range' f (m - k - f)).Pairwise (· < ·) := List.pairwise_lt_range'
            rw [h1] at hp
            have hp2 := (List.pairwise_append.1 hp).2.1
            rcases List.mem_cons.1 hx with rfl | hx
            · exact absurd rfl e
            · have := (List.pairwise_cons.1 hp2).1 x hx; omega
        have := takeF_none (h2 x hxA) t' g1
        rw [List.append_assoc] at this
        have hok'' : ok (ch ++ ([x] ++ t')) = true := hok'
        rw [this] at hok''
        cases hok''

/-- The fewest, of these the first. -/
structure LeastI (ok : List Nat → Bool) (m : Nat) (l : List Nat) : Prop where
  comb : Comb m 0 l.length l
  good : ok l = true
  few : ∀ t, Comb m 0 t.length t → ok t = true → l.length < t.length ∨ (l.length = t.length ∧ lessB t l = false)
theorem LeastI.eq {ok : List Nat → Bool} {m : Nat} {l l' : List Nat} (h : LeastI ok m l) (h' : LeastI ok m l') : l = l' := by
  rcases h.few l' h'.comb h'.good with h1 | ⟨h1, h2⟩
  · rcases h'.few l h.comb h.good with h3 | ⟨h3, _⟩ <;> omega
  · rcases h'.few l h.comb h.good with h3 | ⟨_, h4⟩
    · omega
    · exact lessB_tri h1 h4 h2
theorem takeF_least {ok : List Nat → Bool} {m k : Nat} {l : List Nat} (h : takeF ok m k 0 [] = some l) (hno : ∀ j, j < k → takeF ok m j 0 [] = none) : LeastI ok m l := by
  obtain ⟨t, e, hc, hok, hmin⟩ := takeF_some h
  have e : l = t := e
  subst e
  have hl := hc.len
  refine ⟨hl ▸ hc, hok, fun t' h' hok' => ?_⟩
  rcases Nat.lt_trichotomy t'.length k with h1 | h1 | h1
  · have := takeF_none (hno _ h1) t' h'
    have e2 : ([] : List Nat) ++ t' = t' := rfl
    rw [e2, hok'] at this
    cases this
  · exact .inr ⟨by omega, hmin t' (h1 ▸ h') hok'⟩
  · exact .inl (by omega)
theorem takeF_full {ok : List Nat → Bool} {m : Nat} (h : ok (List.range m) = true) : takeF ok m m 0 [] ≠ none := fun e => by
  have := takeF_none e (List.range m) ⟨by simp, List.pairwise_lt_range, fun _ _ => Nat.zero_le _, fun _ hx => List.mem_range.1 hx⟩
  have e2 : ([] : List Nat) ++ List.range m = List.range m := rfl
  rw [e2, h] at this
  cases this

theorem sorted_ext : ∀ {s t : List Nat}, s.Pairwise (· < ·) → t.Pairwise (· < ·) → (∀ x, x ∈ s ↔ x ∈ t) → s = t
  | [], [], _, _, _ => rfl
  | [], b :: t, _, _, h => by have := (h b).2 (List.mem_cons_self ..); cases this
  | a :: s, [], _, _, h => by have := (h a).1 (List.mem_cons_self ..); cases this
  | a :: s, b :: t, hs, ht, h => by
    have hs' := List.pairwise_cons.1 hs
    have ht' := List.pairwise_cons.1 ht
    have e : a = b := by
      rcases List.mem_cons.1 ((h a).1 (List.mem_cons_self ..)) with e | h1
      · exact e
      · rcases List.mem_cons.1 ((h b).2 (List.mem_cons_self ..)) with e | h2
        · exact e.symm
        · have := ht'.1 a h1; have := hs'.1 b h2; omega
    subst e
    congr 1
    refine sorted_ext hs'.2 ht'.2 fun x => ?_
    have hx := h x
    simp only [List.mem_cons] at hx
    constructor
    · intro hm
      rcases hx.1 (.inr hm) with e | h2
      · subst e; have := hs'.1 x hm; omega
      · exact h2
    · intro hm
      rcases hx.2 (.inr hm) with e | h2
      · subst e; have := ht'.1 x hm; omega
      · exact h2

/-! ### The reference goes through all sets -/

/-- The numbers below m that s has as bits. -/
def membs (m s : Nat) : List Nat := (List.range m).filter fun i => hasS (BitVec.ofNat 32 s) i
theorem membs_comb (m s : Nat) : Comb m 0 (membs m s).length (membs m s) :=
  ⟨rfl, List.Pairwise.filter _ List.pairwise_lt_range, fun _ _ => Nat.zero_le _, fun _ hx => List.mem_range.1 (List.mem_filter.1 hx).1⟩
theorem has_ofNat {s i : Nat} (hi : i < 32) : hasS (BitVec.ofNat 32 s) i = s.testBit i := by
  unfold hasS
  rw [BitVec.getLsbD_ofNat]
  simp [hi]
/-- Each set is that of a number. -/
theorem membs_onto {m : Nat} (hm : m ≤ 32) {t : List Nat} (ht : Comb m 0 t.length t) : ∃ s, s < 2 ^ m ∧ membs m s = t := by
  have key : ∀ (l : List Nat) (s0 : Nat), s0 < 2 ^ m → (∀ x ∈ l, x < m) → ∃ s, s < 2 ^ m ∧ ∀ i, s.testBit i = (s0.testBit i || decide (i ∈ l)) := by
    intro l
    induction l with
    | nil => intro s0 h _; exact ⟨s0, h, fun i => by simp⟩
    | cons x l ih =>
      intro s0 h hl
      obtain ⟨s, h1, h2⟩ := ih (s0 ||| 2 ^ x) (Nat.or_lt_two_pow h (Nat.pow_lt_pow_right (by decide) (hl x (List.mem_cons_self ..)))) fun y hy => hl y (List.mem_cons_of_mem _ hy)
      refine ⟨s, h1, fun i => ?_⟩
      rw [h2, Nat.testBit_or, Nat.testBit_two_pow]
      by_cases e : x = i
      · subst e; simp
      · have e' : ¬ i = x := fun h => e h.symm
        simp [e, e']
  obtain ⟨s, h1, h2⟩ := key t 0 (Nat.two_pow_pos m) ht.hi
  refine ⟨s, h1, sorted_ext (membs_comb m s).ris ht.ris fun x => ?_⟩
  unfold membs
  rw [List.mem_filter, List.mem_range]
  constructor
  · rintro ⟨hx, hh⟩
    rw [has_ofNat (by omega), h2] at hh
    simpa using hh
  · intro hx
    have := ht.hi x hx
    refine ⟨this, ?_⟩
    rw [has_ofNat (by omega), h2]
    simpa using hx

/-- The best of the sets below S. -/
structure BestI (ok : List Nat → Bool) (m S : Nat) (some_ : Bool) (best : List Nat) : Prop where
  no : some_ = false → ∀ s, s < S → ok (membs m s) = false
  yes : some_ = true → ok best = true ∧ Comb m 0 best.length best ∧ ∀ s, s < S → ok (membs m s) = true → best.length < (membs m s).length ∨ (best.length = (membs m s).length ∧ lessB (membs m s) best = false)
section
variable {ok : List Nat → Bool} {m S : Nat} {best : List Nat}
theorem BestI.zero (best : List Nat) : BestI ok m 0 false best := ⟨fun _ s h => by omega, fun h => by cases h⟩
theorem BestI.longer (h : BestI ok m S true best) (hl : best.length < (membs m S).length) : BestI ok m (S + 1) true best := by
  refine ⟨fun h => (by cases h), fun _ => ?_⟩
  obtain ⟨h1, h2, h3⟩ := h.yes rfl
  refine ⟨h1, h2, fun s hs hok => ?_⟩
  by_cases e : s = S
  · subst e; exact .inl hl
  · exact h3 s (by omega) hok
theorem BestI.later (h : BestI ok m S true best) (hl : best.length = (membs m S).length) (hn : lessB (membs m S) best = false) : BestI ok m (S + 1) true best := by
  refine ⟨fun h => (by cases h), fun _ => ?_⟩
  obtain ⟨h1, h2, h3⟩ := h.yes rfl
  refine ⟨h1, h2, fun s hs hok => ?_⟩
  by_cases e : s = S
  · subst e; exact .inr ⟨hl, hn⟩
  · exact h3 s (by omega) hok
theorem BestI.bad {b : Bool} (h : BestI ok m S b best) (hok : ok (membs m S) = false) : BestI ok m (S + 1) b best := by
  refine ⟨fun hb s hs => ?_, fun hb => ?_⟩
  · by_cases e : s = S
    · subst e; exact hok
    · exact h.no hb s (by omega)
  · obtain ⟨h1, h2, h3⟩ := h.yes hb
    refine ⟨h1, h2, fun s hs hok' => ?_⟩
    by_cases e : s = S
    · subst e; rw [hok] at hok'; cases hok'
    · exact h3 s (by omega) hok'
theorem lessB_trans : ∀ {a b c : List Nat}, a.length = b.length → b.length = c.length → lessB b a = false → lessB c b = false → lessB c a = false
  | [], [], [], _, _, _, _ => rfl
  | x :: a, y :: b, z :: c, h1, h2, h3, h4 => by
    unfold lessB at h3 h4 ⊢
    by_cases e1 : y = x
    · subst e1
      rw [if_pos rfl] at h3
      by_cases e2 : z = y
      · subst e2
        rw [if_pos rfl] at h4 ⊢
        exact lessB_trans (by simpa using h1) (by simpa using h2) h3 h4
      · rw [if_neg e2] at h4 ⊢; exact h4
    · rw [if_neg e1] at h3
      have h3 := of_decide_eq_false h3
      by_cases e2 : z = y
      · subst e2
        rw [if_neg e1]; exact decide_eq_false h3
      · rw [if_neg e2] at h4
        have h4 := of_decide_eq_false h4
        rw [if_neg (by omega)]
        exact decide_eq_false (by omega)
theorem BestI.first (h : BestI ok m S false best) (hok : ok (membs m S) = true) : BestI ok m (S + 1) true (membs m S) := by
  refine ⟨fun h => (by cases h), fun _ => ⟨hok, membs_comb m S, fun s hs hok' => ?_⟩⟩
  by_cases e : s = S
  · subst e
    refine .inr ⟨rfl, ?_⟩
    cases hl : lessB (membs m s) (membs m s)
    · rfl
    · rw [lessB_total _ _ hl] at hl; cases hl
  · rw [h.no rfl s (by omega)] at hok'; cases hok'
theorem BestI.better (h : BestI ok m S true best) (hok : ok (membs m S) = true) (hl : ¬ best.length < (membs m S).length) (hn : ¬ (best.length = (membs m S).length ∧ lessB (membs m S) best = false)) : BestI ok m (S + 1) true (membs m S) := by
  refine ⟨fun h => (by cases h), fun _ => ⟨hok, membs_comb m S, fun s hs hok' => ?_⟩⟩
  obtain ⟨h1, h2, h3⟩ := h.yes rfl
  by_cases e : s = S
  · subst e
    refine .inr ⟨rfl, ?_⟩
    cases hl : lessB (membs m s) (membs m s)
    · rfl
    · rw [lessB_total _ _ hl] at hl; cases hl
  · rcases h3 s (by omega) hok' with h4 | ⟨h4, h5⟩
    · exact .inl (by omega)
    · by_cases e2 : best.length = (membs m S).length
      · refine .inr ⟨by omega, ?_⟩
        have h6 : lessB (membs m S) best = true := by
          cases hh : lessB (membs m S) best
          · exact absurd ⟨e2, hh⟩ hn
          · rfl
        exact lessB_trans (by omega) (by omega) (lessB_total _ _ h6) h5
      · exact .inl (by omega)
theorem BestI.final (hm : m ≤ 32) {b : Bool} (h : BestI ok m (2 ^ m) b best) (hall : ok (List.range m) = true) : b = true ∧ LeastI ok m best := by
  have hex : ∀ t, Comb m 0 t.length t → ∃ s, s < 2 ^ m ∧ membs m s = t := fun t ht => membs_onto hm ht
  cases b with
  | false =>
    obtain ⟨s, h1, h2⟩ := hex (List.range m) ⟨by simp, List.pairwise_lt_range, fun _ _ => Nat.zero_le _, fun _ hx => List.mem_range.1 hx⟩
    have := h.no rfl s h1
    rw [h2, hall] at this
    cases this
  | true =>
    obtain ⟨h1, h2, h3⟩ := h.yes rfl
    refine ⟨rfl, h2, h1, fun t ht hok => ?_⟩
    obtain ⟨s, g1, g2⟩ := hex t ht
    have := h3 s g1 (by rw [g2]; exact hok)
    rw [g2] at this
    exact this
end
/-- What is picked, of a rising list. -/
theorem pickT_list {A : List (Int × Int)} {l : List Nat} (h : Comb A.length 0 l.length l) : pickT A l A.length = l.map fun i => A.getD i (0, 0) := by
  unfold pickT
  congr 1
  refine sorted_ext (List.Pairwise.filter _ List.pairwise_lt_range) h.ris fun x => ?_
  rw [List.mem_filter, List.mem_range]
  exact ⟨fun hx => by simpa using hx.2, fun hx => ⟨h.hi x hx, by simpa using hx⟩⟩
end Go.Proofs.Yteljjkghjbofnaa
