/- Plain law: the first of the shortest circles, as the reference finds it. -/
import Derived.Test.YteljjkghjbofnaaMe
set_option maxRecDepth 100000
namespace Go.Proofs.Yteljjkghjbofnaa
open Go Go.Proofs Go.RowKit

section
variable {W : Web} {a : Nat}

theorem circlePart_first (W : Web) : ∀ k, circlePart W k ≠ [] → ∃ a, a < k ∧ circlePart W k = roundOf W a ∧ roundOf W a ≠ [] ∧ ∀ b, b < a → roundOf W b ≠ [] → (roundOf W a).length < (roundOf W b).length
  | 0, h => absurd rfl h
  | k + 1, h => by
    have hs := (circlePart_spec W k).2
    rw [circlePart_succ] at h ⊢
    unfold circleStep at h ⊢
    by_cases hc : roundOf W k ≠ [] ∧ (circlePart W k = [] ∨ (roundOf W k).length < (circlePart W k).length)
    · rw [if_pos hc]
      refine ⟨k, by omega, rfl, hc.1, fun b hb hr => ?_⟩
      obtain ⟨h1, h2⟩ := hs b hb hr
      rcases hc.2 with h3 | h3
      · exact absurd h3 h1
      · omega
    · rw [if_neg hc] at h ⊢
      obtain ⟨a, ha, h1⟩ := circlePart_first W k h
      exact ⟨a, by omega, h1⟩

theorem bfs_comp (hn : W.n ≤ 24) (ha : a < W.n) : ∀ (f m : Nat) (left : List Int) (now : S), Lay W a m left now → left.getD a 0 = 0 → (bfs W a f now ((m + 1 : Nat) : Int) left).getD a 0 ≠ 0 →
    ∀ (j p : Nat), (j : Int) ≤ (bfs W a f now ((m + 1 : Nat) : Int) left).getD a 0 → a ≤ p → p < W.n → WalkTo W a j p → (bfs W a f now ((m + 1 : Nat) : Int) left).getD p 0 ≠ 0 ∧ (bfs W a f now ((m + 1 : Nat) : Int) left).getD p 0 ≤ (j : Int)
  | 0, m, left, now, h, h0, hne => absurd h0 hne
  | f + 1, m, left, now, h, h0, hne => by
    have hx := h.next hn ha h0
    unfold bfs at hne ⊢
    by_cases hz : now = 0#32
    · rw [if_pos hz] at hne
      exact absurd h0 hne
    · rw [if_neg hz] at hne ⊢
      by_cases hf : hasS (layer W a now ((m + 1 : Nat) : Int) left).2 a = true
      · rw [if_pos hf] at hne ⊢
        have e := hx.now1 (by omega) a hf
        intro j p hj hap hpn hw
        exact hx.comp j (by omega) p hap hpn hw
      · rw [if_neg hf] at hne ⊢
        have h0' : (layer W a now ((m + 1 : Nat) : Int) left).1.getD a 0 = 0 := by
          refine Classical.byContradiction fun hne => ?_
          obtain ⟨_, h2, h3⟩ := layer_val hn (Nat.le_of_lt ha) (W := W) (now := now) (m := ((m + 1 : Nat) : Int)) h.len
          rw [h2] at hne
          split at hne
          · rename_i hc
            rw [h3] at hf
            exact hf (decide_eq_true hc)
          · exact hne h0
        have e : ((m + 1 : Nat) : Int) + 1 = ((m + 1 + 1 : Nat) : Int) := by omega
        rw [e] at hne ⊢
        exact bfs_comp hn ha f (m + 1) _ _ hx h0' hne
theorem leftOf_comp (hn : W.n ≤ 24) (ha : a < W.n) (hne : (leftOf W a).getD a 0 ≠ 0) {j p : Nat} (hj : (j : Int) ≤ (leftOf W a).getD a 0) (hap : a ≤ p) (hp : p < W.n) (hw : WalkTo W a j p) : (leftOf W a).getD p 0 ≠ 0 ∧ (leftOf W a).getD p 0 ≤ (j : Int) := by
  have hz : ∀ p, (List.replicate 24 (0 : Int)).getD p 0 = 0 := fun p => by
    rw [List.getD_eq_getElem?_getD, List.getElem?_replicate]; split <;> rfl
  have h0 : Lay W a 0 (List.replicate 24 0) (oneS a) :=
    { len := by simp, back := fun p hp => absurd (hz p) hp, le := fun p => by rw [hz p]; omega, now0 := fun _ => rfl, now1 := fun h => by omega, now2 := fun h => by omega,
      comp := fun j hj p _ _ hw => by have := hw.pos; omega }
  exact bfs_comp hn ha 25 0 _ _ h0 (hz a) hne j p hj hap hp hw

/-! ### The search of the reference -/

def firstSome (g : Nat → List Int) : List Nat → List Int
  | [] => []
  | b :: bs => if g b = [] then firstSome g bs else g b
theorem firstSome_none {g : Nat → List Int} : ∀ {bs : List Nat}, (∀ b ∈ bs, g b = []) → firstSome g bs = []
  | [], _ => rfl
  | b :: bs, h => by
    unfold firstSome
    rw [if_pos (h b (List.mem_cons_self ..))]
    exact firstSome_none fun x hx => h x (List.mem_cons_of_mem _ hx)
theorem firstSome_at {g : Nat → List Int} {b : Nat} {B : List Nat} (hb : g b ≠ []) : ∀ {A : List Nat}, (∀ x ∈ A, g x = []) → firstSome g (A ++ b :: B) = g b
  | [], _ => by show firstSome g (b :: B) = _; unfold firstSome; rw [if_neg hb]
  | x :: A, h => by
    show firstSome g (x :: (A ++ b :: B)) = _
    unfold firstSome
    rw [if_pos (h x (List.mem_cons_self ..))]
    exact firstSome_at hb fun y hy => h y (List.mem_cons_of_mem _ hy)
theorem firstSome_some {g : Nat → List Int} : ∀ {bs : List Nat}, firstSome g bs ≠ [] → ∃ b ∈ bs, g b ≠ []
  | [], h => absurd rfl h
  | b :: bs, h => by
    by_cases hb : g b = []
    · unfold firstSome at h
      rw [if_pos hb] at h
      obtain ⟨x, h1, h2⟩ := firstSome_some h
      exact ⟨x, List.mem_cons_of_mem _ h1, h2⟩
    · exact ⟨b, List.mem_cons_self .., hb⟩

def extG (W : Web) (ext : List Int → List Int) (l : List Int) (b : Nat) : List Int := if hasS (W.to (l.getLastD 0).toNat) b = true ∧ ¬ ((b : Int) ∈ l) then ext (l ++ [(b : Int)]) else []
/-- The first circle that begins with l and has f patches more. -/
def extF (W : Web) : Nat → List Int → List Int
  | 0, l => if hasS (W.to (l.getLastD 0).toNat) (l.getD 0 0).toNat = true then l else []
  | f + 1, l => firstSome (extG W (extF W f) l) (List.range' ((l.getD 0 0).toNat + 1) (W.n - ((l.getD 0 0).toNat + 1)))

theorem ext_walk : ∀ (f : Nat) (l : List Int) (p : Nat), l ≠ [] → l.getD 0 0 = (a : Int) → l.getLastD 0 = (p : Int) → extF W f l ≠ [] → WalkTo W a (f + 1) p
  | 0, l, p, hl, h0, hp, h => by
    unfold extF at h
    rw [hp, h0, Int.toNat_natCast, Int.toNat_natCast] at h
    by_cases hc : hasS (W.to p) a = true
    · exact .one hc
    · rw [if_neg hc] at h; exact absurd rfl h
  | f + 1, l, p, hl, h0, hp, h => by
    unfold extF at h
    obtain ⟨b, hb, hg⟩ := firstSome_some h
    rw [h0, Int.toNat_natCast, List.mem_range'_1] at hb
    unfold extG at hg
    rw [hp, Int.toNat_natCast] at hg
    by_cases hc : hasS (W.to p) b = true ∧ ¬ ((b : Int) ∈ l)
    · rw [if_pos hc] at hg
      refine .step hc.1 (by omega) (by omega) (ext_walk f (l ++ [(b : Int)]) b (by simp) ?_ (by simp) hg)
      cases l with
      | nil => exact absurd rfl hl
      | cons x t => exact h0
    · rw [if_neg hc] at hg; exact absurd rfl hg

theorem Way.next {left : List Int} (hb : Back W a left) {L m : Nat} {out : List Int} (h : Way W a left L (m + 1) out) : ∃ p r : Nat, out.getLastD 0 = (p : Int) ∧ p < W.n ∧ a ≤ p ∧ left.getD p 0 = ((m + 1 + 1 : Nat) : Int) ∧
    findNext W a left p ((m + 1 : Nat) : Int) = some r ∧ a < r ∧ r < W.n ∧ hasS (W.to p) r = true ∧ left.getD r 0 = ((m + 1 : Nat) : Int) ∧ pathStep W a left out ((m + 1 : Nat) : Int) = out ++ [(r : Int)] ∧ Way W a left L m (out ++ [(r : Int)]) := by
  obtain ⟨t, ht⟩ := h.first
  have hlen := h.len
  have h0 : 0 < out.length := by rw [ht]; simp
  obtain ⟨p, hp, hpn, hap, hpl⟩ := h.get (out.length - 1) (by omega)
  have hlast : out.getLastD 0 = (p : Int) := by
    rw [← hp]
    rw [List.getLastD_eq_getLast?, List.getLast?_eq_getElem?, List.getElem?_eq_getElem (by omega)]
    rfl
  have e1 : L - (out.length - 1) = (m + 1) + 1 := by omega
  rw [e1] at hpl
  obtain ⟨_, _, j, hj, hq⟩ := hb.back p (by omega)
  have ej : j = m + 1 := by omega
  subst ej
  rcases hq with ⟨hq, _⟩ | ⟨_, q, q1, q2, q3, q4⟩
  · omega
  · obtain ⟨r, r1, r2, r3, r4, r5⟩ := findNext_is (W := W) (a := a) (left := left) (last := p) (m := ((m + 1 : Nat) : Int)) ⟨q, q2, q3, q1, q4⟩
    have e2 : pathStep W a left out ((m + 1 : Nat) : Int) = out ++ [(r : Int)] := by
      unfold pathStep
      rw [hlast, Int.toNat_natCast, r1]
    refine ⟨p, r, hlast, hpn, hap, hpl, r1, r2, r3, r4, r5, e2, by simp; omega, fun i hi => ?_, fun i hi => ?_, ?_⟩
    · by_cases hil : i < out.length
      · rw [List.getElem_append_left hil]; exact h.get i hil
      · have : i = out.length := by simp at hi; omega
        subst this
        rw [List.getElem_append_right (by omega)]
        refine ⟨r, by simp, r3, by omega, ?_⟩
        rw [r5]
        congr 1
        omega
    · by_cases hil : i + 1 < out.length
      · rw [List.getElem_append_left (by omega), List.getElem_append_left hil]; exact h.arc i hil
      · have : i = out.length - 1 := by simp at hi; omega
        subst this
        rw [List.getElem_append_left (by omega), List.getElem_append_right (by omega), hp]
        simpa using r4
    · exact ⟨t ++ [(r : Int)], by rw [ht]; rfl⟩

theorem ext_way {left : List Int} (hb : Back W a left) {L : Nat} (hcomp : ∀ (j p : Nat), j ≤ L → a ≤ p → p < W.n → WalkTo W a j p → left.getD p 0 ≠ 0 ∧ left.getD p 0 ≤ (j : Int)) :
    ∀ (m : Nat) (l : List Int), m < L → Way W a left L m l → extF W m l = pathL W a left l m
  | 0, l, hm, h => by
    obtain ⟨t, ht⟩ := h.first
    have hlen := h.len
    obtain ⟨p, hp, hpn, hap, hpl⟩ := h.get (l.length - 1) (by omega)
    have hlast : l.getLastD 0 = (p : Int) := by
      rw [← hp]
      rw [List.getLastD_eq_getLast?, List.getLast?_eq_getElem?, List.getElem?_eq_getElem (by omega)]
      rfl
    obtain ⟨_, _, j, hj, hq⟩ := hb.back p (by omega)
    have ej : j = 0 := by omega
    have h0 : l.getD 0 0 = (a : Int) := by rw [ht]; rfl
    unfold extF pathL
    rw [hlast, h0, Int.toNat_natCast, Int.toNat_natCast, if_pos]
    rcases hq with ⟨_, hq⟩ | ⟨hq, _⟩
    · exact hq
    · omega
  | m + 1, l, hm, h => by
    obtain ⟨t, ht⟩ := h.first
    have hlen := h.len
    have h0 : l.getD 0 0 = (a : Int) := by rw [ht]; rfl
    have hne : l ≠ [] := by rw [ht]; simp
    obtain ⟨p, r, hlast, hpn, hap, hpl, hf, har, hrn, hpr, hrl, hps, hway⟩ := h.next hb
    have hrec := ext_way hb hcomp m _ (by omega) hway
    have hne2 : pathL W a left (l ++ [(r : Int)]) m ≠ [] := by
      obtain ⟨t', ht'⟩ := (pathL_way hb m _ (by omega) hway).first
      rw [ht']; simp
    have hg : extG W (extF W m) l r = pathL W a left (l ++ [(r : Int)]) m := by
      unfold extG
      rw [hlast, Int.toNat_natCast, if_pos, hrec]
      refine ⟨hpr, fun hm => ?_⟩
      obtain ⟨i, hi, he⟩ := List.getElem_of_mem hm
      obtain ⟨q, hq1, _, _, hq2⟩ := h.get i hi
      have : q = r := by omega
      subst this
      omega
    unfold findNext at hf
    rw [List.find?_eq_some_iff_append] at hf
    obtain ⟨hf1, as', bs', hf2, hf3⟩ := hf
    unfold extF
    rw [h0, Int.toNat_natCast, hf2, firstSome_at (by rw [hg]; exact hne2), hg]
    · conv => rhs; unfold pathL
      rw [hps]
    · intro x hx
      refine Classical.byContradiction fun hgx => ?_
      have hxr : x ∈ List.range' (a + 1) (W.n - (a + 1)) := by rw [hf2]; exact List.mem_append_left _ hx
      rw [List.mem_range'_1] at hxr
      have hxn : x < W.n := by omega
      have hp3 := hf3 x hx
      unfold extG at hgx
      rw [hlast, Int.toNat_natCast] at hgx
      by_cases hc : hasS (W.to p) x = true ∧ ¬ ((x : Int) ∈ l)
      · rw [if_pos hc] at hgx
        have hw := ext_walk (a := a) m (l ++ [(x : Int)]) x (by simp) (by rw [ht]; rfl) (by simp) hgx
        obtain ⟨c1, c2⟩ := hcomp (m + 1) x (by omega) (by omega) hxn hw
        rw [hc.1] at hp3
        simp only [Bool.true_and, Bool.not_eq_true', beq_eq_false_iff_ne] at hp3
        obtain ⟨_, _, j, hj, _⟩ := hb.back x c1
        have hw2 := WalkTo.step hc.1 (by omega) hxn (hb.walk j x hj)
        obtain ⟨_, c4⟩ := hcomp (j + 1 + 1) p (by omega) hap hpn hw2
        omega
      · rw [if_neg hc] at hgx; exact absurd rfl hgx

theorem ext_round (hn : W.n ≤ 24) (ha : a < W.n) {L : Nat} (hL : (leftOf W a).getD a 0 = ((L + 1 : Nat) : Int)) : extF W L [(a : Int)] = roundOf W a := by
  obtain ⟨hb, _⟩ := leftOf_spec hn ha
  have hc := fun j p h1 h2 h3 h4 => leftOf_comp (W := W) hn ha (by omega) (j := j) (p := p) h1 h2 h3 h4
  rw [hL] at hc
  have hw0 : Way W a (leftOf W a) (L + 1) L [(a : Int)] := ⟨by simp; omega, fun i hi => by
    have : i = 0 := by simpa using hi
    subst this
    exact ⟨a, rfl, ha, Nat.le_refl _, by rw [hL]; rfl⟩, fun i hi => by simp at hi, ⟨[], rfl⟩⟩
  rw [ext_way hb (L := L + 1) (fun j p h1 h2 h3 h4 => hc j p (by omega) h2 h3 h4) L _ (by omega) hw0]
  unfold roundOf
  rw [if_neg (by omega), hL]
  congr 1
  omega
theorem ext_none (hn : W.n ≤ 24) (ha : a < W.n) {L : Nat} (hL : L < 25) (h : roundOf W a ≠ [] → L + 1 < (roundOf W a).length) (hirr : ∀ p, p < W.n → hasS (W.to p) p = false) : extF W L [(a : Int)] = [] := by
  refine Classical.byContradiction fun hne => ?_
  have hw := ext_walk (a := a) L [(a : Int)] a (by simp) rfl rfl hne
  obtain ⟨h1, h2⟩ := (leftOf_spec hn ha).2 (L + 1) (by omega) hw
  obtain ⟨h3, h4⟩ := roundOf_circ hn hirr ha h1
  have h5 : roundOf W a ≠ [] := fun e => by have := h3.1; rw [e] at this; simp at this
  have := h h5
  omega
/-- The circle that is found, by the search. -/
theorem circle_ext (hn : W.n ≤ 24) (hirr : ∀ p, p < W.n → hasS (W.to p) p = false) (h : circlePart W W.n ≠ []) :
    ∃ a, a < W.n ∧ extF W ((circlePart W W.n).length - 1) [(a : Int)] = circlePart W W.n ∧ ∀ b, b < a → extF W ((circlePart W W.n).length - 1) [(b : Int)] = [] := by
  obtain ⟨a, ha, he, hr, hb⟩ := circlePart_first W W.n h
  obtain ⟨h1, h2⟩ := roundOf_circ hn hirr ha (roundOf_ne hr)
  have h3 := nodup_lt_length (circOk_cyc h1).2 (circOk_cyc h1).1.1
  rw [List.length_map] at h3
  have h4 := h1.1
  refine ⟨a, ha, ?_, fun b hba => ?_⟩
  · rw [he]
    exact ext_round hn ha (by rw [← h2]; omega)
  · rw [he]
    exact ext_none hn (by omega) (by omega) (fun hr2 => by have := hb b hba hr2; omega) hirr

/-! ### Walks -/

/-- j arcs lead from a to q. -/
inductive AWalk (W : Web) (a : Nat) : Nat → Nat → Prop
  | one {q : Nat} (h : hasS (W.to a) q = true) (hq : q < W.n) : AWalk W a 1 q
  | snoc {j m q : Nat} (h : AWalk W a j m) (h1 : hasS (W.to m) q = true) (hq : q < W.n) : AWalk W a (j + 1) q
theorem AWalk.pos {j q : Nat} (h : AWalk W a j q) : 0 < j := by cases h <;> omega
theorem AWalk.lt {j q : Nat} (h : AWalk W a j q) : q < W.n := by cases h <;> assumption
theorem AWalk.cons {p q j r : Nat} (h : hasS (W.to p) q = true) (hq : q < W.n) (hw : AWalk W q j r) : AWalk W p (j + 1) r := by
  induction hw with
  | one h1 h2 => exact .snoc (.one h hq) h1 h2
  | snoc _ h1 h2 ih => exact .snoc ih h1 h2
theorem WalkTo.awalk {j p : Nat} (ha : a < W.n) (h : WalkTo W a j p) : AWalk W p j a := by
  induction h with
  | one h => exact .one h ha
  | step h _ h2 _ ih => exact .cons h h2 ih
theorem AWalk.list (ha : a < W.n) {j q : Nat} (h : AWalk W a j q) : ∃ c : List Nat, c.length = j ∧ c[0]? = some a ∧ (∀ x ∈ c, x < W.n) ∧ (∀ i, (h : i + 1 < c.length) → hasS (W.to c[i]) c[i + 1] = true) ∧ ∃ h : 0 < c.length, hasS (W.to (c[c.length - 1]'(by omega))) q = true := by
  induction h with
  | one h hq => exact ⟨[a], rfl, rfl, by simpa using ha, fun i h => by simp at h, by simp, by simpa using h⟩
  | snoc hw h1 hq ih =>
    rename_i j m q
    obtain ⟨c, e1, e2, e3, e4, e5, e6⟩ := ih
    refine ⟨c ++ [m], by simp [e1], ?_, ?_, ?_, by simp, ?_⟩
    · rw [List.getElem?_append_left e5]; exact e2
    · intro x hx
      rcases List.mem_append.1 hx with hx | hx
      · exact e3 x hx
      · simp at hx; subst hx; exact hw.lt
    · intro i hi
      simp at hi
      by_cases hl : i + 1 < c.length
      · rw [List.getElem_append_left (by omega), List.getElem_append_left hl]; exact e4 i hl
      · have : i = c.length - 1 := by omega
        subst this
        rw [List.getElem_append_left (by omega), List.getElem_append_right (by omega)]
        simpa using e6
    · simpa using h1
theorem AWalk.cyc (ha : a < W.n) {j : Nat} (h : AWalk W a j a) : ∃ c : List Nat, c.length = j ∧ c ≠ [] ∧ Cyc W c := by
  obtain ⟨c, e1, e2, e3, e4, e5, e6⟩ := h.list ha
  refine ⟨c, e1, fun e => by rw [e] at e5; simp at e5, e3, fun i hi => ?_⟩
  by_cases hl : i + 1 < c.length
  · have e : (i + 1) % c.length = i + 1 := Nat.mod_eq_of_lt hl
    simp only [e]
    exact e4 i hl
  · have e7 : i = c.length - 1 := by omega
    have e : (i + 1) % c.length = 0 := by rw [show i + 1 = c.length by omega, Nat.mod_self]
    simp only [e]
    subst e7
    have : c[0] = a := by rw [List.getElem?_eq_getElem e5] at e2; simpa using e2
    rw [this]
    exact e6
theorem cyc_nodup' : ∀ (k : Nat) (c : List Nat), c.length ≤ k → c ≠ [] → Cyc W c → ∃ c', c' ≠ [] ∧ c'.Nodup ∧ Cyc W c' ∧ c'.length ≤ c.length
  | 0, c, hk, h0, _ => absurd (List.eq_nil_of_length_eq_zero (by omega)) h0
  | k + 1, c, hk, h0, h => by
    by_cases hd : c.Nodup
    · exact ⟨c, h0, hd, h, Nat.le_refl _⟩
    · obtain ⟨i, j, hij, hj, he⟩ : ∃ (i j : Nat) (hij : i < j) (hj : j < c.length), c[i] = c[j] := by
        refine Classical.byContradiction fun hn => hd ?_
        unfold List.Nodup
        rw [List.pairwise_iff_getElem]
        intro i j hi hj hij e
        exact hn ⟨i, j, hij, hj, e⟩
      have hlen : ((c.drop i).take (j - i)).length = j - i := by simp; omega
      obtain ⟨c', h1, h2, h3, h4⟩ := cyc_nodup' k _ (by omega) (fun e => by rw [e] at hlen; simp at hlen; omega) (h.part hij hj he)
      exact ⟨c', h1, h2, h3, by omega⟩
theorem AWalk.circle (hn : W.n ≤ 24) (hirr : ∀ p, p < W.n → hasS (W.to p) p = false) (ha : a < W.n) {j : Nat} (h : AWalk W a j a) : circlePart W W.n ≠ [] ∧ (circlePart W W.n).length ≤ j := by
  obtain ⟨c, e1, e2, e3⟩ := h.cyc ha
  obtain ⟨c', f1, f2, f3, f4⟩ := cyc_nodup' _ c (Nat.le_refl _) e2 e3
  obtain ⟨i, hi, hm⟩ := min_at _ f1
  have hwk := f3.walk f2 hi hm
  have hl := nodup_lt_length f2 f3.1
  have ha' := f3.1 _ (List.getElem_mem hi)
  obtain ⟨g1, g2⟩ := (leftOf_spec hn ha').2 _ (by omega) hwk
  obtain ⟨h3, h4⟩ := roundOf_circ hn hirr ha' g1
  have hne : roundOf W c'[i] ≠ [] := fun e => by have := h3.1; rw [e] at this; simp at this
  obtain ⟨h5, h6⟩ := (circlePart_spec W W.n).2 _ ha' hne
  exact ⟨h5, by omega⟩
theorem circle_walk (hn : W.n ≤ 24) (hirr : ∀ p, p < W.n → hasS (W.to p) p = false) (h : circlePart W W.n ≠ []) : (circlePart W W.n).length ≤ W.n ∧ ∃ a, a < W.n ∧ AWalk W a (circlePart W W.n).length a := by
  obtain ⟨a, ha, he, hr⟩ := (circlePart_spec W W.n).1 h
  obtain ⟨h1, h2⟩ := roundOf_circ hn hirr ha (roundOf_ne hr)
  have h3 := nodup_lt_length (circOk_cyc h1).2 (circOk_cyc h1).1.1
  rw [List.length_map] at h3
  have h4 := h1.1
  rw [he]
  refine ⟨h3, a, ha, ?_⟩
  have hw := (leftOf_spec hn ha).1.walk ((roundOf W a).length - 1) a (by rw [← h2]; omega)
  rw [show (roundOf W a).length - 1 + 1 = (roundOf W a).length by omega] at hw
  exact hw.awalk ha

/-- v is how many arcs lead from a back to a, at least; 0: none. -/
structure Short (W : Web) (a : Nat) (v : Int) : Prop where
  hit : v = 0 ∨ ∃ k : Nat, v = (k : Int) ∧ AWalk W a k a
  least : ∀ j, j ≤ W.n → AWalk W a j a → v ≠ 0 ∧ v ≤ (j : Int)
structure LenI (W : Web) (a : Nat) (len : Int) : Prop where
  hit : len = 0 ∨ ∃ b k : Nat, b < W.n ∧ len = (k : Int) ∧ AWalk W b k b
  least : ∀ b, b < a → ∀ j, j ≤ W.n → AWalk W b j b → len ≠ 0 ∧ len ≤ (j : Int)
theorem LenI.zero (W : Web) : LenI W 0 0 := ⟨.inl rfl, fun b h => by omega⟩
theorem LenI.yes {len v : Int} (h : LenI W a len) (hs : Short W a v) (ha : a < W.n) (hc : 0 < v ∧ (len = 0 ∨ v < len)) : LenI W (a + 1) v := by
  refine ⟨?_, fun b hb j hj hw => ?_⟩
  · rcases hs.hit with h1 | ⟨k, h1, h2⟩
    · omega
    · exact .inr ⟨a, k, ha, h1, h2⟩
  · by_cases hba : b = a
    · subst hba; exact hs.least j hj hw
    · have := h.least b (by omega) j hj hw
      omega
theorem LenI.no {len v : Int} (h : LenI W a len) (hs : Short W a v) (hc : ¬ (0 < v ∧ (len = 0 ∨ v < len))) : LenI W (a + 1) len := by
  refine ⟨h.hit, fun b hb j hj hw => ?_⟩
  by_cases hba : b = a
  · subst hba
    have h1 := hs.least j hj hw
    have h2 : 0 ≤ v := by rcases hs.hit with h2 | ⟨k, h2, _⟩ <;> omega
    omega
  · exact h.least b (by omega) j hj hw
theorem LenI.final {len : Int} (hn : W.n ≤ 24) (hirr : ∀ p, p < W.n → hasS (W.to p) p = false) (h : LenI W W.n len) : len = ((circlePart W W.n).length : Int) := by
  by_cases hc : circlePart W W.n = []
  · rw [hc]
    rcases h.hit with h1 | ⟨b, k, hb, h1, h2⟩
    · exact h1
    · exact absurd hc (h2.circle hn hirr hb).1
  · obtain ⟨h1, a, ha, hw⟩ := circle_walk hn hirr hc
    have h2 := h.least a ha _ h1 hw
    rcases h.hit with h3 | ⟨b, k, hb, h3, h4⟩
    · omega
    · have := (h4.circle hn hirr hb).2
      omega

/-! ### The layers of the reference -/

structure Front (W : Web) (a s : Nat) (now known : List Int) : Prop where
  no : ∀ j, j ≤ s → ¬ AWalk W a j a
  kn : ∀ x ∈ known, ∃ q j : Nat, x = (q : Int) ∧ q < W.n ∧ j ≤ s ∧ AWalk W a j q
  kc : ∀ j q, j ≤ s → AWalk W a j q → (q : Int) ∈ known
  nw : ∀ x ∈ now, ∃ q : Nat, x = (q : Int) ∧ q < W.n ∧ (s = 0 → q = a) ∧ (0 < s → AWalk W a s q)
  nc0 : s = 0 → (a : Int) ∈ now
  nc : 0 < s → ∀ q, AWalk W a s q → (∀ j, j < s → ¬ AWalk W a j q) → (q : Int) ∈ now
  d1 : now.Nodup
  d2 : known.Nodup
structure Mid (W : Web) (a s : Nat) (now known0 : List Int) (i b : Nat) (known next : List Int) : Prop where
  kn : ∀ x ∈ known, ∃ q j : Nat, x = (q : Int) ∧ q < W.n ∧ j ≤ s + 1 ∧ AWalk W a j q
  old : ∀ x ∈ known0, x ∈ known
  new : ∀ x ∈ known, x ∈ known0 ∨ x ∈ next
  nx : ∀ x ∈ next, ∃ q : Nat, x = (q : Int) ∧ q < W.n ∧ AWalk W a (s + 1) q
  nk : ∀ x ∈ next, x ∈ known
  fin : ∀ i' b' : Nat, (h : i' < now.length) → b' < W.n → (i' < i ∨ (i' = i ∧ b' < b)) → hasS (W.to now[i'].toNat) b' = true → (b' : Int) ∈ known ∧ b' ≠ a
  d1 : next.Nodup
  d2 : known.Nodup

theorem Front.zero (ha : a < W.n) : Front W a 0 [(a : Int)] [] :=
  ⟨fun j hj h => (by have := h.pos; omega), fun x hx => (by cases hx), fun j q hj h => (by have := h.pos; omega), fun x hx => (by simp at hx; exact ⟨a, hx, ha, fun _ => rfl, fun h => by omega⟩), fun _ => (by simp), fun h => (by omega), by simp, by simp⟩
section
variable {s : Nat} {now known : List Int}
theorem Front.reach (h : Front W a s now known) {x q : Nat} (hx : (x : Int) ∈ now) (hq : q < W.n) (hh : hasS (W.to x) q = true) : AWalk W a (s + 1) q := by
  obtain ⟨y, h1, h2, h3, h4⟩ := h.nw _ hx
  have : y = x := by omega
  subst this
  by_cases h0 : s = 0
  · subst h0
    have := h3 rfl
    subst this
    exact .one hh hq
  · exact .snoc (h4 (by omega)) hh hq
theorem Front.found (h : Front W a s now known) (ha : a < W.n) {x : Nat} (hx : (x : Int) ∈ now) (hh : hasS (W.to x) a = true) : Short W a ((s : Int) + 1) :=
  ⟨.inr ⟨s + 1, by omega, h.reach hx ha hh⟩, fun j _ hw => ⟨by omega, by
    have := h.no j
    by_cases hj : j ≤ s
    · exact absurd hw (this hj)
    · omega⟩⟩
theorem Front.none (h : Front W a W.n now known) : Short W a 0 := ⟨.inl rfl, fun j hj hw => absurd hw (h.no j hj)⟩
theorem Mid.start (h : Front W a s now known) : Mid W a s now known 0 0 known [] :=
  ⟨fun x hx => (by obtain ⟨q, j, h1, h2, h3, h4⟩ := h.kn x hx; exact ⟨q, j, h1, h2, by omega, h4⟩), fun x hx => hx, fun x hx => .inl hx, fun x hx => (by cases hx), fun x hx => (by cases hx), fun i b h1 h2 h3 => (by omega), by simp, h.d2⟩
variable {known0 next : List Int} {i b : Nat}
theorem Mid.no (h : Mid W a s now known0 i b known next) (hi : i < now.length) (hh : hasS (W.to now[i].toNat) b = false) : Mid W a s now known0 i (b + 1) known next :=
  ⟨h.kn, h.old, h.new, h.nx, h.nk, fun i' b' h1 h2 h3 h4 => (by
      by_cases e : i' = i ∧ b' = b
      · obtain ⟨rfl, rfl⟩ := e; rw [hh] at h4; cases h4
      · exact h.fin i' b' h1 h2 (by omega) h4), h.d1, h.d2⟩
theorem Mid.seen (h : Mid W a s now known0 i b known next) (hb : (b : Int) ∈ known) (hba : b ≠ a) : Mid W a s now known0 i (b + 1) known next :=
  ⟨h.kn, h.old, h.new, h.nx, h.nk, fun i' b' h1 h2 h3 h4 => (by
      by_cases e : b' = b
      · subst e; exact ⟨hb, hba⟩
      · exact h.fin i' b' h1 h2 (by omega) h4), h.d1, h.d2⟩
theorem Mid.add (h : Mid W a s now known0 i b known next) (hb : ¬ (b : Int) ∈ known) (hba : b ≠ a) (hbn : b < W.n) (hw : AWalk W a (s + 1) b) : Mid W a s now known0 i (b + 1) (known ++ [(b : Int)]) (next ++ [(b : Int)]) := by
  refine ⟨fun x hx => ?_, fun x hx => List.mem_append_left _ (h.old x hx), fun x hx => ?_, fun x hx => ?_, fun x hx => ?_, fun i' b' h1 h2 h3 h4 => ?_, ?_, ?_⟩
  · rcases List.mem_append.1 hx with hx | hx
    · exact h.kn x hx
    · simp at hx; exact ⟨b, s + 1, hx, hbn, Nat.le_refl _, hw⟩
  · rcases List.mem_append.1 hx with hx | hx
    · rcases h.new x hx with h1 | h1
      · exact .inl h1
      · exact .inr (List.mem_append_left _ h1)
    · exact .inr (List.mem_append_right _ hx)
  · rcases List.mem_append.1 hx with hx | hx
    · exact h.nx x hx
    · simp at hx; exact ⟨b, hx, hbn, hw⟩
  · rcases List.mem_append.1 hx with hx | hx
    · exact List.mem_append_left _ (h.nk x hx)
    · exact List.mem_append_right _ hx
  · by_cases e : b' = b
    · subst e; exact ⟨List.mem_append_right _ (by simp), hba⟩
    · obtain ⟨g1, g2⟩ := h.fin i' b' h1 h2 (by omega) h4
      exact ⟨List.mem_append_left _ g1, g2⟩
  · rw [List.nodup_append]
    exact ⟨h.d1, by simp, fun x hx y hy e => by simp at hy; subst hy; subst e; exact hb (h.nk _ hx)⟩
  · rw [List.nodup_append]
    exact ⟨h.d2, by simp, fun x hx y hy e => by simp at hy; subst hy; subst e; exact hb hx⟩
theorem Mid.turn (h : Mid W a s now known0 i W.n known next) : Mid W a s now known0 (i + 1) 0 known next :=
  { h with fin := fun i' b' h1 h2 h3 h4 => h.fin i' b' h1 h2 (by omega) h4 }
theorem Mid.done (h : Mid W a s now known0 now.length 0 known next) (hf : Front W a s now known0) : Front W a (s + 1) next known := by
  -- what s + 1 arcs lead to has been seen
  have key : ∀ q, AWalk W a (s + 1) q → (∀ j, j < s + 1 → ¬ AWalk W a j q) → (q : Int) ∈ known ∧ q ≠ a := by
    intro q hw hmin
    have hqn := hw.lt
    have : ∃ x : Nat, (x : Int) ∈ now ∧ hasS (W.to x) q = true := by
      cases hw with
      | one hh _ => exact ⟨a, hf.nc0 rfl, hh⟩
      | @snoc _ m _ hw h1 h2 =>
        refine ⟨m, hf.nc hw.pos m hw (fun j hj hw' => ?_), h1⟩
        exact hmin (j + 1) (by omega) (.snoc hw' h1 hqn)
    obtain ⟨x, hx, hh⟩ := this
    obtain ⟨i', hi', he⟩ := List.getElem_of_mem hx
    exact h.fin i' q hi' hqn (.inl hi') (by rw [he]; simpa using hh)
  refine ⟨fun j hj hw => ?_, h.kn, fun j q hj hw => ?_, fun x hx => ?_, fun h => by omega, fun _ q hw hmin => ?_, h.d1, h.d2⟩
  · by_cases hjs : j ≤ s
    · exact hf.no j hjs hw
    · have e : j = s + 1 := by omega
      subst e
      exact (key a hw (fun j hj hw' => hf.no j (by omega) hw')).2 rfl
  · by_cases hm : ∃ j', j' ≤ s ∧ AWalk W a j' q
    · obtain ⟨j', h1, h2⟩ := hm
      exact h.old _ (hf.kc j' q h1 h2)
    · have e : j = s + 1 := by
        by_cases hjs : j ≤ s
        · exact absurd ⟨j, hjs, hw⟩ hm
        · omega
      subst e
      exact (key q hw (fun j hj hw' => hm ⟨j, by omega, hw'⟩)).1
  · obtain ⟨q, h1, h2, h3⟩ := h.nx x hx
    exact ⟨q, h1, h2, fun h => by omega, fun _ => h3⟩
  · have h1 := (key q hw hmin).1
    rcases h.new _ h1 with h2 | h2
    · obtain ⟨q', j, e, _, h3, h4⟩ := hf.kn _ h2
      have : q' = q := by omega
      subst this
      exact absurd h4 (hmin j (by omega))
    · exact h2
theorem Front.len (h : Front W a s now known) : now.length ≤ W.n ∧ known.length ≤ W.n := by
  have key : ∀ l : List Int, l.Nodup → (∀ x ∈ l, ∃ q : Nat, x = (q : Int) ∧ q < W.n) → l.length ≤ W.n := by
    intro l hd hb
    have hsub : l ⊆ (List.range W.n).map (fun p : Nat => (p : Int)) := fun x hx => by
      obtain ⟨q, rfl, hq⟩ := hb x hx
      exact List.mem_map.2 ⟨q, List.mem_range.2 hq, rfl⟩
    have := List.Nodup.length_le_of_subset hd hsub
    simpa using this
  exact ⟨key _ h.d1 fun x hx => by obtain ⟨q, h1, h2, _⟩ := h.nw x hx; exact ⟨q, h1, h2⟩, key _ h.d2 fun x hx => by obtain ⟨q, j, h1, h2, _⟩ := h.kn x hx; exact ⟨q, h1, h2⟩⟩
theorem Mid.len (h : Mid W a s now known0 i b known next) : next.length ≤ W.n ∧ known.length ≤ W.n := by
  have key : ∀ l : List Int, l.Nodup → (∀ x ∈ l, ∃ q : Nat, x = (q : Int) ∧ q < W.n) → l.length ≤ W.n := by
    intro l hd hb
    have hsub : l ⊆ (List.range W.n).map (fun p : Nat => (p : Int)) := fun x hx => by
      obtain ⟨q, rfl, hq⟩ := hb x hx
      exact List.mem_map.2 ⟨q, List.mem_range.2 hq, rfl⟩
    have := List.Nodup.length_le_of_subset hd hsub
    simpa using this
  exact ⟨key _ h.d1 fun x hx => by obtain ⟨q, h1, h2, _⟩ := h.nx x hx; exact ⟨q, h1, h2⟩, key _ h.d2 fun x hx => by obtain ⟨q, j, h1, h2, _⟩ := h.kn x hx; exact ⟨q, h1, h2⟩⟩
end
end
end Go.Proofs.Yteljjkghjbofnaa
