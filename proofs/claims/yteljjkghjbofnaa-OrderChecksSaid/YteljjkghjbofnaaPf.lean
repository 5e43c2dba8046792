/- Plain law: circles. -/
import Derived.Test.YteljjkghjbofnaaPe
import Derived.Test.YteljjkghjbofnaaWt
set_option maxRecDepth 100000
namespace Go.Proofs.Yteljjkghjbofnaa
open Go Go.Proofs Go.RowKit

/-! ### Circles as lists -/

/-- Each patch of c is followed by the next one, the last one by the first one. -/
def Cyc (W : Web) (c : List Nat) : Prop := (∀ x ∈ c, x < W.n) ∧ ∀ i, (h : i < c.length) → hasS (W.to c[i]) (c[(i + 1) % c.length]'(Nat.mod_lt _ (by omega))) = true

section
variable {W : Web} {a : Nat}

theorem Path.list {b : Nat} (h : Path W.to W.n a b) (ha : a < W.n) : ∃ c : List Nat, ∃ t, c = a :: t ∧ (∀ x ∈ c, x < W.n) ∧ (∀ i, (h : i + 1 < c.length) → hasS (W.to c[i]) c[i + 1] = true) ∧ ∃ h : 0 < c.length, hasS (W.to (c[c.length - 1]'(by omega))) b = true := by
  induction h with
  | arc h1 => exact ⟨_, [], rfl, by simpa using ha, fun i h => by simp at h, by simp, by simpa using h1⟩
  | cons h1 hm _ ih =>
    rename_i a m b _
    obtain ⟨c, t, rfl, h2, h3, h4, h5⟩ := ih hm
    refine ⟨a :: m :: t, m :: t, rfl, ?_, ?_, by simp, ?_⟩
    · intro x hx
      rcases List.mem_cons.1 hx with rfl | hx
      · exact ha
      · exact h2 x hx
    · intro i h
      cases i with
      | zero => simpa using h1
      | succ i => exact h3 i (by simpa using h)
    · simpa using h5
theorem cyc_of_path (h : Path W.to W.n a a) (ha : a < W.n) : ∃ c, c ≠ [] ∧ Cyc W c := by
  obtain ⟨c, t, hc, h2, h3, h4, h5⟩ := h.list ha
  refine ⟨c, by rw [hc]; simp, h2, fun i hi => ?_⟩
  by_cases hl : i + 1 < c.length
  · have e : (i + 1) % c.length = i + 1 := Nat.mod_eq_of_lt hl
    simp only [e]
    exact h3 i hl
  · have e1 : i = c.length - 1 := by omega
    have e : (i + 1) % c.length = 0 := by rw [show i + 1 = c.length by omega, Nat.mod_self]
    simp only [e]
    subst e1
    have : c[0] = a := by subst hc; rfl
    rw [this]
    exact h5

/-- A part of a circle between two equal patches. -/
theorem Cyc.part {c : List Nat} (h : Cyc W c) {i j : Nat} (hij : i < j) (hj : j < c.length) (he : c[i] = c[j]) : Cyc W ((c.drop i).take (j - i)) := by
  have hlen : ((c.drop i).take (j - i)).length = j - i := by simp; omega
  refine ⟨fun x hx => h.1 x (List.mem_of_mem_drop (List.mem_of_mem_take hx)), fun k hk => ?_⟩
  rw [hlen] at hk
  have g : ∀ k (hk : k < j - i), ((c.drop i).take (j - i))[k]'(by omega) = c[i + k] := fun k hk => by simp
  have h1 := h.2 (i + k) (by omega)
  have e1 : (i + k + 1) % c.length = i + k + 1 := Nat.mod_eq_of_lt (by omega)
  simp only [e1] at h1
  rw [g k hk]
  by_cases hl : k + 1 < j - i
  · have e : (k + 1) % ((c.drop i).take (j - i)).length = k + 1 := by rw [hlen]; exact Nat.mod_eq_of_lt hl
    simp only [e]
    rw [g (k + 1) hl]
    exact h1
  · have e : (k + 1) % ((c.drop i).take (j - i)).length = 0 := by rw [hlen, show k + 1 = j - i by omega, Nat.mod_self]
    simp only [e]
    rw [g 0 (by omega)]
    simp only [Nat.add_zero]
    rw [he]
    have : i + k + 1 = j := by omega
    simp only [this] at h1
    exact h1
/-- There is a circle of different patches. -/
theorem cyc_nodup : ∀ (k : Nat) (c : List Nat), c.length ≤ k → c ≠ [] → Cyc W c → ∃ c', c' ≠ [] ∧ c'.Nodup ∧ Cyc W c'
  | 0, c, hk, h0, _ => absurd (List.eq_nil_of_length_eq_zero (by omega)) h0
  | k + 1, c, hk, h0, h => by
    by_cases hd : c.Nodup
    · exact ⟨c, h0, hd, h⟩
    · obtain ⟨i, j, hij, hj, he⟩ : ∃ (i j : Nat) (hij : i < j) (hj : j < c.length), c[i] = c[j] := by
        refine Classical.byContradiction fun hn => hd ?_
        unfold List.Nodup
        rw [List.pairwise_iff_getElem]
        intro i j hi hj hij e
        exact hn ⟨i, j, hij, hj, e⟩
      have hlen : ((c.drop i).take (j - i)).length = j - i := by simp; omega
      exact cyc_nodup k _ (by omega) (fun e => by rw [e] at hlen; simp at hlen; omega) (h.part hij hj he)

theorem min_at : ∀ (c : List Nat), c ≠ [] → ∃ (i : Nat) (h : i < c.length), ∀ x ∈ c, c[i] ≤ x
  | [x], _ => ⟨0, by simp, by simp⟩
  | x :: y :: t, _ => by
    obtain ⟨i, h, hm⟩ := min_at (y :: t) (by simp)
    by_cases hx : x ≤ (y :: t)[i]
    · refine ⟨0, by simp, fun z hz => ?_⟩
      rcases List.mem_cons.1 hz with rfl | hz
      · simp
      · exact Nat.le_trans hx (hm z hz)
    · refine ⟨i + 1, by simpa using h, fun z hz => ?_⟩
      rcases List.mem_cons.1 hz with rfl | hz
      · simp only [List.getElem_cons_succ]; omega
      · simpa using hm z hz

/-- A circle of different patches is a walk from its least patch back. -/
theorem Cyc.walk {c : List Nat} (h : Cyc W c) (hd : c.Nodup) {i : Nat} (hi : i < c.length) (hm : ∀ x ∈ c, c[i] ≤ x) : WalkTo W c[i] c.length c[i] := by
  have hL : 0 < c.length := by omega
  have key : ∀ s, 0 < s → s ≤ c.length → WalkTo W c[i] s (c[(i + (c.length - s)) % c.length]'(Nat.mod_lt _ hL)) := by
    intro s
    induction s with
    | zero => intro h; omega
    | succ s ih =>
      intro _ hs
      have h1 := h.2 ((i + (c.length - (s + 1))) % c.length) (Nat.mod_lt _ hL)
      have e : ((i + (c.length - (s + 1))) % c.length + 1) % c.length = (i + (c.length - s)) % c.length := by
        rw [Nat.mod_add_mod]
        congr 1
        omega
      simp only [e] at h1
      by_cases h0 : s = 0
      · subst h0
        have e2 : (i + (c.length - 0)) % c.length = i := by rw [Nat.sub_zero, Nat.add_mod_right]; exact Nat.mod_eq_of_lt hi
        simp only [e2] at h1
        exact .one h1
      · refine .step h1 ?_ (h.1 _ (List.getElem_mem _)) (ih (by omega) (by omega))
        have hle := hm _ (List.getElem_mem (l := c) (n := (i + (c.length - s)) % c.length) (Nat.mod_lt _ hL))
        refine Nat.lt_of_le_of_ne hle fun heq => ?_
        have := (List.getElem_inj hd).1 heq
        have h3 : (i + (c.length - s)) % c.length = i := this.symm
        by_cases h4 : i + (c.length - s) < c.length
        · rw [Nat.mod_eq_of_lt h4] at h3; omega
        · rw [Nat.mod_eq_sub_mod (by omega), Nat.mod_eq_of_lt (by omega)] at h3; omega
  have := key c.length hL (Nat.le_refl _)
  have e2 : (i + (c.length - c.length)) % c.length = i := by rw [Nat.sub_self, Nat.add_zero]; exact Nat.mod_eq_of_lt hi
  simp only [e2] at this
  exact this

theorem nodup_lt_length {c : List Nat} {n : Nat} (hd : c.Nodup) (h : ∀ x ∈ c, x < n) : c.length ≤ n := by
  have := List.Nodup.length_le_of_subset hd (fun x hx => List.mem_range.2 (h x hx))
  simpa using this

/-! ### The circle that 'round' finds -/

/-- What a circle is. -/
def circOk (W : Web) (l : List Int) : Prop := 2 ≤ l.length ∧ (∀ p ∈ l, 0 ≤ p ∧ p < (W.n : Int)) ∧ l.Nodup ∧ ∀ i, i < l.length → hasS (W.to (l.getD i 0).toNat) (l.getD ((i + 1) % l.length) 0).toNat = true

theorem findNext_is {left : List Int} {last : Nat} {m : Int} (h : ∃ q, a < q ∧ q < W.n ∧ hasS (W.to last) q = true ∧ left.getD q 0 = m) : ∃ q, findNext W a left last m = some q ∧ a < q ∧ q < W.n ∧ hasS (W.to last) q = true ∧ left.getD q 0 = m := by
  obtain ⟨q, h1, h2, h3, h4⟩ := h
  unfold findNext
  cases hf : (List.range' (a + 1) (W.n - (a + 1))).find? fun q => hasS (W.to last) q && left.getD q 0 == m with
  | none =>
    rw [List.find?_eq_none] at hf
    have := hf q (by rw [List.mem_range'_1]; omega)
    simp [h3] at this
    rw [List.getD_eq_getElem?_getD] at h4
    exact absurd h4 this
  | some r =>
    have h5 := List.find?_some hf
    have h6 := List.mem_of_find?_eq_some hf
    rw [List.mem_range'_1] at h6
    simp only [Bool.and_eq_true, beq_iff_eq] at h5
    exact ⟨r, rfl, by omega, by omega, h5.1, h5.2⟩

/-- The way so far: it falls from k + 1 by one at each step. -/
structure Way (W : Web) (a : Nat) (left : List Int) (L m : Nat) (out : List Int) : Prop where
  len : out.length + m = L
  get : ∀ i, (h : i < out.length) → ∃ p : Nat, out[i] = (p : Int) ∧ p < W.n ∧ a ≤ p ∧ left.getD p 0 = ((L - i : Nat) : Int)
  arc : ∀ i, (h : i + 1 < out.length) → hasS (W.to out[i].toNat) out[i + 1].toNat = true
  first : ∃ t, out = (a : Int) :: t

theorem pathL_way {left : List Int} (hb : Back W a left) {L : Nat} : ∀ (m : Nat) (out : List Int), m < L → Way W a left L m out → Way W a left L 0 (pathL W a left out m)
  | 0, out, _, h => h
  | m + 1, out, hm, h => by
    unfold pathL
    refine pathL_way hb m _ (by omega) ?_
    obtain ⟨t, ht⟩ := h.first
    have hlen := h.len
    have h0 : 0 < out.length := by rw [ht]; simp
    obtain ⟨p, hp, hpn, hap, hpl⟩ := h.get (out.length - 1) (by omega)
    have hlast : out.getLastD 0 = (p : Int) := by
      rw [← hp]
      rw [List.getLastD_eq_getLast?, List.getLast?_eq_getElem?, List.getElem?_eq_getElem (by omega)]
      rfl
    have e1 : L - (out.length - 1) = (m + 1) + 1 := by omega
    rw [e1] at hpl
    obtain ⟨_, _, j, hj, hq⟩ := hb.back p (by omega)
    have ej : j = m + 1 := by omega
    subst ej
    rcases hq with ⟨hq, _⟩ | ⟨_, q, q1, q2, q3, q4⟩
    · omega
    · obtain ⟨r, r1, r2, r3, r4, r5⟩ := findNext_is (W := W) (a := a) (left := left) (last := p) (m := ((m + 1 : Nat) : Int)) ⟨q, q2, q3, q1, q4⟩
      have e2 : pathStep W a left out ((m + 1 : Nat) : Int) = out ++ [(r : Int)] := by
        unfold pathStep
        rw [hlast, Int.toNat_natCast, r1]
      rw [e2]
      refine ⟨by simp; omega, fun i hi => ?_, fun i hi => ?_, ?_⟩
      · by_cases hil : i < out.length
        · rw [List.getElem_append_left hil]; exact h.get i hil
        · have : i = out.length := by simp at hi; omega
          subst this
          rw [List.getElem_append_right (by omega)]
          refine ⟨r, by simp, r3, by omega, ?_⟩
          rw [r5]
          congr 1
          omega
      · by_cases hil : i + 1 < out.length
        · rw [List.getElem_append_left (by omega), List.getElem_append_left hil]; exact h.arc i hil
        · have : i = out.length - 1 := by simp at hi; omega
          subst this
          rw [List.getElem_append_left (by omega), List.getElem_append_right (by omega), hp]
          simpa using r4
      · exact ⟨t ++ [(r : Int)], by rw [ht]; rfl⟩

theorem roundOf_circ (hn : W.n ≤ 24) (hirr : ∀ p, p < W.n → hasS (W.to p) p = false) (ha : a < W.n) (h : (leftOf W a).getD a 0 ≠ 0) : circOk W (roundOf W a) ∧ ((roundOf W a).length : Int) = (leftOf W a).getD a 0 := by
  obtain ⟨hb, _⟩ := leftOf_spec hn ha
  unfold roundOf
  rw [if_neg h]
  generalize leftOf W a = left at *
  obtain ⟨_, _, j, hj, hq⟩ := hb.back a h
  have hw0 : Way W a left (j + 1) j [(a : Int)] := ⟨by simp; omega, fun i hi => by
    have : i = 0 := by simpa using hi
    subst this
    exact ⟨a, rfl, ha, Nat.le_refl _, by rw [hj]; rfl⟩, fun i hi => by simp at hi, ⟨[], rfl⟩⟩
  have e : (left.getD a 0 - 1).toNat = j := by omega
  rw [e]
  have hw := pathL_way hb j [(a : Int)] (by omega) hw0
  generalize pathL W a left [(a : Int)] j = out at *
  have hlen : out.length = j + 1 := by have := hw.len; omega
  refine ⟨⟨?_, ?_, ?_, ?_⟩, by rw [hj]; omega⟩
  · rcases hq with ⟨rfl, h1⟩ | ⟨h0, _⟩
    · rw [hirr a ha] at h1; cases h1
    · omega
  · intro p hp
    obtain ⟨i, hi, rfl⟩ := List.getElem_of_mem hp
    obtain ⟨q, hq1, hq2, _⟩ := hw.get i hi
    rw [hq1]; omega
  · unfold List.Nodup
    rw [List.pairwise_iff_getElem]
    intro i k hi hk hik he
    obtain ⟨q, hq1, _, _, hq2⟩ := hw.get i hi
    obtain ⟨r, hr1, _, _, hr2⟩ := hw.get k hk
    have : q = r := by omega
    subst this
    omega
  · intro i hi
    have hg : ∀ k, (hk : k < out.length) → out.getD k 0 = out[k] := fun k hk => by rw [List.getD_eq_getElem?_getD, List.getElem?_eq_getElem hk]; rfl
    rw [hg i hi]
    by_cases hl : i + 1 < out.length
    · rw [Nat.mod_eq_of_lt hl, hg _ hl]
      exact hw.arc i hl
    · have e1 : i = j := by omega
      rw [show i + 1 = out.length by omega, Nat.mod_self, hg 0 (by omega)]
      obtain ⟨q, hq1, hq2, hq3, hq4⟩ := hw.get i hi
      obtain ⟨t, ht⟩ := hw.first
      have e0 : out[0] = (a : Int) := by subst ht; rfl
      rw [e0, hq1]
      simp only [Int.toNat_natCast]
      obtain ⟨_, _, j', hj', hq'⟩ := hb.back q (by omega)
      have : j' = 0 := by omega
      subst this
      rcases hq' with ⟨_, h1⟩ | ⟨h0, _⟩
      · exact h1
      · omega

theorem circOk_cyc {l : List Int} (h : circOk W l) : Cyc W (l.map Int.toNat) ∧ (l.map Int.toNat).Nodup := by
  obtain ⟨h1, h2, h3, h4⟩ := h
  have hg : ∀ k, (hk : k < l.length) → l.getD k 0 = l[k] := fun k hk => by rw [List.getD_eq_getElem?_getD, List.getElem?_eq_getElem hk]; rfl
  refine ⟨⟨fun x hx => ?_, fun i hi => ?_⟩, ?_⟩
  · obtain ⟨p, hp, rfl⟩ := List.mem_map.1 hx
    have := h2 p hp
    omega
  · simp only [List.length_map] at hi
    have := h4 i hi
    have hm : (i + 1) % l.length < l.length := Nat.mod_lt _ (by omega)
    rw [hg i hi, hg _ hm] at this
    simpa using this
  · unfold List.Nodup
    rw [List.pairwise_map]
    rw [List.nodup_iff_pairwise_ne] at h3
    refine List.Pairwise.imp_of_mem (fun {x y} hx hy hne he => hne ?_) h3
    have := h2 x hx
    have := h2 y hy
    omega

/-- A circle is not shorter than one that 'round' finds. -/
theorem circOk_round (hn : W.n ≤ 24) {l : List Int} (h : circOk W l) : ∃ a, a < W.n ∧ (leftOf W a).getD a 0 ≠ 0 ∧ (leftOf W a).getD a 0 ≤ (l.length : Int) := by
  obtain ⟨hc, hd⟩ := circOk_cyc h
  have h0 : l.map Int.toNat ≠ [] := fun e => by have := h.1; have := congrArg List.length e; simp at this; subst this; simp at *
  obtain ⟨i, hi, hm⟩ := min_at _ h0
  have hw := hc.walk hd hi hm
  have hl := nodup_lt_length hd hc.1
  have ha := hc.1 _ (List.getElem_mem hi)
  have := (leftOf_spec hn ha).2 _ (by omega) hw
  rw [List.length_map] at this
  exact ⟨_, ha, this⟩
theorem circB_round (hn : W.n ≤ 24) (hw : Woven W) (hc : circB W = true) : ∃ a, a < W.n ∧ (leftOf W a).getD a 0 ≠ 0 := by
  unfold circB at hc
  rw [List.any_eq_true] at hc
  obtain ⟨a, ha, hr⟩ := hc
  have ha := List.mem_range.1 ha
  obtain ⟨c, h0, h1⟩ := cyc_of_path (hw.path a a ha hr) ha
  obtain ⟨c', h0', hd, h1'⟩ := cyc_nodup _ c (Nat.le_refl _) h0 h1
  obtain ⟨i, hi, hm⟩ := min_at _ h0'
  have hwk := h1'.walk hd hi hm
  have hl := nodup_lt_length hd h1'.1
  have ha' := h1'.1 _ (List.getElem_mem hi)
  exact ⟨_, ha', ((leftOf_spec hn ha').2 _ (by omega) hwk).1⟩
end
end Go.Proofs.Yteljjkghjbofnaa
