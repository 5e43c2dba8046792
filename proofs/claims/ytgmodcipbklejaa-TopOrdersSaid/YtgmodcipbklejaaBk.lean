/- order.Check, order.Days, order.CheckDays at this seat, a further part (see A). -/
import Derived.Test.YtgmodcipbklejaaB
import Derived.Lib.BitFns
import Derived.Lib.Walk
import Derived.Lib.Small
namespace Go.Proofs.Ytgmodcipbklejaa
section
set_option maxRecDepth 100000
open Go Go.Proofs Go.RowKit
attribute [local go_sem] Oper.semAt_some
section
variable {B wb sb bb fb nb b ks : Nat} {W : Web} {some_ : S} {next before : List Int} {X Y : World} {s : S}
end
set_option maxRecDepth 100000
open Go Go.Proofs Go.RowKit
attribute [local go_sem] Oper.semAt_some
theorem Arr.range {X : World} {g : Nat} {xs : List Int} (h : Arr X g xs) : X.rangeAt g 0 (xs.map (Value.int .i64)) := by
  intro j v hv
  rw [List.getElem?_map] at hv
  cases hx : xs[j]? with
  | none => rw [hx] at hv; cases hv
  | some x =>
    rw [hx] at hv
    cases hv
    obtain ⟨hj, rfl⟩ := List.getElem?_eq_some_iff.1 hx
    rw [Nat.zero_add]
    exact h.get j hj
theorem Arr.there {X : World} {g : Nat} {xs : List Int} (h : Arr X g xs) : X.there g 0 xs.length := by
  intro j hj
  rw [Nat.zero_add]
  exact ⟨by rw [h.get j hj]; rfl, h.free j⟩
set_option maxRecDepth 100000
open Go Go.Proofs Go.RowKit
attribute [local go_sem] Oper.semAt_some
set_option maxRecDepth 100000
open Go Go.Proofs Go.RowKit
attribute [local go_sem] Oper.semAt_some
end
section
set_option maxRecDepth 100000
open Go Go.Proofs Go.RowKit
set_option maxRecDepth 100000
open Go Go.Proofs Go.RowKit
attribute [local go_sem] Oper.semAt_some
theorem Pairs.set {X : World} {g k o : Nat} {l : List (Int × Int)} (h : Pairs X (some ⟨g, 0, none⟩) l) (hne : g ≠ k) (u : Value) : Pairs (X.setCell ⟨k, o, none⟩ u) (some ⟨g, 0, none⟩) l := by
  intro i hi
  obtain ⟨b, off, e, h1, h2⟩ := h i hi
  simp only [Option.some.injEq, Addr.mk.injEq] at e
  obtain ⟨rfl, rfl, -⟩ := e
  exact ⟨g, 0, rfl, cell_set_block h1 hne, cell_set_block h2 hne⟩
set_option maxRecDepth 100000
open Go Go.Proofs Go.RowKit
attribute [local go_sem] Oper.semAt_some
end
section
set_option maxRecDepth 100000
open Go Go.Proofs Go.RowKit
theorem near_fold_ge {W : Web} {dry : Int} {p : Nat} : ∀ (qs : List Int) (out : List Int), p < out.length → (∀ q ∈ qs, q.toNat ≠ p) → ∀ q ∈ qs, hasS (W.near p) q.toNat = true → out.getD q.toNat 0 + dry + 1 ≤ (qs.foldl (dayNear W dry p) out).getD p 0
  | [], _, _, _, q, hq, _ => by cases hq
  | r :: qs, out, h, hne, q, hq, hn => by
    have hl := dayNear_length W dry p out r
    have hr := hne r (List.mem_cons_self ..)
    rw [List.foldl_cons]
    rcases List.mem_cons.1 hq with rfl | hq
    · refine Int.le_trans ?_ (near_fold (W := W) (dry := dry) (p := p) qs _ (by rw [hl]; exact h)).2.1
      unfold dayNear
      rw [if_pos hn, getD_set_same h]
      exact Int.le_max_right _ _
    · have h2 := near_fold_ge (W := W) (dry := dry) (p := p) qs (dayNear W dry p out r) (by rw [hl]; exact h) (fun x hx => hne x (List.mem_cons_of_mem _ hx)) q hq hn
      rw [dayNear_other (Ne.symm (hne q (List.mem_cons_of_mem _ hq)))] at h2
      exact h2
section
variable {W : Web} {dry : Int} {l : List Int}
theorem days_near (hin : ∀ p ∈ l, 0 ≤ p ∧ p < (W.n : Int)) (hnd : l.Nodup) {i j : Nat} (hj : j < i) (h : i < l.length) (hn : hasS (W.near (l.getD i 0).toNat) (l.getD j 0).toNat = true) :
    (daysOf W dry l).getD (l.getD j 0).toNat 0 + dry + 1 ≤ (daysOf W dry l).getD (l.getD i 0).toNat 0 := by
  unfold daysOf
  obtain ⟨p, hp, hpn, hp'⟩ := getD_nat (W := W) hin h
  obtain ⟨r, hr, hrn, hr'⟩ := getD_nat (W := W) hin (show j < l.length by omega)
  have hlen := daysPart_length W dry l i
  rw [daysPart_stays hin hnd h l.length h (Nat.le_refl _), daysPart_stays hin hnd (show j < l.length by omega) l.length (by omega) (Nat.le_refl _), ← daysPart_stays hin hnd (show j < l.length by omega) i hj (by omega), daysPart_succ W dry l i]
  unfold dayStep
  have e : (l.getD i 0).toNat = p := by rw [hp]; rfl
  rw [e] at hn ⊢
  have hfl : (dayFirst l i (daysPart W dry l i)).length = W.n := by unfold dayFirst; split <;> simp [hlen]
  have hne : ∀ q ∈ l.take i, q.toNat ≠ p := by
    intro q hq
    obtain ⟨k, hk, hkq⟩ := List.getElem_of_mem hq
    have hki : k < i := by simp at hk; omega
    rw [List.getElem_take] at hkq
    intro e2
    have hq0 := hin q (List.mem_of_mem_take hq)
    have : l[k] = l[i] := by rw [hkq, hp']; omega
    have := (List.getElem_inj hnd).1 this
    omega
  have hm : l.getD j 0 ∈ l.take i := by rw [getD_mem (show j < l.length by omega)]; exact take_mem_lt (by omega) hj
  have h2 := near_fold_ge (W := W) (dry := dry) (p := p) (l.take i) (dayFirst l i (daysPart W dry l i)) (by rw [hfl]; exact hpn) hne _ hm hn
  refine Int.le_trans ?_ h2
  have hfirst : (dayFirst l i (daysPart W dry l i)).getD (l.getD j 0).toNat 0 = (daysPart W dry l i).getD (l.getD j 0).toNat 0 := by
    unfold dayFirst
    split
    · rw [e]; exact getD_set_other (Ne.symm (hne _ hm)) _ _
    · rfl
  rw [hfirst]
  exact Int.le_refl _
/-- Where a patch lies in an order. -/
theorem at_full (hl : l.length = W.n) (hin : ∀ p ∈ l, 0 ≤ p ∧ p < (W.n : Int)) (hnd : l.Nodup) {q : Nat} (hq : q < W.n) : ∃ i, i < l.length ∧ l.getD i 0 = (q : Int) := by
  obtain ⟨i, hi, e⟩ := List.getElem_of_mem (mem_full hl hin hnd hq)
  exact ⟨i, hi, by rw [getD_mem hi]; exact e⟩
theorem days_lt_iff (hin : ∀ p ∈ l, 0 ≤ p ∧ p < (W.n : Int)) (hnd : l.Nodup) {i j : Nat} (_hi : i < l.length) (hj : j < l.length) (h : (daysOf W dry l).getD (l.getD j 0).toNat 0 < (daysOf W dry l).getD (l.getD i 0).toNat 0) : j < i := by
  rcases Nat.lt_trichotomy i j with h1 | h1 | h1
  · have := days_lt (W := W) (dry := dry) hin hnd j h1 hj; omega
  · subst h1; omega
  · exact h1
/-- Why a day is not earlier, by places. -/
theorem days_whyAt (hl : l.length = W.n) (hin : ∀ p ∈ l, 0 ≤ p ∧ p < (W.n : Int)) (hnd : l.Nodup) (hd : 0 ≤ dry) {i : Nat} (h0 : 0 < i) (h : i < l.length) :
    (daysOf W dry l).getD (l.getD i 0).toNat 0 = (daysOf W dry l).getD (l.getD (i - 1) 0).toNat 0 + 1 ∨
    ∃ j, j < i ∧ hasS (W.near (l.getD i 0).toNat) (l.getD j 0).toNat = true ∧ (daysOf W dry l).getD (l.getD i 0).toNat 0 = (daysOf W dry l).getD (l.getD j 0).toNat 0 + dry + 1 := by
  rcases days_why (W := W) (dry := dry) hin hnd h0 h with h1 | ⟨q, hq, hn, h1⟩
  · exact .inl h1
  · obtain ⟨j, hj, ej⟩ := at_full hl hin hnd hq
    have e : (l.getD j 0).toNat = q := by rw [ej]; rfl
    exact .inr ⟨j, days_lt_iff (W := W) (dry := dry) hin hnd h hj (by rw [e]; omega), by rw [e]; exact hn, by rw [e]; exact h1⟩
theorem days_bound (hl : l.length = W.n) (hin : ∀ p ∈ l, 0 ≤ p ∧ p < (W.n : Int)) (hnd : l.Nodup) (hd : 0 ≤ dry ∧ dry ≤ 30) : ∀ (m i : Nat), i < m → i < l.length → (daysOf W dry l).getD (l.getD i 0).toNat 0 ≤ 31 * (i : Int) ∧ (i : Int) ≤ (daysOf W dry l).getD (l.getD i 0).toNat 0
  | 0, _, h, _ => absurd h (Nat.not_lt_zero _)
  | m + 1, i, hm, h => by
    by_cases h0 : i = 0
    · subst h0
      have := days_zero (W := W) (dry := dry) hin hnd h
      omega
    · have hp := days_bound hl hin hnd hd m (i - 1) (by omega) (by omega)
      have hs := days_succ (W := W) (dry := dry) hin hnd (by omega : 0 < i) h
      refine ⟨?_, by omega⟩
      rcases days_whyAt hl hin hnd hd.1 (by omega : 0 < i) h with h1 | ⟨j, hj, -, h1⟩
      · omega
      · have := days_bound hl hin hnd hd m j (by omega) (by omega)
        omega
theorem days_kept (hn : W.n ≤ 24) (hirr : ∀ p, p < W.n → hasS (W.to p) p = false) (hsym : ∀ a b, hasS (W.near a) b = true → hasS (W.near b) a = true) (hd : 0 ≤ dry ∧ dry ≤ 30) (h : orderedB W l = true) : keptB W dry (daysOf W dry l) = true := by
  obtain ⟨h1, h2, h3, h4⟩ := orderedB_iff.1 h
  have hlen : (daysOf W dry l).length = W.n := daysPart_length W dry l l.length
  refine keptB_iff.2 ⟨hlen, fun a ha => ?_, fun a b ha hb => ?_⟩
  · obtain ⟨i, hi, e⟩ := at_full h1 h2 h3 (q := a) (by omega)
    have := days_bound (W := W) (dry := dry) h1 h2 h3 hd (i + 1) i (by omega) hi
    rw [e, Int.toNat_natCast] at this
    generalize (daysOf W dry l).getD a 0 = x at *
    unfold outB
    simp
    omega
  · obtain ⟨i, hi, ei⟩ := at_full h1 h2 h3 ha
    obtain ⟨j, hj, ej⟩ := at_full h1 h2 h3 hb
    unfold keepB
    by_cases hab : a = b
    · simp [hab]
    · have hij : i ≠ j := by rintro rfl; rw [ei] at ej; omega
      have hlt := fun h5 => days_lt (W := W) (dry := dry) h2 h3 (i := i) j h5 hj
      have hgt := fun h5 => days_lt (W := W) (dry := dry) h2 h3 (i := j) i h5 hi
      have hto := fun h5 : hasS (W.to a) b = true => ordered_fwd hn h hirr hi hj (by rw [ei, ej]; exact h5)
      have hn1 := fun (h5 : j < i) (h6 : hasS (W.near a) b = true) => days_near (W := W) (dry := dry) h2 h3 h5 hi (by rw [ei, ej]; exact h6)
      have hn2 := fun (h5 : i < j) (h6 : hasS (W.near a) b = true) => days_near (W := W) (dry := dry) h2 h3 h5 hj (by rw [ei, ej]; exact hsym _ _ h6)
      rw [ei, ej] at hlt hgt hn1 hn2
      simp only [Int.toNat_natCast] at hlt hgt hn1 hn2
      generalize (daysOf W dry l).getD a 0 = x at *
      generalize (daysOf W dry l).getD b 0 = y at *
      rcases Nat.lt_or_gt_of_ne hij with h5 | h5
      · have := hlt h5
        have h7 := hn2 h5
        simp only [Bool.or_eq_true, decide_eq_true_eq, Bool.and_eq_true, Bool.not_eq_true', Bool.and_eq_false_iff, decide_eq_false_iff_not]
        refine .inr ⟨⟨by omega, .inr (by omega)⟩, ?_⟩
        cases hh : hasS (W.near a) b
        · exact .inl rfl
        · have := h7 hh; exact .inr (by omega)
      · have := hgt h5
        have h7 := hn1 h5
        simp only [Bool.or_eq_true, decide_eq_true_eq, Bool.and_eq_true, Bool.not_eq_true', Bool.and_eq_false_iff, decide_eq_false_iff_not]
        refine .inr ⟨⟨by omega, .inl ?_⟩, ?_⟩
        · cases hh : hasS (W.to a) b
          · rfl
          · have := hto hh; omega
        · cases hh : hasS (W.near a) b
          · exact .inl rfl
          · have := h7 hh; exact .inr (by omega)
end
section
variable {W : Web} {dry : Int} {d : List Int}
end
section
variable {W : Web} {dry : Int}
end
end
end Go.Proofs.Ytgmodcipbklejaa
