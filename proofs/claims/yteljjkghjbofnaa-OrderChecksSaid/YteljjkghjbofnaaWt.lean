/- Reasons: the model; plain facts. -/
import Derived.Test.YteljjkghjbofnaaWj
import Derived.Test.YteljjkghjbofnaaPa
import Derived.Test.YteljjkghjbofnaaWs
import Derived.Deep.LoopGhost
set_option maxRecDepth 100000
namespace Go.Proofs.Yteljjkghjbofnaa
open Go Go.Proofs Go.RowKit

def whyQ (W : Web) (dry : Int) (D : List Int) (p : Nat) : Option Nat := (List.range W.n).find? fun q => hasS (W.near p) q && D.getD q 0 + dry + 1 == D.getD p 0
def whyR (W : Web) (dry : Int) (l D : List Int) (i : Nat) : Rsn :=
  match whyQ W dry D (l.getD i 0).toNat with
  | some q => (l.getD i 0, (q : Int), 2)
  | none => (l.getD i 0, l.getD (i - 1) 0, 1)
def rsnL (W : Web) (dry : Int) (l D : List Int) : Nat → Nat → List Rsn
  | 0, _ => []
  | f + 1, i => if D.getD (l.getD i 0).toNat 0 = 0 then [(l.getD i 0, -1, 0)] else whyR W dry l D i :: rsnL W dry l D f (l.idxOf (whyR W dry l D i).2.1)
def reasonsL (W : Web) (dry : Int) (l : List Int) : List Rsn := rsnL W dry l (daysOf W dry l) l.length (l.length - 1)

theorem mem_full {n : Nat} {l : List Int} (hl : l.length = n) (hin : ∀ p ∈ l, 0 ≤ p ∧ p < (n : Int)) (hnd : l.Nodup) {q : Nat} (hq : q < n) : (q : Int) ∈ l := by
  refine Classical.byContradiction fun h => ?_
  have h1 : ((q : Int) :: l).Nodup := List.nodup_cons.2 ⟨h, hnd⟩
  have h2 : ((q : Int) :: l) ⊆ (List.range n).map (fun p : Nat => (p : Int)) := by
    intro x hx
    rcases List.mem_cons.1 hx with rfl | hx
    · exact List.mem_map.2 ⟨q, List.mem_range.2 hq, rfl⟩
    · have := hin x hx
      exact List.mem_map.2 ⟨x.toNat, List.mem_range.2 (by omega), by omega⟩
  have := List.Nodup.length_le_of_subset h1 h2
  simp at this
  omega

theorem near_row {W : Web} {dry : Int} (hd : 0 ≤ dry ∧ dry ≤ 30) {n p : Nat} : ∀ (qs : List Int) (B : Int) (out : List Int), 0 ≤ B → Row n B out → Row n (B + 31 * qs.length) (qs.foldl (dayNear W dry p) out)
  | [], B, out, _, h => by simpa using h
  | q :: qs, B, out, hB, h => by
    have h1 : Row n (B + 31) (dayNear W dry p out q) := by
      unfold dayNear
      split
      · have h2 := h.getD hB p
        have h3 := h.getD hB q.toNat
        refine (h.mono (by omega)).set p ⟨by omega, ?_⟩
        exact Int.max_le.2 ⟨by omega, by omega⟩
      · exact h.mono (by omega)
    have h2 := near_row (W := W) hd (p := p) qs (B + 31) _ (by omega) h1
    simp only [List.length_cons, List.foldl_cons]
    exact h2.mono (by omega)
theorem daysPart_row {W : Web} {dry : Int} (hd : 0 ≤ dry ∧ dry ≤ 30) {l : List Int} (hl : l.length ≤ 24) : ∀ (k : Nat), k ≤ l.length → Row W.n (1000 * (k : Int)) (daysPart W dry l k)
  | 0, _ => ⟨by simp [daysPart], fun x hx => by have := List.eq_of_mem_replicate hx; omega⟩
  | k + 1, h => by
    rw [daysPart_succ]
    have h1 := (daysPart_row (W := W) hd hl k (by omega)).first (by omega) l k
    have h2 := near_row (W := W) hd (p := (l.getD k 0).toNat) (l.take k) _ _ (by omega) h1
    refine h2.mono ?_
    rw [List.length_take]
    omega
theorem daysOf_row {W : Web} {dry : Int} (hd : 0 ≤ dry ∧ dry ≤ 30) {l : List Int} (hl : l.length ≤ 24) : Row W.n 24000 (daysOf W dry l) :=
  (daysPart_row (W := W) hd hl l.length (Nat.le_refl _)).mono (by omega)

theorem whyQ_some {W : Web} {dry : Int} {D : List Int} {p q : Nat} (hq : q < W.n) (h1 : (hasS (W.near p) q && D.getD q 0 + dry + 1 == D.getD p 0) = true) (h : ∀ r, r < q → (hasS (W.near p) r && D.getD r 0 + dry + 1 == D.getD p 0) = false) : whyQ W dry D p = some q := by
  unfold whyQ
  have e : List.range W.n = List.range q ++ q :: List.range' (q + 1) (W.n - (q + 1)) := by
    rw [List.range_eq_range', List.range_eq_range', show W.n = q + (W.n - q) by omega, ← List.range'_append_1, show q + (W.n - q) - (q + 1) = W.n - q - 1 by omega]
    congr 1
    rw [show W.n - q = (W.n - q - 1) + 1 by omega, List.range'_succ, Nat.zero_add]
    simp
  rw [e, List.find?_append]
  have hn : (List.range q).find? (fun q => hasS (W.near p) q && D.getD q 0 + dry + 1 == D.getD p 0) = none := by
    rw [List.find?_eq_none]
    intro r hr
    simpa using h r (List.mem_range.1 hr)
  rw [hn]
  simp only [Option.none_or]
  rw [List.find?_cons, h1]
theorem whyQ_none {W : Web} {dry : Int} {D : List Int} {p : Nat} (h : ∀ r, r < W.n → (hasS (W.near p) r && D.getD r 0 + dry + 1 == D.getD p 0) = false) : whyQ W dry D p = none := by
  unfold whyQ
  rw [List.find?_eq_none]
  intro r hr
  simpa using h r (List.mem_range.1 hr)

/-- The next step goes back. -/
theorem why_back {W : Web} {dry : Int} (hd : 0 ≤ dry) {l : List Int} (hl : l.length = W.n) (hin : ∀ p ∈ l, 0 ≤ p ∧ p < (W.n : Int)) (hnd : l.Nodup) {i : Nat} (hi : i < l.length) (h0 : (daysOf W dry l).getD (l.getD i 0).toNat 0 ≠ 0) :
    0 < i ∧ (whyR W dry l (daysOf W dry l) i).2.1 ∈ l ∧ l.idxOf (whyR W dry l (daysOf W dry l) i).2.1 < i := by
  have hpos : 0 < i := by
    refine Nat.pos_of_ne_zero fun e => h0 ?_
    subst e
    exact days_zero hin hnd hi
  refine ⟨hpos, ?_⟩
  unfold whyR
  split
  · rename_i q hq
    unfold whyQ at hq
    have hq1 := List.find?_some hq
    have hq2 := List.mem_range.1 (List.mem_of_find?_eq_some hq)
    simp only [Bool.and_eq_true, beq_iff_eq] at hq1
    have hm := mem_full hl hin hnd hq2
    refine ⟨hm, Nat.lt_of_not_le fun hle => ?_⟩
    have hlt := List.idxOf_lt_length_iff.2 hm
    have e : l.getD (l.idxOf (q : Int)) 0 = (q : Int) := by
      rw [List.getD_eq_getElem?_getD, List.getElem?_eq_getElem hlt, List.getElem_idxOf]
      rfl
    have hq' : (l.getD (l.idxOf (q : Int)) 0).toNat = q := by rw [e]; rfl
    rcases Nat.lt_or_eq_of_le hle with h | h
    · have := days_lt (W := W) (dry := dry) hin hnd _ h hlt
      rw [hq'] at this
      omega
    · have h2 := hq1.2
      rw [← hq', ← h] at h2
      omega
  · simp only
    have hi1 : i - 1 < l.length := by omega
    have e : l.getD (i - 1) 0 = l[i - 1] := by rw [List.getD_eq_getElem?_getD, List.getElem?_eq_getElem hi1]; rfl
    rw [e]
    refine ⟨List.getElem_mem hi1, ?_⟩
    have := idxOf_getElem_le l (i - 1) hi1
    omega

end Go.Proofs.Yteljjkghjbofnaa
