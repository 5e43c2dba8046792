/- Plain law of OrderMends. -/
import Derived.Test.YteljjkghjbofnaaWi
import Derived.Test.YteljjkghjbofnaaWj
set_option maxRecDepth 100000
namespace Go.Proofs.Yteljjkghjbofnaa
open Go Go.Proofs Go.RowKit

def chOf (A l : List (Int × Int)) : List Nat := (List.range A.length).filter fun i => decide (A.getD i (0, 0) ∈ l)
theorem chOf_comb (A l : List (Int × Int)) : Comb A.length 0 (chOf A l).length (chOf A l) :=
  ⟨rfl, List.Pairwise.filter _ List.pairwise_lt_range, fun _ _ => Nat.zero_le _, fun _ hx => List.mem_range.1 (List.mem_filter.1 hx).1⟩
theorem range_map (A : List (Int × Int)) : (List.range A.length).map (fun i => A.getD i (0, 0)) = A := by
  refine List.ext_getElem (by simp) fun i h1 h2 => ?_
  simp [List.getD_eq_getElem?_getD, List.getElem?_eq_getElem h2]
theorem filt_keep (A l : List (Int × Int)) : filtA A l A.length = keepT A (chOf A l) A.length := by
  unfold filtA keepT
  rw [List.take_length]
  conv => lhs; rw [← range_map A]
  rw [List.filter_map]
  congr 1
  refine List.filter_congr fun i hi => ?_
  have hi := List.mem_range.1 hi
  have e : decide (i ∈ chOf A l) = decide (A.getD i (0, 0) ∈ l) := by
    unfold chOf
    rw [Bool.eq_iff_iff]
    simp only [decide_eq_true_eq, List.mem_filter, List.mem_range]
    exact ⟨fun h => h.2, fun h => ⟨hi, h⟩⟩
  show (!decide (A.getD i (0, 0) ∈ l)) = !decide (i ∈ chOf A l)
  rw [e]
theorem filter_count {α : Type} (p : α → Bool) (l : List α) : (l.filter fun x => !p x).length + (l.filter p).length = l.length := by
  induction l with
  | nil => rfl
  | cons x l ih =>
    cases h : p x
    · simp only [List.filter_cons, h, Bool.not_false, if_true, List.length_cons]
      simp
      omega
    · simp only [List.filter_cons, h, Bool.not_true, if_true, List.length_cons]
      simp
      omega
theorem keep_count {A : List (Int × Int)} {ch : List Nat} (h : Comb A.length 0 ch.length ch) : (keepT A ch A.length).length + ch.length = A.length := by
  have e : (List.range A.length).filter (fun i => decide (i ∈ ch)) = ch := by
    refine sorted_ext (List.Pairwise.filter _ List.pairwise_lt_range) h.ris fun x => ?_
    rw [List.mem_filter, List.mem_range]
    exact ⟨fun hx => by simpa using hx.2, fun hx => ⟨h.hi x hx, by simpa using hx⟩⟩
  have h1 := filter_count (fun i => decide (i ∈ ch)) (List.range A.length)
  rw [e, List.length_range] at h1
  unfold keepT
  rw [List.length_map]
  exact h1
theorem chOf_pick {A : List (Int × Int)} (hd : A.Nodup) {ch : List Nat} (h : Comb A.length 0 ch.length ch) : chOf A (pickT A ch A.length) = ch := by
  refine sorted_ext (chOf_comb A _).ris h.ris fun x => ?_
  rw [pickT_list h]
  unfold chOf
  rw [List.mem_filter, List.mem_range]
  simp only [decide_eq_true_eq, List.mem_map]
  constructor
  · rintro ⟨hx, j, hj, he⟩
    have hjm := h.hi j hj
    rw [List.getD_eq_getElem?_getD, List.getElem?_eq_getElem hjm, List.getD_eq_getElem?_getD, List.getElem?_eq_getElem hx] at he
    have := (List.getElem_inj hd).1 (show A[j] = A[x] from he)
    subst this
    exact hj
  · intro hx
    exact ⟨h.hi x hx, x, hx, rfl⟩

/-- A problem without the arcs l. -/
def lackP (o : Prob) (l : List (Int × Int)) : Prob := ⟨o.N, filtA o.arcs l o.arcs.length, o.near⟩
theorem chk_lack {o : Prob} (hc : chk o = 0) (l : List (Int × Int)) : chk (lackP o l) = 0 := by
  unfold lackP
  rw [filt_keep]
  exact chk_keep hc _
theorem errS_lack {o : Prob} (hc : chk o = 0) (l : List (Int × Int)) : errS (lackP o l) = 0 ↔ okC o (chOf o.arcs l) = true := by
  unfold errS
  rw [if_pos (chk_lack hc l), okC_near]
  unfold lackP
  rw [filt_keep]
  cases circB (webOf ⟨o.N, keepT o.arcs (chOf o.arcs l) o.arcs.length, o.near⟩) <;> simp
structure MendF (o : Prob) (L : List (Int × Int)) : Prop where
  mend : errS (lackP o L) = 0
  none : L.length = 0 ↔ errS o = 0
  cnt : (lackP o L).arcs.length + L.length = o.arcs.length
  few : ∀ l, errS (lackP o l) = 0 → L.length + (lackP o l).arcs.length ≤ o.arcs.length
theorem keep_none (A : List (Int × Int)) : keepT A [] A.length = A := by
  unfold keepT
  rw [List.filter_eq_self.2 (fun i _ => by simp)]
  exact range_map A
theorem mend_facts {o : Prob} (hc : chk o = 0) : MendF o (pickT o.arcs (leastOf (okC o) o.arcs.length) o.arcs.length) := by
  have hl := leastOf_is (okC_all hc)
  generalize leastOf (okC o) o.arcs.length = ch at *
  have hd := ris_nodup (chk_parts hc)
  have hco := chOf_pick hd hl.comb
  have hlen : (pickT o.arcs ch o.arcs.length).length = ch.length := by rw [pickT_list hl.comb, List.length_map]
  have hzero : okC o [] = true ↔ errS o = 0 := by
    have e : okC o [] = !circB (webOf o) := by rw [okC_near, keep_none]
    rw [e]
    unfold errS
    rw [if_pos hc]
    cases circB (webOf o) <;> simp
  have hlp : ∀ l, (lackP o l).arcs.length + (chOf o.arcs l).length = o.arcs.length := fun l => by
    unfold lackP
    rw [filt_keep]
    exact keep_count (chOf_comb _ _)
  refine ⟨?_, ?_, ?_, fun l h => ?_⟩
  · rw [errS_lack hc, hco]; exact hl.good
  · rw [hlen, ← hzero]
    constructor
    · intro h
      obtain rfl := List.eq_nil_of_length_eq_zero h
      exact hl.good
    · intro h
      rcases hl.few [] ⟨rfl, .nil, fun x hx => (by cases hx), fun x hx => (by cases hx)⟩ h with h1 | ⟨h1, _⟩
      · simp at h1
      · simpa using h1
  · have := hlp (pickT o.arcs ch o.arcs.length)
    rw [hco] at this
    rw [hlen]; exact this
  · rw [errS_lack hc] at h
    have h1 := hlp l
    rw [hlen]
    rcases hl.few _ (chOf_comb o.arcs l) h with h2 | ⟨h2, _⟩ <;> omega
end Go.Proofs.Yteljjkghjbofnaa
