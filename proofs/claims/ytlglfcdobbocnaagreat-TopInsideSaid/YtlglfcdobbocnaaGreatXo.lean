/- A region that draws its order, by what holds of operations that were done. -/
import Derived.Test.YtlglfcdobbocnaaGreatXv
set_option maxRecDepth 100000
namespace Go.Proofs.YtlglfcdobbocnaaGreat
open Go Go.Proofs Go.RowKit
section
variable {P : Program} {ops : Array Oper} {Q : Exit → Act → World → Prop} {md : Region.Mode}
theorem count_put {l : Array Bool} {i : Nat} (h : l.getD i true = false) : (l.setIfInBounds i true).toList.count false + 1 = l.toList.count false := by
  have hi : i < l.size := Nat.lt_of_not_le fun hn => by
    rw [Array.getD_eq_getD_getElem?, Array.getElem?_eq_none hn] at h
    cases h
  have hg : l.toList[i]'(by simpa using hi) = false := by
    rw [Array.getD_eq_getD_getElem?, Array.getElem?_eq_getElem hi] at h
    simpa using h
  have hp : 0 < l.toList.count false := List.count_pos_iff.2 (hg ▸ List.getElem_mem _)
  rw [Array.toList_setIfInBounds, List.count_set (by simpa using hi), hg]
  show l.toList.count false - 1 + 0 + 1 = _
  omega
/-- All that an operation waits for stands before it. -/
def backB (md : Region.Mode) (ops : Array Oper) : Bool := (List.range ops.size).all fun j => match ops[j]? with
  | none => true
  | some o => o.after.toList.all fun e => !Region.binds md e || decide (e.on < j)
theorem all_listed {listed : Array Bool} (hB : backB md ops = true) (hs : listed.size = ops.size) (hr : Region.ready md ops listed = []) : ∀ j, j < ops.size → listed.getD j true = true := by
  intro j
  induction j using Nat.strongRecOn with
  | ind j ih =>
    intro hj
    cases c : listed.getD j true with
    | true => rfl
    | false =>
      have hm : j ∈ Region.ready md ops listed := mem_ready.2 ⟨c, ops[j], Array.getElem?_eq_getElem hj, fun e he hb => by
        have h1 := List.all_eq_true.1 hB j (List.mem_range.2 hj)
        rw [Array.getElem?_eq_getElem hj] at h1
        have h2 := List.all_eq_true.1 h1 e (by simpa using he)
        rw [hb] at h2
        have hlt : e.on < j := by simpa using h2
        have h3 := ih e.on hlt (by omega)
        rw [Array.getD_eq_getD_getElem?, Array.getElem?_eq_getElem (by omega)] at h3 ⊢
        exact h3⟩
      rw [hr] at hm
      cases hm
theorem wpAny_inv (I : Array Bool → Act → World → Prop) (hB : backB md ops = true)
    (hstep : ∀ listed a w i, listed.size = ops.size → I listed a w → i ∈ Region.ready md ops listed → wpOp P ops Q i (fun a' w' => I (listed.setIfInBounds i true) a' w') a w)
    (hend : ∀ listed a w, listed.size = ops.size → (∀ j, j < ops.size → listed.getD j true = true) → I listed a w → Q .normal a w) :
    ∀ (fuel : Nat) (listed : Array Bool) (a : Act) (w : World), listed.size = ops.size → listed.toList.count false = fuel → I listed a w → wpAny P md ops Q fuel listed a w
  | 0, listed, a, w, hs, hc, h => by
    have hr : Region.ready md ops listed = [] := List.eq_nil_iff_forall_not_mem.2 fun i hi => by
      have := count_put (mem_ready.1 hi).1
      omega
    exact ⟨hr, hend listed a w hs (all_listed hB hs hr) h⟩
  | fuel + 1, listed, a, w, hs, hc, h => by
    refine ⟨fun hr => hend listed a w hs (all_listed hB hs hr) h, fun i hi => ?_⟩
    refine wpOp_mono (fun a' w' h' => ?_) (hstep listed a w i hs h hi)
    refine wpAny_inv I hB hstep hend fuel (listed.setIfInBounds i true) a' w' (by simpa using hs) ?_ h'
    have := count_put (mem_ready.1 hi).1
    omega
/-- Whatever order is drawn: what holds of the operations that were done is kept by each that comes up. -/
theorem region_inv {id : Nat} {a : Act} {w : World} {l : List Oper} (I : Array Bool → Act → World → Prop) (hm : P.follows .mixedOrders = true) (hB : backB .any l.toArray = true)
    (h0 : I (Array.replicate l.length false) a w.drew)
    (hstep : ∀ listed a w i, listed.size = l.length → I listed a w → i ∈ Region.ready .any l.toArray listed → wpOp P l.toArray (NoPanic Q) i (fun a' w' => I (listed.setIfInBounds i true) a' w') a w)
    (hend : ∀ listed a w, listed.size = l.length → (∀ j, j < l.length → listed.getD j true = true) → I listed a w → Q .normal a w) : (Code.region id l.toArray true).wp P Q a w := by
  refine wp_region_noPanic (wp_region_any hm ?_)
  have := wpAny_inv (md := .any) (ops := l.toArray) (Q := NoPanic Q) I hB (fun listed a w i hs h hi => hstep listed a w i (by simpa using hs) h hi) (fun listed a w hs h1 h2 => hend listed a w (by simpa using hs) (by simpa using h1) h2) l.length (Array.replicate l.length false) a w.drew (by simp) (by simp) h0
  simpa using this
end
end Go.Proofs.YtlglfcdobbocnaaGreat
