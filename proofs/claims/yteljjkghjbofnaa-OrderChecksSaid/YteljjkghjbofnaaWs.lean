/- Owned slices of elements of several cells. -/
import Derived.Test.YteljjkghjbofnaaWl
set_option maxRecDepth 100000
namespace Go.Proofs.Yteljjkghjbofnaa
open Go Go.Proofs Go.RowKit

/-- v is a slice of the call's own of the elements l, each of 'size' cells of type e. -/
def OwnG {α : Type} (X : World) (base e size : Nat) (cs : α → List Value) (v : Value) (l : List α) : Prop := X.ownsRow base e size v l.length (l.flatMap cs)

section
variable {α : Type} {X Y : World} {base e size : Nat} {cs : α → List Value} {v : Value} {l : List α}
theorem OwnG.nil (X : World) (base e size : Nat) (cs : α → List Value) : OwnG X base e size cs (.slice none 0 0) [] := World.ownsRow_nil X base e size
theorem OwnG.kept (h : OwnG X base e size cs v l) (hk : Kept X Y) : OwnG Y base e size cs v l := by
  refine ⟨h.1, ?_⟩
  rcases h.2 with hn | ⟨g, cap, cur, rfl, hb, hgg, rest⟩
  · exact .inl hn
  · exact .inr ⟨g, cap, cur, rfl, hb, (hk.below.block g (Array.getElem?_eq_some_iff.1 hgg).1).trans hgg, rest⟩
theorem OwnG.lt (h : OwnG X base e size cs v l) : ∀ k, v.ownBlock = some k → base ≤ k ∧ k < X.heap.size := World.ownsRow.lt h
theorem OwnG.setBelow (h : OwnG X base e size cs v l) {a : Addr} (ha : a.block < base) (u : Value) : OwnG (X.setCell a u) base e size cs v l := ownsRow_setCell_below h ha u
theorem OwnG.grownNe {row : Option Nat} (h : OwnG X base e size cs v l) (hg : X.grownBy Y row) (hr : ∀ k, v.ownBlock = some k → some k ≠ row) : OwnG Y base e size cs v l := by
  refine ⟨h.1, ?_⟩
  rcases h.2 with hn | ⟨g, cap, cur, rfl, hb, hgg, rest⟩
  · exact .inl hn
  · exact .inr ⟨g, cap, cur, rfl, hb, (hg.block g (Array.getElem?_eq_some_iff.1 hgg).1 (hr g rfl)).trans hgg, rest⟩
theorem flatMap_len (hcs : ∀ a, (cs a).length = size) : ∀ l : List α, (l.flatMap cs).length = l.length * size
  | [] => by simp
  | a :: l => by simp [flatMap_len hcs l, hcs, Nat.add_mul, Nat.add_comm]
theorem flatMap_get (hcs : ∀ a, (cs a).length = size) : ∀ (l : List α) (i j : Nat) (h : i < l.length), j < size → (l.flatMap cs)[i * size + j]? = (cs l[i])[j]?
  | [], i, j, h, _ => by simp at h
  | a :: l, 0, j, _, hj => by
    simp only [List.flatMap_cons, Nat.zero_mul, Nat.zero_add, List.getElem_cons_zero]
    rw [List.getElem?_append_left (by rw [hcs]; exact hj)]
  | a :: l, i + 1, j, h, hj => by
    simp only [List.flatMap_cons, List.getElem_cons_succ]
    rw [List.getElem?_append_right (by rw [hcs, Nat.add_mul]; omega), hcs, show (i + 1) * size + j - size = i * size + j by rw [Nat.add_mul]; omega]
    exact flatMap_get hcs l i j (by simpa using h) hj
/-- Where it lies. -/
theorem OwnG.slice (h : OwnG X base e size cs v l) (hcs : ∀ a, (cs a).length = size) : (l = [] ∧ v = .slice none 0 0) ∨ ∃ g c, v = .slice (some ⟨g, 0, none⟩) l.length c ∧ l.length ≤ c ∧ base ≤ g ∧ g < X.heap.size ∧
    (∀ o, X.frozen? ⟨g, o, none⟩ = false) ∧ ∀ i (h : i < l.length) (j : Nat) (u : Value), (cs l[i])[j]? = some u → X.cell? ⟨g, i * size + j, none⟩ = some u := by
  rcases h.2 with ⟨h1, h2⟩ | ⟨g, cap, cur, rfl, hbg, hgg, hnc, hcm, hcsz, htake⟩
  · exact .inl ⟨List.eq_nil_of_length_eq_zero h2, h1⟩
  · refine .inr ⟨g, cap, rfl, hnc, hbg, (Array.getElem?_eq_some_iff.1 hgg).1, fun o => frozen_of_row _ _ _ _ _ hgg, fun i hi j u hu => ?_⟩
    have hj : j < size := by have := (List.getElem?_eq_some_iff.1 hu).1; rw [hcs] at this; exact this
    rw [cell_of_row _ _ _ _ _ _ hgg, ← Array.getElem?_toList]
    have hlt : i * size + j < l.length * size := by
      have : (i + 1) * size ≤ l.length * size := Nat.mul_le_mul_right _ hi
      rw [Nat.add_mul] at this
      omega
    have e : (cur.toList.take (l.length * size))[i * size + j]? = cur.toList[i * size + j]? := by rw [List.getElem?_take, if_pos hlt]
    rw [← e, htake, flatMap_get hcs l i j hi hj]
    exact hu
end

theorem append_g {α : Type} {ops : Array Oper} {rest : List Oper} {o : Oper} {a : Act} {Q : Exit → Act → World → Prop} (w : World) (hg : o.guard = none) (s x : Operand) (t : TypeId)
    (ho : o.op = .call { callee := .builtin .append, args := #[s, x], argTypes := #[t, t] }) (base e size bytes : Nat) (z : Value) (cs : α → List Value) (hcs : ∀ a, (cs a).length = size) (hone : ∀ a, ∀ u ∈ cs a, u.oneCell' = true)
    (ht : Try.prog.underlying t = some (.slice e)) (hinfo : (Try.prog.info? e).map (fun i => (i.zero, i.size, i.bytes)) = some (some z, size, bytes)) (hz : z.cells.size = size) (hs0 : 0 < size) (hbytes : bytes ≤ 64)
    (v : Value) (l : List α) (hs : a.eval s = v) (hown : OwnG w base e size cs v l)
    (g c : Nat) (y : List α) (hx : a.eval x = .slice (some ⟨g, 0, none⟩) y.length c) (hy : ∀ j u, (y.flatMap cs)[j]? = some u → w.cell? ⟨g, j, none⟩ = some u) (hl : l.length + y.length < 1099511627776) (hbase : base ≤ w.heap.size)
    (h : ∀ v' w', OwnG w' base e size cs v' (l ++ y) → w.grownBy w' v.ownBlock → (v' = .slice none 0 0 ↔ v = .slice none 0 0 ∧ y.length = 0) → wpList Try.prog ops Q rest (a.put o.dst v') w') :
    wpList Try.prog ops Q (o :: rest) a w := by
  obtain ⟨i0, hi, hz0, hz1, hz2⟩ := info_parts hinfo
  refine wpList_append_own w hg s x t ho base e i0 z size bytes ht hi hz0 hz1 hz2 hz hs0 v l.length _ hs hown ⟨g, 0, none⟩ y.length c (y.flatMap cs) hx (flatMap_len hcs y)
    (fun j u hu => ?_) (fun u hu => ?_) (by unfold maxLen; omega) ?_ hbase ?_
  · have := hy j u hu
    by_cases h0 : j = 0
    · subst h0; simpa [Addr.add] using this
    · simpa [Addr.add, h0] using this
  · obtain ⟨a, _, ha⟩ := List.mem_flatMap.1 hu
    exact hone a u ha
  · have : (l.length + y.length) * bytes ≤ 1099511627776 * 64 := Nat.mul_le_mul (by omega) hbytes
    omega
  · intro v' w' h1 h2 h3
    refine h v' w' ?_ h2 h3
    unfold OwnG
    rw [List.length_append, List.flatMap_append]
    exact h1

/-! ### Reasons, pairs -/

abbrev Rsn := Int × Int × Int
def rsnC (r : Rsn) : List Value := [.int .i64 r.1, .int .i64 r.2.1, .int .u8 r.2.2]
def pairC (p : Int × Int) : List Value := [.int .i64 p.1, .int .i64 p.2]
theorem info44 : (Try.prog.info? 44).map (fun i => (i.zero, i.size, i.bytes)) = some (some (.agg #[.int .i64 0, .int .i64 0, .int .u8 0]), 3, 24) := by kernel_rfl
theorem info83 : (Try.prog.info? 83).map (fun i => (i.zero, i.size, i.bytes)) = some (some (.agg #[.int .i64 0, .int .i64 0]), 2, 16) := by kernel_rfl

end Go.Proofs.Yteljjkghjbofnaa
