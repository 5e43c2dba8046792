/- Words for memory and for walks: what is kept, slices of one's own, regions that draw their order. Drawn out of the texts of two earlier seats. -/
import Derived.Test.YtlglfcdobbocnaaGreatProg
import Derived.WalkKit
import Derived.Lib.Hide
import Derived.WalkSpells
import Derived.WalkMore
import Derived.BigQuiet
import Derived.Deep.QuietTactic
import Derived.StillTailTactics
import Derived.Deep.MidRow
import Derived.Deep.LoopGhost
import Derived.Deep.DeepCutAuto
import Derived.Deep.CutBlock
import Derived.StillTail
import Derived.Maps.OwnSet
import Derived.Maps.OwnIn
import Derived.Laws.OwnMore
import Derived.Deep.RegionHeld3
import Derived.Deep.DrawnRows
set_option maxRecDepth 100000
namespace Go.Proofs.YtlglfcdobbocnaaGreat
open Go Go.Proofs Go.RowKit

/-- Whatever lay in w lies in w' as it lay. -/
def Kept (w w' : World) : Prop := Below w.heap.size w w'
theorem Kept.below {w w' : World} (h : Kept w w') : Below w.heap.size w w' := h
theorem Kept.refl (w : World) : Kept w w := Below.refl _ _
theorem Kept.trans {a b c : World} (h : Kept a b) (k : Kept b c) : Kept a c := Below.trans h (Below.mono k h.size)
theorem Kept.drew {a b : World} (h : Kept a b) : Kept a b.drew := Below.drew h
theorem Kept.alloc {a b : World} (h : Kept a b) (o : Obj) : Kept a (b.alloc o) := Below.alloc h h.size o
theorem Kept.setCell {a b : World} (h : Kept a b) {p : Addr} (hp : a.heap.size ≤ p.block) (u : Value) : Kept a (b.setCell p u) := Below.setCell h hp u
theorem Kept.size {a b : World} (h : Kept a b) : a.heap.size ≤ b.heap.size := Below.size h
theorem Kept.cells {w w' : World} (h : Kept w w') :
    (∀ b o, b < w.heap.size → w'.cell? ⟨b, o, none⟩ = w.cell? ⟨b, o, none⟩) ∧ (∀ b o, b < w.heap.size → w'.frozen? ⟨b, o, none⟩ = w.frozen? ⟨b, o, none⟩) :=
  ⟨fun b o hb => Below.cell (p := ⟨b, o, none⟩) h hb, fun b o hb => Below.frozen (p := ⟨b, o, none⟩) h hb⟩
theorem lt_of_cell {w : World} {b o : Nat} {v : Value} (h : w.cell? ⟨b, o, none⟩ = some v) : b < w.heap.size :=
  World.block_lt_of_cell? w ⟨b, o, none⟩ h
theorem Kept.cell {w w' : World} (h : Kept w w') {b o : Nat} {v : Value} (hc : w.cell? ⟨b, o, none⟩ = some v) : w'.cell? ⟨b, o, none⟩ = some v :=
  (h.cells.1 b o (lt_of_cell hc)).trans hc
/-- What a call hands back where it may make memory of its own and turns nothing. -/
def Gives (v : Value) (w : World) (e : Ending) (w' : World) : Prop := e = .returned v ∧ Kept w w'
/-- What a call hands back that makes no memory. -/
def Tells (v : Value) (w : World) (e : Ending) (w' : World) : Prop := e = .returned v ∧ w = w'
theorem Calls_still {P : Program} {f : FuncId} {args : Array Value} {w : World} {v : Value} (h : Calls P f args w (Tells v w)) :
    Calls P f args w (fun e w' => e = .returned v ∧ w' = w) := h.mono fun _ _ h => ⟨h.1, h.2.symm⟩
/-- A region that draws its order, whose first n operations only read, and whose others come behind them one after the other. -/
theorem region_tail {P : Program} {id : Nat} {Q : Exit → Act → World → Prop} {a : Act} {w : World} {l : List Oper} (n : Nat) (hm : P.follows .mixedOrders = true) (hB : Region.lexTailB .any l.toArray n = true)
    (h : wpStill P l.toArray w.drew (fun a' => wpList P l.toArray Q (l.drop n) a' w.drew) (l.take n) a) : (Code.region id l.toArray true).wp P Q a w :=
  wp_region_still_tail n hm hB h
theorem ret_bool {a b : Bool} (h : a = b) : Ending.returned (.bool a) = .returned (.bool b) := by rw [h]
theorem ret_int {k : IntKind} {a b : Int} (h : a = b) : Ending.returned (.int k a) = .returned (.int k b) := by rw [h]
/-- Behind ao lie the numbers l. -/
def Ints (w : World) (ao : Option Addr) (l : List Int) : Prop :=
  ∀ i, (h : i < l.length) → ∃ b off, ao = some ⟨b, off, none⟩ ∧ w.cell? ⟨b, off + i, none⟩ = some (.int .i64 l[i])
/-- Behind ao lie the pairs l. -/
def Pairs (w : World) (ao : Option Addr) (l : List (Int × Int)) : Prop :=
  ∀ i, (h : i < l.length) → ∃ b off, ao = some ⟨b, off, none⟩ ∧ w.cell? ⟨b, off + i * 2, none⟩ = some (.int .i64 l[i].1) ∧ w.cell? ⟨b, off + i * 2 + 1, none⟩ = some (.int .i64 l[i].2)
theorem Ints.kept {w w' : World} {ao : Option Addr} {l : List Int} (h : Ints w ao l) (hk : Kept w w') : Ints w' ao l := fun i hi =>
  let ⟨b, off, e, hc⟩ := h i hi
  ⟨b, off, e, hk.cell hc⟩
theorem Pairs.kept {w w' : World} {ao : Option Addr} {l : List (Int × Int)} (h : Pairs w ao l) (hk : Kept w w') : Pairs w' ao l := fun i hi =>
  let ⟨b, off, e, hc, hd⟩ := h i hi
  ⟨b, off, e, hk.cell hc, hk.cell hd⟩
theorem Ints.nil (w : World) (ao : Option Addr) : Ints w ao [] := fun i h => absurd h (by simp)
theorem Pairs.nil (w : World) (ao : Option Addr) : Pairs w ao [] := fun i h => absurd h (by simp)
theorem Ints.take {w : World} {ao : Option Addr} {l : List Int} (h : Ints w ao l) (k : Nat) : Ints w ao (l.take k) := fun i hi => by
  obtain ⟨b, off, e, hc⟩ := h i (by simp at hi; omega)
  exact ⟨b, off, e, by rw [hc]; simp⟩
theorem cell_set_same {w : World} {b o : Nat} {v u : Value} (h : w.cell? ⟨b, o, none⟩ = some v) : (w.setCell ⟨b, o, none⟩ u).cell? ⟨b, o, none⟩ = some u :=
  World.cell?_setCell_same' _ _ _ (by rw [h]; rfl)
theorem cell_set_off {w : World} {b o o' : Nat} {v u : Value} (h : w.cell? ⟨b, o', none⟩ = some v) (hne : o' ≠ o) : (w.setCell ⟨b, o, none⟩ u).cell? ⟨b, o', none⟩ = some v := by
  rw [World.cell?_setCell_other]
  · exact h
  · intro e; exact hne (by simpa using e.symm)
theorem cell_set_block {w : World} {b b' o o' : Nat} {v u : Value} (h : w.cell? ⟨b', o', none⟩ = some v) (hne : b' ≠ b) : (w.setCell ⟨b, o, none⟩ u).cell? ⟨b', o', none⟩ = some v := by
  rw [World.cell?_setCell_other]
  · exact h
  · intro e; simp only [Addr.mk.injEq] at e; exact hne e.1.symm
theorem cell_set_or {w : World} {b o o' : Nat} {v u : Value} (h : w.cell? ⟨b, o', none⟩ = some v) : (w.setCell ⟨b, o, none⟩ u).cell? ⟨b, o', none⟩ = some (if o' = o then u else v) := by
  by_cases e : o' = o
  · subst e; rw [if_pos rfl]; exact cell_set_same h
  · rw [if_neg e]; exact cell_set_off h e
/-- What slices.IndexFunc hands back: a place, not negative just where p is true of some element. -/
def IdxPost {α : Type} (p : α → Bool) (l : List α) (w : World) (e : Ending) (w' : World) : Prop :=
  ∃ i : Int, e = .returned (.int .i64 i) ∧ decide (0 ≤ i) = l.any p ∧ Kept w w'
theorem any_take_succ {α : Type} (p : α → Bool) (l : List α) (k : Nat) (hk : k < l.length) (h : (l.take k).any p = false) : (l.take (k + 1)).any p = p l[k] := by
  rw [List.take_succ_eq_append_getElem hk, List.any_append, h]; simp
theorem any_of_get {α : Type} (p : α → Bool) (l : List α) (k : Nat) (hk : k < l.length) (h : p l[k] = true) : l.any p = true :=
  List.any_eq_true.2 ⟨l[k], List.getElem_mem hk, h⟩
theorem Kept.grown {w X Y : World} {row : Option Nat} (h : Kept w X) (hg : X.grownBy Y row) (hr : ∀ r, row = some r → w.heap.size ≤ r) : Kept w Y := Below.grown h hg h.size hr
/-- v is a slice of the call's own of the elements l, each of 'size' cells of type e. -/
def OwnG {α : Type} (X : World) (base e size : Nat) (cs : α → List Value) (v : Value) (l : List α) : Prop := X.ownsRow base e size v l.length (l.flatMap cs)

section
variable {α : Type} {X Y : World} {base e size : Nat} {cs : α → List Value} {v : Value} {l : List α}
theorem OwnG.nil (X : World) (base e size : Nat) (cs : α → List Value) : OwnG X base e size cs (.slice none 0 0) [] := World.ownsRow_nil X base e size
theorem OwnG.kept (h : OwnG X base e size cs v l) (hk : Kept X Y) : OwnG Y base e size cs v l := by
  refine ⟨h.1, ?_⟩
  rcases h.2 with hn | ⟨g, cap, cur, rfl, hb, hgg, rest⟩
  · exact .inl hn
  · exact .inr ⟨g, cap, cur, rfl, hb, ((show Below X.heap.size X Y from hk).block g (Array.getElem?_eq_some_iff.1 hgg).1).trans hgg, rest⟩
theorem OwnG.lt (h : OwnG X base e size cs v l) : ∀ k, v.ownBlock = some k → base ≤ k ∧ k < X.heap.size := World.ownsRow.lt h
theorem OwnG.grownNe {row : Option Nat} (h : OwnG X base e size cs v l) (hg : X.grownBy Y row) (hr : ∀ k, v.ownBlock = some k → some k ≠ row) : OwnG Y base e size cs v l := by
  refine ⟨h.1, ?_⟩
  rcases h.2 with hn | ⟨g, cap, cur, rfl, hb, hgg, rest⟩
  · exact .inl hn
  · exact .inr ⟨g, cap, cur, rfl, hb, (hg.block g (Array.getElem?_eq_some_iff.1 hgg).1 (hr g rfl)).trans hgg, rest⟩
theorem flatMap_len (hcs : ∀ a, (cs a).length = size) : ∀ l : List α, (l.flatMap cs).length = l.length * size
  | [] => by simp
  | a :: l => by simp [flatMap_len hcs l, hcs, Nat.add_mul, Nat.add_comm]
theorem flatMap_get (hcs : ∀ a, (cs a).length = size) : ∀ (l : List α) (i j : Nat) (h : i < l.length), j < size → (l.flatMap cs)[i * size + j]? = (cs l[i])[j]?
  | [], i, j, h, _ => by simp at h
  | a :: l, 0, j, _, hj => by
    simp only [List.flatMap_cons, Nat.zero_mul, Nat.zero_add, List.getElem_cons_zero]
    rw [List.getElem?_append_left (by rw [hcs]; exact hj)]
  | a :: l, i + 1, j, h, hj => by
    simp only [List.flatMap_cons, List.getElem_cons_succ]
    rw [List.getElem?_append_right (by rw [hcs, Nat.add_mul]; omega), hcs, show (i + 1) * size + j - size = i * size + j by rw [Nat.add_mul]; omega]
    exact flatMap_get hcs l i j (by simpa using h) hj
/-- Where it lies. -/
theorem OwnG.slice (h : OwnG X base e size cs v l) (hcs : ∀ a, (cs a).length = size) : (l = [] ∧ v = .slice none 0 0) ∨ ∃ g c, v = .slice (some ⟨g, 0, none⟩) l.length c ∧ l.length ≤ c ∧ base ≤ g ∧ g < X.heap.size ∧
    (∀ o, X.frozen? ⟨g, o, none⟩ = false) ∧ ∀ i (h : i < l.length) (j : Nat) (u : Value), (cs l[i])[j]? = some u → X.cell? ⟨g, i * size + j, none⟩ = some u := by
  rcases h.2 with ⟨h1, h2⟩ | ⟨g, cap, cur, rfl, hbg, hgg, hnc, hcm, hcsz, htake⟩
  · exact .inl ⟨List.eq_nil_of_length_eq_zero h2, h1⟩
  · refine .inr ⟨g, cap, rfl, hnc, hbg, (Array.getElem?_eq_some_iff.1 hgg).1, fun o => frozen_of_row _ _ _ _ _ hgg, fun i hi j u hu => ?_⟩
    have hj : j < size := by have := (List.getElem?_eq_some_iff.1 hu).1; rw [hcs] at this; exact this
    rw [cell_of_row _ _ _ _ _ _ hgg, ← Array.getElem?_toList]
    have hlt : i * size + j < l.length * size := by
      have : (i + 1) * size ≤ l.length * size := Nat.mul_le_mul_right _ hi
      rw [Nat.add_mul] at this
      omega
    have e : (cur.toList.take (l.length * size))[i * size + j]? = cur.toList[i * size + j]? := by rw [List.getElem?_take, if_pos hlt]
    rw [← e, htake, flatMap_get hcs l i j hi hj]
    exact hu
end
theorem OwnG.base' {α : Type} {X : World} {base base' e size : Nat} {cs : α → List Value} {v : Value} {l : List α} (h : OwnG X base e size cs v l) (hb : base' ≤ base) : OwnG X base' e size cs v l := by
  refine ⟨h.1, ?_⟩
  rcases h.2 with hn | ⟨g, cap, cur, rfl, hb', rest⟩
  · exact .inl hn
  · exact .inr ⟨g, cap, cur, rfl, by omega, rest⟩


theorem OwnG.setNe {α : Type} {X : World} {base e size : Nat} {cs : α → List Value} {v : Value} {l : List α} (h : OwnG X base e size cs v l) {a : Addr} (ha : v.ownBlock ≠ some a.block) (u : Value) : OwnG (X.setCell a u) base e size cs v l := by
  refine ⟨h.1, ?_⟩
  rcases h.2 with hn | ⟨g, cap, cur, rfl, hb, hgg, rest⟩
  · exact .inl hn
  · refine .inr ⟨g, cap, cur, rfl, hb, ?_, rest⟩
    rw [Below.heap_setCell X a u g (fun e => ha (by rw [e]; rfl))]
    exact hgg
theorem info_parts' {T : Nat} {z : Value} {s b : Nat} (h : (Tryz.prog.info? T).map (fun i => (i.zero, i.size, i.bytes)) = some (some z, s, b)) : ∃ i0, Tryz.prog.info? T = some i0 ∧ i0.zero = some z ∧ i0.size = s ∧ i0.bytes = b := by
  cases e : Tryz.prog.info? T with
  | none => rw [e] at h; cases h
  | some i0 =>
    rw [e] at h
    simp at h
    exact ⟨i0, rfl, h.1, h.2.1, h.2.2⟩
def pairC (p : Int × Int) : List Value := [.int .i64 p.1, .int .i64 p.2]
theorem pairC_len (x : Int × Int) : (pairC x).length = 2 := rfl
theorem pairC_one (x : Int × Int) : ∀ u ∈ pairC x, u.oneCell' = true := fun u hu => by
  simp [pairC] at hu
  rcases hu with rfl | rfl <;> rfl
/-- append of one element, at whatever type of elements. -/
theorem append_one {α : Type} {cs : α → List Value} {t e size bytes : Nat} {z : Value} {ops : Array Oper} {rest : List Oper} {o : Oper} {a : Act} {Q : Exit → Act → World → Prop} (ht : Tryz.prog.underlying t = some (.slice e))
    (hi : (Tryz.prog.info? e).map (fun i => (i.zero, i.size, i.bytes)) = some (some z, size, bytes)) (hz2 : z.cells.size = size) (hs0 : 0 < size) (hby : bytes ≤ 64) (hlen : ∀ x, (cs x).length = size) (hone : ∀ x, ∀ u ∈ cs x, u.oneCell' = true)
    (w : World) (hg : o.guard = none) (s x : Operand) (ho : o.op = .call { callee := .builtin .append, args := #[s, x], argTypes := #[t, t] }) (base : Nat) (v : Value) (l : List α) (hs : a.eval s = v) (hown : OwnG w base e size cs v l)
    (g : Nat) (y : α) (hx : a.eval x = .slice (some ⟨g, 0, none⟩) 1 1) (hc : ∀ j u, (cs y)[j]? = some u → w.cell? ⟨g, j, none⟩ = some u) (hl : l.length + 1 < 1099511627776) (hbase : base ≤ w.heap.size)
    (h : ∀ ra rc w', OwnG w' base e size cs (.slice ra (l.length + 1) rc) (l ++ [y]) → w.grownBy w' v.ownBlock → (∀ j, (Value.slice ra (l.length + 1) rc).ownBlock = some j → v.ownBlock = some j ∨ j = w.heap.size) → wpList Tryz.prog ops Q rest (a.put o.dst (.slice ra (l.length + 1) rc)) w') :
    wpList Tryz.prog ops Q (o :: rest) a w := by
  obtain ⟨i0, hi, hz0, hz1, hzb⟩ := info_parts' hi
  refine wpList_append_own_at w hg s x t ho base e i0 _ size bytes ht hi hz0 hz1 hzb hz2 hs0 v l.length _ hs hown ⟨g, 0, none⟩ 1 1 (cs y) hx (by rw [hlen]; omega)
    (fun j u hu => ?_) (hone y) (by unfold maxLen; omega) ?_ hbase ?_
  · have e : (⟨g, 0, none⟩ : Addr).add j = ⟨g, j, none⟩ := by
      unfold Addr.add
      split
      · rename_i h; rw [h]
      · simp
    rw [e]
    exact hc j u hu
  · have : (l.length + 1) * bytes ≤ (l.length + 1) * 64 := Nat.mul_le_mul_left _ hby
    omega
  · intro v' w' h1 h2 h3 h4
    have hn : OwnG w' base e size cs v' (l ++ [y]) := by
      unfold OwnG
      rw [List.length_append, List.flatMap_append]
      simpa using h1
    rcases hn.slice hlen with ⟨e1, -⟩ | ⟨gg, cc, e1, -, -, hgl, -⟩
    · exact absurd e1 (by simp)
    · subst e1
      simp only [List.length_append, List.length_cons, List.length_nil, Nat.zero_add] at hn ⊢
      refine h _ _ _ (by simpa using hn) h2 fun j hj => ?_
      simp only [List.length_append, List.length_cons, List.length_nil, Nat.zero_add] at h4
      rcases h4 with h4 | h4
      · exact .inl (h4 ▸ hj)
      · rw [h4] at hj
        exact .inr (Option.some.inj hj).symm
/-- v is a slice of the call's own of the numbers l. -/
def OwnI (X : World) (base : Nat) (v : Value) (l : List Int) : Prop := X.ownsRow base 3 1 v l.length (l.map (.int .i64))
theorem OwnI.kept {X Y : World} {base : Nat} {v : Value} {l : List Int} (h : OwnI X base v l) (hk : Kept X Y) : OwnI Y base v l := by
  refine ⟨h.1, ?_⟩
  rcases h.2 with hn | ⟨g, cap, cur, rfl, hb, hgg, rest⟩
  · exact .inl hn
  · exact .inr ⟨g, cap, cur, rfl, hb, ((show Below X.heap.size X Y from hk).block g (Array.getElem?_eq_some_iff.1 hgg).1).trans hgg, rest⟩
theorem OwnI.nil (X : World) (base : Nat) : OwnI X base (.slice none 0 0) [] := World.ownsRow_nil X base 3 1
theorem OwnI.base' {X : World} {base base' : Nat} {v : Value} {l : List Int} (h : OwnI X base v l) (hb : base' ≤ base) : OwnI X base' v l := by
  refine ⟨h.1, ?_⟩
  rcases h.2 with hn | ⟨g, cap, cur, rfl, hb', rest⟩
  · exact .inl hn
  · exact .inr ⟨g, cap, cur, rfl, by omega, rest⟩
/-- Where it lies. -/
theorem OwnI.slice {X : World} {base : Nat} {v : Value} {l : List Int} (h : OwnI X base v l) : (l = [] ∧ v = .slice none 0 0) ∨ ∃ g c, v = .slice (some ⟨g, 0, none⟩) l.length c ∧ l.length ≤ c ∧ base ≤ g ∧ g < X.heap.size := by
  rcases h.2 with ⟨h1, h2⟩ | ⟨g, cap, cur, rfl, hbg, hgg, hnc, -⟩
  · exact .inl ⟨List.eq_nil_of_length_eq_zero (by simpa using h2), h1⟩
  · exact .inr ⟨g, cap, rfl, hnc, hbg, (Array.getElem?_eq_some_iff.1 hgg).1⟩
theorem OwnI.at {X : World} {base g c : Nat} {l : List Int} (h : OwnI X base (.slice (some ⟨g, 0, none⟩) l.length c) l) {i : Nat} (hi : i < l.length) : X.cell? ⟨g, i, none⟩ = some (.int .i64 l[i]) := by
  rw [World.ownsRow.cellAt h i (by simpa using hi), List.getElem?_map, List.getElem?_eq_getElem hi]
  rfl
theorem OwnI.ints {X : World} {base : Nat} {v : Value} {l : List Int} (h : OwnI X base v l) : ∃ ao c, v = .slice ao l.length c ∧ Ints X ao l ∧ l.length ≤ c := by
  rcases h.slice with ⟨rfl, rfl⟩ | ⟨g, c, rfl, hc, -, -⟩
  · exact ⟨none, 0, rfl, Ints.nil _ _, by simp⟩
  · exact ⟨_, c, rfl, fun i hi => ⟨g, 0, rfl, by rw [Nat.zero_add]; exact h.at hi⟩, hc⟩
theorem OwnI.set {X : World} {base g n c : Nat} {l : List Int} (h : OwnI X base (.slice (some ⟨g, 0, none⟩) n c) l) (hn : n = l.length) (i : Nat) (x : Int) : OwnI (X.setCell ⟨g, i, none⟩ (.int .i64 x)) base (.slice (some ⟨g, 0, none⟩) n c) (l.set i x) := by
  subst hn
  have := (World.ownsRow.stored h i (.int .i64 x)).1
  unfold OwnI
  rw [List.length_set, List.map_set]
  exact this

theorem grownBy_same (w : World) (r : Option Nat) : w.grownBy w r := ⟨rfl, rfl, rfl, Nat.le_refl _, fun _ _ _ => rfl⟩
theorem grownBy_drew {a b : World} {r : Option Nat} (h : a.grownBy b r) : a.grownBy b.drew r := ⟨h.os, h.tape, h.output, h.size, h.block⟩
theorem grownBy_cell {a b : World} {g : Nat} (h : a.grownBy b (some g)) (o : Nat) (v : Value) : a.grownBy (b.setCell ⟨g, o, none⟩ v) (some g) :=
  ⟨h.os, h.tape, h.output, Nat.le_trans h.size (Nat.le_of_eq (World.size_setCell ..).symm), fun i hi hn => (Below.heap_setCell b _ v i (fun e => hn (by rw [e]))).trans (h.block i hi hn)⟩
theorem grownBy_chain {a b c : World} {g : Nat} (h : a.grownBy b (some g)) (k : b.grownBy c (some g)) : a.grownBy c (some g) :=
  ⟨k.os.trans h.os, k.tape.trans h.tape, k.output.trans h.output, Nat.le_trans h.size k.size, fun i hi hn => (k.block i (Nat.lt_of_lt_of_le hi h.size) hn).trans (h.block i hi hn)⟩
theorem grownBy_past {w Y Z : World} {r row : Option Nat} (h : w.grownBy Y r) (hg : Y.grownBy Z row) (hr : ∀ k, row = some k → w.heap.size ≤ k) : w.grownBy Z r :=
  ⟨hg.os.trans h.os, hg.tape.trans h.tape, hg.output.trans h.output, Nat.le_trans h.size hg.size, fun k hk hn => (hg.block k (Nat.lt_of_lt_of_le hk h.size) (fun e => by have := hr k e.symm; omega)).trans (h.block k hk hn)⟩
theorem grownBy_kept {w Y Z : World} {r : Option Nat} (h : w.grownBy Y r) (hk : Kept Y Z) : w.grownBy Z r :=
  ⟨hk.below.os.trans h.os, hk.below.tape.trans h.tape, hk.below.output.trans h.output, Nat.le_trans h.size hk.size, fun k hk' hn => (hk.below.block k (Nat.lt_of_lt_of_le hk' h.size)).trans (h.block k hk' hn)⟩
theorem grownBy_new {w Y Z : World} {r : Option Nat} (h : w.grownBy Y r) (hg : Y.grownBy Z r) : w.grownBy Z r := h.trans hg
section
variable {P : Program} {ops : Array Oper} {md : Region.Mode} {C : World → Prop}

/-- The first n operations come up, in any order; then L. -/
def headC (P : Program) (md : Region.Mode) (ops : Array Oper) (C : World → Prop) (n : Nat) (L : Array Bool → Act → Prop) : Nat → Array Bool → Act → Prop
  | 0, listed, a => L listed a
  | f + 1, listed, a => Region.ready md ops listed ≠ [] ∧ ∀ i ∈ Region.ready md ops listed, i < n ∧ qOp P ops C i (headC P md ops C n L f (listed.setIfInBounds i true)) a

theorem wpAny_of_headC {n g : Nat} {L : Array Bool → Act → Prop} {Q' : Exit → Act → World → Prop} (hL : ∀ listed a w, C w → L listed a → wpAny P md ops Q' g listed a w) :
    ∀ (f : Nat) (listed : Array Bool) (a : Act) (w : World), C w → headC P md ops C n L f listed a → wpAny P md ops Q' (f + g) listed a w
  | 0, listed, a, w, hw, h => by rw [Nat.zero_add]; exact hL _ _ _ hw h
  | f + 1, listed, a, w, hw, h => by
    rw [show f + 1 + g = (f + g) + 1 by omega]
    exact ⟨fun h0 => absurd h0 h.1, fun i hi => wpOp_of_qOp hw (fun a' w' hw' h' => wpAny_of_headC hL f _ a' w' hw' h') (h.2 i hi).2⟩

theorem headC_first {n i : Nat} {oi : Oper} {v : Value} {L : Array Bool → Act → Prop} (hi : ops[i]? = some oi) (hsel : ∀ (j : Nat) (o : Oper) cs b, ops[j]? = some o → o.op ≠ .select cs b)
    (hs : Region.sinkB md ops n = true) (hc : Region.chainB md ops n = true) (hn : n < ops.size) (hin : i < n)
    (hdone : ∀ listed a, L listed a → ∀ j ∈ Region.ready md ops listed, n ≤ j) :
    ∀ (f : Nat) (listed : Array Bool) (a : Act), HeadInv md ops n listed →
      (∀ j oj, ops[j]? = some oj → j ≠ i → listed.getD j true = false → (∀ e ∈ oj.after, Region.binds md e = true → e.on ≠ i) → oi.apart ops oj = true) →
      i ∈ Region.ready md ops listed → YieldsIn P ops C oi v a →
      headC P md ops C n L f (listed.setIfInBounds i true) (a.put oi.dst v) → headC P md ops C n L (f + 1) listed a := by
  intro f
  induction f with
  | zero =>
    intro listed a inv _ hr hy H
    refine ⟨fun h => (by rw [h] at hr; cases hr), fun j hj => ?_⟩
    have hjn : j < n := Nat.lt_of_not_le fun h => tail_waits hs hc hn inv _ i rfl hin (mem_ready.1 hr).1 j h hj
    refine ⟨hjn, ?_⟩
    by_cases hji : j = i
    · subst hji; exact hy.qOp hi H
    · have := hdone _ _ H j (ready_mono hj hji)
      omega
  | succ f ih =>
    intro listed a inv hfree hr hy H
    refine ⟨fun h => (by rw [h] at hr; cases hr), fun j hj => ?_⟩
    have hjn : j < n := Nat.lt_of_not_le fun h => tail_waits hs hc hn inv _ i rfl hin (mem_ready.1 hr).1 j h hj
    refine ⟨hjn, ?_⟩
    by_cases hji : j = i
    · subst hji; exact hy.qOp hi H
    obtain ⟨_, oj, hoj, hall⟩ := mem_ready.1 hj
    have hnot : ∀ e ∈ oj.after, Region.binds md e = true → e.on ≠ i := fun e he hb heq => by
      have h1 := hall e he hb
      rw [heq, getD_both (mem_ready.1 hr).1] at h1
      cases h1
    have hjun := (mem_ready.1 hj).1
    refine qOp_mono (fun a' h3 => ih (listed.setIfInBounds j true) a' (inv.set hj hjn) (fun k ok hk hki hun hno => hfree k ok hk hki ?_ hno) (ready_mono hr (Ne.symm hji)) h3.1 ?_)
      (qOp_put hoj (hfree j oj hoj hji hjun hnot) (fun cs b => hsel i oi cs b hi) (fun cs b => hsel j oj cs b hoj) hy (H.2 j (ready_mono hj hji)).2)
    · by_cases hjk : j = k
      · subst hjk; exact hjun
      · rwa [getD_set_ne true hjk] at hun
    · rw [Array.setIfInBounds_comm _ _ hji]
      exact h3.2

theorem headC_lex {n g : Nat} {Lq : Act → Prop} (hsel : Region.noSelect ops = true) (hs : Region.sinkB md ops n = true) (hc : Region.chainB md ops n = true) (hn : n < ops.size) :
    ∀ (l : List Oper) (k : Nat) (listed : Array Bool) (a : Act), (∀ j, j < l.length → l[j]? = ops[k + j]?) → k + l.length = n → HeadInv md ops n listed →
    Region.lexHead md ops g l.length k listed = true → wpQuiet P ops C Lq l a →
    headC P md ops C n (fun listed' a' => Region.seqB md ops g n listed' = true ∧ Lq a') l.length listed a
  | [], k, listed, a, _, hk, _, hB, h => by
    have : k = n := by simpa using hk
    subst this
    exact ⟨by simpa [Region.lexHead] using hB, h⟩
  | o :: l, k, listed, a, hl, hk, inv, hB, h => by
    have h0 : ops[k]? = some o := by simpa using (hl 0 (by simp)).symm
    simp only [List.length_cons, Region.lexHead, Bool.and_eq_true] at hB
    obtain ⟨⟨hr, hf⟩, hB'⟩ := hB
    have hkn : k < n := by simp only [List.length_cons] at hk; omega
    have hr' : k ∈ Region.ready md ops listed := by simpa using hr
    obtain ⟨v, hy, hK⟩ := yieldsIn_of_qOp (K := wpQuiet P ops C Lq l) h0 (by unfold qOp; simp only [h0]; exact h)
    exact headC_first h0 (Region.noSelect_spec hsel) hs hc hn hkn (fun listed' a' hL => seqB_ready hL.1) l.length listed a inv (Region.free_spec h0 hf) hr' hy
      (headC_lex hsel hs hc hn l (k + 1) _ _ (fun j hj => by have := hl (j + 1) (by simp; omega); simpa [Nat.add_assoc, Nat.add_comm 1 j] using this) (by simp only [List.length_cons] at hk; omega) (inv.set hr' hkn) hB' hK)

theorem wpAny_class {l : List Oper} {Q : Exit → Act → World → Prop} {a : Act} {w : World} (n : Nat) (hB : Region.lexTailB .any l.toArray n = true) (hC : C w.drew)
    (h : wpQuiet P l.toArray C (fun a' => ∀ X, C X → wpList P l.toArray Q (l.drop n) a' X) (l.take n) a) : wpAny P .any l.toArray Q l.toArray.size (Array.replicate l.toArray.size false) a w.drew := by
  simp only [Region.lexTailB, Bool.and_eq_true, decide_eq_true_eq] at hB
  obtain ⟨⟨⟨⟨hsel, hn⟩, hs⟩, hc⟩, hlex⟩ := hB
  have hn' : n < l.length := by simpa using hn
  have htl : (l.take n).length = n := by simp; omega
  have hdl : (l.drop n).length = l.toArray.size - n := by simp
  have inv0 : HeadInv .any l.toArray n (Array.replicate l.toArray.size false) :=
    ⟨by simp, fun j oj _ hl => (by rw [getD_replicate_false] at hl; cases hl), fun t _ ht => getD_in (by simpa using ht) (getD_replicate_false _ _)⟩
  have H := headC_lex (C := C) (md := .any) (g := l.toArray.size - n) hsel hs hc hn (l.take n) 0 _ a (fun j hj => by
    have hj' : j < n := by rw [htl] at hj; exact hj
    simp [hj']) (by simpa using htl) inv0 (by rw [htl]; exact hlex) h
  have := wpAny_of_headC (Q' := Q) (g := l.toArray.size - n) (fun listed a' X hX hL => by
    have := wpAny_of_seq (md := .any) (Q' := Q) (l.drop n) n listed a' X (fun j => by simp [List.getElem?_drop]) (by rw [hdl]; exact hL.1) (hL.2 X hX)
    rwa [hdl] at this) _ _ _ _ hC H
  rwa [htl, show n + (l.toArray.size - n) = l.toArray.size by omega] at this

theorem region_class {id : Nat} {Q : Exit → Act → World → Prop} {a : Act} {w : World} {l : List Oper} (C : World → Prop) (n : Nat) (hm : P.follows .mixedOrders = true) (hB : Region.lexTailB .any l.toArray n = true) (hC : C w.drew)
    (h : wpQuiet P l.toArray C (fun a' => ∀ X, C X → wpList P l.toArray Q (l.drop n) a' X) (l.take n) a) : (Code.region id l.toArray true).wp P Q a w :=
  wp_region_any hm (wpAny_class n hB hC h)

theorem wpQuiet_yield {Q : Act → Prop} {a : Act} {o : Oper} {rest : List Oper} (v : Value) (hw : Region.wanted o (yielded ops a.tmps) = true) (h : ∀ X, C X → o.quietAt P a C X v) (hn : wpQuiet P ops C Q rest (a.put o.dst v)) : wpQuiet P ops C Q (o :: rest) a := by
  unfold wpQuiet
  rw [if_pos hw]
  exact ⟨v, h, hn⟩
end
theorem results_cell {P : Program} {fn : Func} {t : Tmp} {ty : TypeId} (h : fn.results = #[.cell t ty]) (tmps : Array Value) (w : World) (a : Addr) (ha : tmps.getD t undef = .pointer (some a)) (v : Value) (hl : (loadVar ty a).run P w = .ok v w) :
    (results fn tmps).run P w = .ok v w := by
  rw [Array.getD_eq_getD_getElem?] at ha
  simp [results, h, asAddr, ha, hl]
theorem results_cell_tmp {P : Program} {fn : Func} {t u : Tmp} {ty : TypeId} (h : fn.results = #[.cell t ty, .tmp u]) (tmps : Array Value) (w : World) (a : Addr) (ha : tmps.getD t undef = .pointer (some a)) (v : Value) (hl : (loadVar ty a).run P w = .ok v w) :
    (results fn tmps).run P w = .ok (.tuple #[v, tmps.getD u undef]) w := by
  rw [Array.getD_eq_getD_getElem?] at ha
  simp [results, h, asAddr, ha, hl]
end Go.Proofs.YtlglfcdobbocnaaGreat
