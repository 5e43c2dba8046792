/- Owned slices of elements of several cells; append of one element. Observations and pairs. -/
import Derived.Test.YtgmodcipbklejaaD
import Derived.Test.YtgmodcipbklejaaB
set_option maxRecDepth 100000
namespace Go.Proofs.Ytgmodcipbklejaa
open Go Go.Proofs Go.RowKit
attribute [local go_sem] Oper.semAt_some

/-- v is a slice of the call's own of the elements l, each of 'size' cells of type e. -/
def OwnG {α : Type} (X : World) (base e size : Nat) (cs : α → List Value) (v : Value) (l : List α) : Prop := X.ownsRow base e size v l.length (l.flatMap cs)

section
variable {α : Type} {X Y : World} {base e size : Nat} {cs : α → List Value} {v : Value} {l : List α}
theorem OwnG.nil (X : World) (base e size : Nat) (cs : α → List Value) : OwnG X base e size cs (.slice none 0 0) [] := World.ownsRow_nil X base e size
theorem OwnG.kept (h : OwnG X base e size cs v l) (hk : Kept X Y) : OwnG Y base e size cs v l := by
  refine ⟨h.1, ?_⟩
  rcases h.2 with hn | ⟨g, cap, cur, rfl, hb, hgg, rest⟩
  · exact .inl hn
  · exact .inr ⟨g, cap, cur, rfl, hb, ((show Below X.heap.size X Y from hk).block g (Array.getElem?_eq_some_iff.1 hgg).1).trans hgg, rest⟩
theorem OwnG.lt (h : OwnG X base e size cs v l) : ∀ k, v.ownBlock = some k → base ≤ k ∧ k < X.heap.size := World.ownsRow.lt h
theorem OwnG.grownNe {row : Option Nat} (h : OwnG X base e size cs v l) (hg : X.grownBy Y row) (hr : ∀ k, v.ownBlock = some k → some k ≠ row) : OwnG Y base e size cs v l := by
  refine ⟨h.1, ?_⟩
  rcases h.2 with hn | ⟨g, cap, cur, rfl, hb, hgg, rest⟩
  · exact .inl hn
  · exact .inr ⟨g, cap, cur, rfl, hb, (hg.block g (Array.getElem?_eq_some_iff.1 hgg).1 (hr g rfl)).trans hgg, rest⟩
theorem flatMap_len (hcs : ∀ a, (cs a).length = size) : ∀ l : List α, (l.flatMap cs).length = l.length * size
  | [] => by simp
  | a :: l => by simp [flatMap_len hcs l, hcs, Nat.add_mul, Nat.add_comm]
theorem flatMap_get (hcs : ∀ a, (cs a).length = size) : ∀ (l : List α) (i j : Nat) (h : i < l.length), j < size → (l.flatMap cs)[i * size + j]? = (cs l[i])[j]?
  | [], i, j, h, _ => by simp at h
  | a :: l, 0, j, _, hj => by
    simp only [List.flatMap_cons, Nat.zero_mul, Nat.zero_add, List.getElem_cons_zero]
    rw [List.getElem?_append_left (by rw [hcs]; exact hj)]
  | a :: l, i + 1, j, h, hj => by
    simp only [List.flatMap_cons, List.getElem_cons_succ]
    rw [List.getElem?_append_right (by rw [hcs, Nat.add_mul]; omega), hcs, show (i + 1) * size + j - size = i * size + j by rw [Nat.add_mul]; omega]
    exact flatMap_get hcs l i j (by simpa using h) hj
/-- Where it lies. -/
theorem OwnG.slice (h : OwnG X base e size cs v l) (hcs : ∀ a, (cs a).length = size) : (l = [] ∧ v = .slice none 0 0) ∨ ∃ g c, v = .slice (some ⟨g, 0, none⟩) l.length c ∧ l.length ≤ c ∧ base ≤ g ∧ g < X.heap.size ∧
    (∀ o, X.frozen? ⟨g, o, none⟩ = false) ∧ ∀ i (h : i < l.length) (j : Nat) (u : Value), (cs l[i])[j]? = some u → X.cell? ⟨g, i * size + j, none⟩ = some u := by
  rcases h.2 with ⟨h1, h2⟩ | ⟨g, cap, cur, rfl, hbg, hgg, hnc, hcm, hcsz, htake⟩
  · exact .inl ⟨List.eq_nil_of_length_eq_zero h2, h1⟩
  · refine .inr ⟨g, cap, rfl, hnc, hbg, (Array.getElem?_eq_some_iff.1 hgg).1, fun o => frozen_of_row _ _ _ _ _ hgg, fun i hi j u hu => ?_⟩
    have hj : j < size := by have := (List.getElem?_eq_some_iff.1 hu).1; rw [hcs] at this; exact this
    rw [cell_of_row _ _ _ _ _ _ hgg, ← Array.getElem?_toList]
    have hlt : i * size + j < l.length * size := by
      have : (i + 1) * size ≤ l.length * size := Nat.mul_le_mul_right _ hi
      rw [Nat.add_mul] at this
      omega
    have e : (cur.toList.take (l.length * size))[i * size + j]? = cur.toList[i * size + j]? := by rw [List.getElem?_take, if_pos hlt]
    rw [← e, htake, flatMap_get hcs l i j hi hj]
    exact hu
end
theorem OwnG.base' {α : Type} {X : World} {base base' e size : Nat} {cs : α → List Value} {v : Value} {l : List α} (h : OwnG X base e size cs v l) (hb : base' ≤ base) : OwnG X base' e size cs v l := by
  refine ⟨h.1, ?_⟩
  rcases h.2 with hn | ⟨g, cap, cur, rfl, hb', rest⟩
  · exact .inl hn
  · exact .inr ⟨g, cap, cur, rfl, by omega, rest⟩


theorem OwnG.setNe {α : Type} {X : World} {base e size : Nat} {cs : α → List Value} {v : Value} {l : List α} (h : OwnG X base e size cs v l) {a : Addr} (ha : v.ownBlock ≠ some a.block) (u : Value) : OwnG (X.setCell a u) base e size cs v l := by
  refine ⟨h.1, ?_⟩
  rcases h.2 with hn | ⟨g, cap, cur, rfl, hb, hgg, rest⟩
  · exact .inl hn
  · refine .inr ⟨g, cap, cur, rfl, hb, ?_, rest⟩
    rw [Below.heap_setCell X a u g (fun e => ha (by rw [e]; rfl))]
    exact hgg
theorem info55 : (Try.prog.info? 55).map (fun i => (i.zero, i.size, i.bytes)) = some (some (.agg #[.int .i64 0, .int .i64 0, .int .i64 0, .int .u8 0, .int .i64 0, .int .i64 0, .int .i64 0]), 7, 56) := by kernel_rfl
theorem info47 : (Try.prog.info? 47).map (fun i => (i.zero, i.size, i.bytes)) = some (some (.agg #[.int .i64 0, .int .i64 0]), 2, 16) := by kernel_rfl
theorem info_parts' {T : Nat} {z : Value} {s b : Nat} (h : (Try.prog.info? T).map (fun i => (i.zero, i.size, i.bytes)) = some (some z, s, b)) : ∃ i0, Try.prog.info? T = some i0 ∧ i0.zero = some z ∧ i0.size = s ∧ i0.bytes = b := by
  cases e : Try.prog.info? T with
  | none => rw [e] at h; cases h
  | some i0 =>
    rw [e] at h
    simp at h
    exact ⟨i0, rfl, h.1, h.2.1, h.2.2⟩
theorem obsC_one (x : Obs) : ∀ u ∈ obsC x, u.oneCell' = true := fun u hu => by
  simp [obsC] at hu
  rcases hu with rfl | rfl | rfl | rfl | rfl | rfl | rfl <;> rfl
def pairC (p : Int × Int) : List Value := [.int .i64 p.1, .int .i64 p.2]
theorem pairC_len (x : Int × Int) : (pairC x).length = 2 := rfl
theorem pairC_one (x : Int × Int) : ∀ u ∈ pairC x, u.oneCell' = true := fun u hu => by
  simp [pairC] at hu
  rcases hu with rfl | rfl <;> rfl
/-- append of one element, at whatever type of elements. -/
theorem append_one {α : Type} {cs : α → List Value} {t e size bytes : Nat} {z : Value} {ops : Array Oper} {rest : List Oper} {o : Oper} {a : Act} {Q : Exit → Act → World → Prop} (ht : Try.prog.underlying t = some (.slice e))
    (hi : (Try.prog.info? e).map (fun i => (i.zero, i.size, i.bytes)) = some (some z, size, bytes)) (hz2 : z.cells.size = size) (hs0 : 0 < size) (hby : bytes ≤ 64) (hlen : ∀ x, (cs x).length = size) (hone : ∀ x, ∀ u ∈ cs x, u.oneCell' = true)
    (w : World) (hg : o.guard = none) (s x : Operand) (ho : o.op = .call { callee := .builtin .append, args := #[s, x], argTypes := #[t, t] }) (base : Nat) (v : Value) (l : List α) (hs : a.eval s = v) (hown : OwnG w base e size cs v l)
    (g : Nat) (y : α) (hx : a.eval x = .slice (some ⟨g, 0, none⟩) 1 1) (hc : ∀ j u, (cs y)[j]? = some u → w.cell? ⟨g, j, none⟩ = some u) (hl : l.length + 1 < 1099511627776) (hbase : base ≤ w.heap.size)
    (h : ∀ ra rc w', OwnG w' base e size cs (.slice ra (l.length + 1) rc) (l ++ [y]) → w.grownBy w' v.ownBlock → (∀ j, (Value.slice ra (l.length + 1) rc).ownBlock = some j → v.ownBlock = some j ∨ j = w.heap.size) → wpList Try.prog ops Q rest (a.put o.dst (.slice ra (l.length + 1) rc)) w') :
    wpList Try.prog ops Q (o :: rest) a w := by
  obtain ⟨i0, hi, hz0, hz1, hzb⟩ := info_parts' hi
  refine wpList_append_own_at w hg s x t ho base e i0 _ size bytes ht hi hz0 hz1 hzb hz2 hs0 v l.length _ hs hown ⟨g, 0, none⟩ 1 1 (cs y) hx (by rw [hlen]; omega)
    (fun j u hu => ?_) (hone y) (by unfold maxLen; omega) ?_ hbase ?_
  · have e : (⟨g, 0, none⟩ : Addr).add j = ⟨g, j, none⟩ := by
      unfold Addr.add
      split
      · rename_i h; rw [h]
      · simp
    rw [e]
    exact hc j u hu
  · have : (l.length + 1) * bytes ≤ (l.length + 1) * 64 := Nat.mul_le_mul_left _ hby
    omega
  · intro v' w' h1 h2 h3 h4
    have hn : OwnG w' base e size cs v' (l ++ [y]) := by
      unfold OwnG
      rw [List.length_append, List.flatMap_append]
      simpa using h1
    rcases hn.slice hlen with ⟨e1, -⟩ | ⟨gg, cc, e1, -, -, hgl, -⟩
    · exact absurd e1 (by simp)
    · subst e1
      simp only [List.length_append, List.length_cons, List.length_nil, Nat.zero_add] at hn ⊢
      refine h _ _ _ (by simpa using hn) h2 fun j hj => ?_
      simp only [List.length_append, List.length_cons, List.length_nil, Nat.zero_add] at h4
      rcases h4 with h4 | h4
      · exact .inl (h4 ▸ hj)
      · rw [h4] at hj
        exact .inr (Option.some.inj hj).symm
theorem append_obs {ops : Array Oper} {rest : List Oper} {o : Oper} {a : Act} {Q : Exit → Act → World → Prop} (w : World) (hg : o.guard = none) (s x : Operand)
    (ho : o.op = .call { callee := .builtin .append, args := #[s, x], argTypes := #[31, 31] }) (base : Nat) (v : Value) (l : List Obs) (hs : a.eval s = v) (hown : OwnG w base 55 7 obsC v l)
    (g : Nat) (y : Obs) (hx : a.eval x = .slice (some ⟨g, 0, none⟩) 1 1) (hc : ObsBox w g y) (hl : l.length + 1 < 1099511627776) (hbase : base ≤ w.heap.size)
    (h : ∀ ra rc w', OwnG w' base 55 7 obsC (.slice ra (l.length + 1) rc) (l ++ [y]) → w.grownBy w' v.ownBlock → (∀ j, (Value.slice ra (l.length + 1) rc).ownBlock = some j → v.ownBlock = some j ∨ j = w.heap.size) → wpList Try.prog ops Q rest (a.put o.dst (.slice ra (l.length + 1) rc)) w') :
    wpList Try.prog ops Q (o :: rest) a w :=
  append_one Try.underlying31 info55 rfl (by omega) (by omega) obsC_len obsC_one w hg s x ho base v l hs hown g y hx (fun j u hu => by
    match j, hu with
    | 0, hu => simp [obsC] at hu; subst hu; exact hc.c0
    | 1, hu => simp [obsC] at hu; subst hu; exact hc.c1
    | 2, hu => simp [obsC] at hu; subst hu; exact hc.c2
    | 3, hu => simp [obsC] at hu; subst hu; exact hc.c3
    | 4, hu => simp [obsC] at hu; subst hu; exact hc.c4
    | 5, hu => simp [obsC] at hu; subst hu; exact hc.c5
    | 6, hu => simp [obsC] at hu; subst hu; exact hc.c6
    | j + 7, hu => simp [obsC] at hu) hl hbase h
theorem append_pair {ops : Array Oper} {rest : List Oper} {o : Oper} {a : Act} {Q : Exit → Act → World → Prop} (w : World) (hg : o.guard = none) (s x : Operand)
    (ho : o.op = .call { callee := .builtin .append, args := #[s, x], argTypes := #[22, 22] }) (base : Nat) (v : Value) (l : List (Int × Int)) (hs : a.eval s = v) (hown : OwnG w base 47 2 pairC v l)
    (g : Nat) (y : Int × Int) (hx : a.eval x = .slice (some ⟨g, 0, none⟩) 1 1) (hc : w.cell? ⟨g, 0, none⟩ = some (.int .i64 y.1) ∧ w.cell? ⟨g, 1, none⟩ = some (.int .i64 y.2)) (hl : l.length + 1 < 1099511627776) (hbase : base ≤ w.heap.size)
    (h : ∀ ra rc w', OwnG w' base 47 2 pairC (.slice ra (l.length + 1) rc) (l ++ [y]) → w.grownBy w' v.ownBlock → (∀ j, (Value.slice ra (l.length + 1) rc).ownBlock = some j → v.ownBlock = some j ∨ j = w.heap.size) → wpList Try.prog ops Q rest (a.put o.dst (.slice ra (l.length + 1) rc)) w') :
    wpList Try.prog ops Q (o :: rest) a w :=
  append_one Try.underlying22 info47 rfl (by omega) (by omega) pairC_len pairC_one w hg s x ho base v l hs hown g y hx (fun j u hu => by
    match j, hu with
    | 0, hu => simp [pairC] at hu; subst hu; exact hc.1
    | 1, hu => simp [pairC] at hu; subst hu; exact hc.2
    | j + 2, hu => simp [pairC] at hu) hl hbase h
/-- Observations of the call's own: where they lie. -/
theorem OwnG.obss {X : World} {base : Nat} {v : Value} {l : List Obs} (h : OwnG X base 55 7 obsC v l) : ∃ ao c, v = .slice ao l.length c ∧ Obss X ao l := by
  rcases h.slice obsC_len with ⟨rfl, rfl⟩ | ⟨g, c, rfl, -, -, -, -, hc⟩
  · exact ⟨none, 0, rfl, Obss.nil _ _⟩
  · refine ⟨_, c, rfl, fun i hi => ⟨g, 0, rfl, ?_, ?_, ?_, ?_, ?_, ?_, ?_⟩⟩
    all_goals simp only [Nat.zero_add]
    · exact hc i hi 0 _ rfl
    · exact hc i hi 1 _ rfl
    · exact hc i hi 2 _ rfl
    · exact hc i hi 3 _ rfl
    · exact hc i hi 4 _ rfl
    · exact hc i hi 5 _ rfl
    · exact hc i hi 6 _ rfl
theorem OwnG.prs {X : World} {base : Nat} {v : Value} {l : List (Int × Int)} (h : OwnG X base 47 2 pairC v l) : ∃ ao c, v = .slice ao l.length c ∧ Pairs X ao l := by
  rcases h.slice pairC_len with ⟨rfl, rfl⟩ | ⟨g, c, rfl, -, -, -, -, hc⟩
  · exact ⟨none, 0, rfl, Pairs.nil _ _⟩
  · exact ⟨_, c, rfl, fun i hi => ⟨g, 0, rfl, by simpa using hc i hi 0 _ rfl, by simpa using hc i hi 1 _ rfl⟩⟩
end Go.Proofs.Ytgmodcipbklejaa
