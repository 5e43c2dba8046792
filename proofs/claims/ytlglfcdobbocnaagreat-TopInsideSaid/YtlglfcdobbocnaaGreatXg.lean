/- Rows of darts, rows of rows; what orders darts about a point. -/
import Derived.Test.YtlglfcdobbocnaaGreatXf
set_option maxRecDepth 100000
namespace Go.Proofs.YtlglfcdobbocnaaGreat
open Go Go.Proofs Go.RowKit
attribute [local go_sem] Oper.semAt_some
/-- append of several elements. -/
theorem append_many {α : Type} {cs : α → List Value} {t e size bytes : Nat} {z : Value} {ops : Array Oper} {rest : List Oper} {o : Oper} {a : Act} {Q : Exit → Act → World → Prop} (ht : Tryz.prog.underlying t = some (.slice e))
    (hi : (Tryz.prog.info? e).map (fun i => (i.zero, i.size, i.bytes)) = some (some z, size, bytes)) (hz2 : z.cells.size = size) (hs0 : 0 < size) (hby : bytes ≤ 64) (hlen : ∀ x, (cs x).length = size) (hone : ∀ x, ∀ u ∈ cs x, u.oneCell' = true)
    (w : World) (hg : o.guard = none) (s x : Operand) (ho : o.op = .call { callee := .builtin .append, args := #[s, x], argTypes := #[t, t] }) (base : Nat) (v : Value) (l : List α) (hs : a.eval s = v) (hown : OwnG w base e size cs v l)
    (g off m c : Nat) (ys : List α) (hm : ys.length = m) (hx : a.eval x = .slice (some ⟨g, off, none⟩) m c) (hc : ∀ j u, (ys.flatMap cs)[j]? = some u → w.cell? ⟨g, off + j, none⟩ = some u) (hl : l.length + m < 1099511627776) (hbase : base ≤ w.heap.size)
    (h : ∀ ra rc w', OwnG w' base e size cs (.slice ra (l.length + m) rc) (l ++ ys) → w.grownBy w' v.ownBlock → (∀ j, (Value.slice ra (l.length + m) rc).ownBlock = some j → v.ownBlock = some j ∨ j = w.heap.size) → wpList Tryz.prog ops Q rest (a.put o.dst (.slice ra (l.length + m) rc)) w') :
    wpList Tryz.prog ops Q (o :: rest) a w := by
  obtain ⟨i0, hi, hz0, hz1, hzb⟩ := info_parts' hi
  refine wpList_append_own_at w hg s x t ho base e i0 _ size bytes ht hi hz0 hz1 hzb hz2 hs0 v l.length _ hs hown ⟨g, off, none⟩ m c (ys.flatMap cs) hx (by rw [flatMap_len hlen, hm])
    (fun j u hu => ?_) (fun u hu => ?_) (by unfold maxLen; omega) ?_ hbase ?_
  · rw [Addr.add_mid]
    exact hc j u hu
  · obtain ⟨y, -, hy⟩ := List.mem_flatMap.1 hu
    exact hone y u hy
  · have : (l.length + m) * bytes ≤ (l.length + m) * 64 := Nat.mul_le_mul_left _ hby
    omega
  · intro v' w' h1 h2 h3 h4
    have hn : OwnG w' base e size cs v' (l ++ ys) := by
      unfold OwnG
      rw [List.length_append, List.flatMap_append, hm]
      exact h1
    rcases hn.slice hlen with ⟨e1, e2⟩ | ⟨gg, cc, e1, -, -, hgl, -⟩
    · have hl0 : l.length + m = 0 := by rw [← hm, ← List.length_append, e1]; rfl
      subst e2
      have hh := h none 0 w' (by rw [hl0]; exact hn) h2 (fun j hj => by rw [hl0] at hj; cases hj)
      rw [hl0] at hh
      exact hh
    · subst e1
      rw [List.length_append, hm] at hn h4 ⊢
      refine h _ _ _ hn h2 fun j hj => ?_
      rcases h4 with h4 | h4
      · exact .inl (h4 ▸ hj)
      · rw [h4] at hj
        exact .inr (Option.some.inj hj).symm
/-- append of several elements, as a step of a region that draws. -/
theorem step_many {α : Type} {cs : α → List Value} {t e size bytes : Nat} {z : Value} {ops : Array Oper} {o : Oper} {a : Act} {w : World} {K : Act → World → Prop} {Q : Exit → Act → World → Prop} {C : Prop} (ht : Tryz.prog.underlying t = some (.slice e))
    (hi : (Tryz.prog.info? e).map (fun i => (i.zero, i.size, i.bytes)) = some (some z, size, bytes)) (hz2 : z.cells.size = size) (hs0 : 0 < size) (hby : bytes ≤ 64) (hlen : ∀ x, (cs x).length = size) (hone : ∀ x, ∀ u ∈ cs x, u.oneCell' = true)
    (hg : o.guard = none) (s x : Operand) (ho : o.op = .call { callee := .builtin .append, args := #[s, x], argTypes := #[t, t] }) (base : Nat) (v : Value) (l : List α) (hown : OwnG w base e size cs v l) (hs : a.eval s = v)
    (g off m c : Nat) (ys : List α) (hm : ys.length = m) (hx : a.eval x = .slice (some ⟨g, off, none⟩) m c) (hc : ∀ j u, (ys.flatMap cs)[j]? = some u → w.cell? ⟨g, off + j, none⟩ = some u) (hl : l.length + m < 1099511627776) (hbase : base ≤ w.heap.size)
    (h : ∀ ra rc w', OwnG w' base e size cs (.slice ra (l.length + m) rc) (l ++ ys) → w.grownBy w' v.ownBlock → (∀ j, (Value.slice ra (l.length + m) rc).ownBlock = some j → v.ownBlock = some j ∨ j = w.heap.size) → K (a.put o.dst (.slice ra (l.length + m) rc)) w') :
    if Region.wanted o (yielded ops a.tmps) = true then Oper.wp Tryz.prog o a w K Q else C := by
  have hw : Region.wanted o (yielded ops a.tmps) = true := by simp [Region.wanted, hg]
  rw [if_pos hw]
  obtain ⟨i0, hi, hz0, hz1, hzb⟩ := info_parts' hi
  have hbb : (l.length + m) * bytes ≤ (l.length + m) * 64 := Nat.mul_le_mul_left _ hby
  obtain ⟨v', w', hrun, h1, h2, -, h4⟩ := run_append_own_at (P := Tryz.prog) w base t o.type e i0 z size bytes ht hi hz0 hz1 hzb hz2 hs0 v l.length _ hown ⟨g, off, none⟩ m c (ys.flatMap cs) (by rw [flatMap_len hlen, hm])
    (fun j u hu => by rw [Addr.add_mid]; exact hc j u hu) (fun u hu => by
      obtain ⟨y, -, hy⟩ := List.mem_flatMap.1 hu
      exact hone y u hy) (by unfold maxLen; omega) (by omega) hbase
  have hn : OwnG w' base e size cs v' (l ++ ys) := by
    unfold OwnG
    rw [List.length_append, List.flatMap_append, hm]
    exact h1
  unfold Oper.wp
  simp [execOp, ho, resolve, invoke, builtin, hs, hx, hrun, Result.andThen]
  rcases hn.slice hlen with ⟨e1, e2⟩ | ⟨gg, cc, e1, -, -, hgl, -⟩
  · have hl0 : l.length + m = 0 := by rw [← hm, ← List.length_append, e1]; rfl
    subst e2
    have hh := h none 0 w' (by rw [hl0]; exact hn) h2 (fun j hj => by rw [hl0] at hj; cases hj)
    rw [hl0] at hh
    exact hh
  · subst e1
    rw [List.length_append, hm] at hn h4 ⊢
    refine h _ _ _ hn h2 fun j hj => ?_
    rcases h4 with h4 | h4
    · exact .inl (h4 ▸ hj)
    · rw [h4] at hj
      exact .inr (Option.some.inj hj).symm
def fiveC (x : Five) : List Value := [.int .i64 x.1, .int .i64 x.2.1, .int .i64 x.2.2.1, .int .i64 x.2.2.2.1, .int .i64 x.2.2.2.2]
theorem fiveC_len (x : Five) : (fiveC x).length = 5 := rfl
theorem fiveC_one (x : Five) : ∀ u ∈ fiveC x, u.oneCell' = true := fun u hu => by
  simp [fiveC] at hu
  rcases hu with rfl | rfl | rfl | rfl | rfl <;> rfl
/-- Darts of the call's own. -/
abbrev OwnD (X : World) (base : Nat) (v : Value) (l : List Five) : Prop := OwnG X base 101 5 fiveC v l
theorem info101 : (Tryz.prog.info? 101).map (fun i => (i.zero, i.size, i.bytes)) = some (some (.agg #[.int .i64 0, .int .i64 0, .int .i64 0, .int .i64 0, .int .i64 0]), 5, 40) := by kernel_rfl
theorem info36 : (Tryz.prog.info? 36).map (fun i => (i.zero, i.size, i.bytes)) = some (some (.slice none 0 0), 1, 24) := by kernel_rfl
theorem OwnG.fives {X : World} {base e : Nat} {v : Value} {l : List Five} (h : OwnG X base e 5 fiveC v l) : ∃ ao c, v = .slice ao l.length c ∧ Fives X ao l ∧ ∀ x, ao = some x → base ≤ x.block ∧ x.block < X.heap.size := by
  rcases h.slice fiveC_len with ⟨rfl, rfl⟩ | ⟨g, c, rfl, -, hb, hl, -, hc⟩
  · exact ⟨none, 0, rfl, fun i hi => by simp at hi, fun x e => by cases e⟩
  · refine ⟨_, c, rfl, fun i hi => ⟨g, 0, rfl, ?_, ?_, ?_, ?_, ?_⟩, fun x e => by cases e; exact ⟨hb, hl⟩⟩
    · simpa using hc i hi 0 _ rfl
    · simpa using hc i hi 1 _ rfl
    · simpa using hc i hi 2 _ rfl
    · simpa using hc i hi 3 _ rfl
    · simpa using hc i hi 4 _ rfl
/-! ### The order about a point -/
/-- What the closure that compares darts reads. -/
structure SpreadAt (X : World) (cw g : Nat) (P : List Pt) (E : List (Nat × Nat)) : Prop where
  c : X.cell? ⟨cw, 0, none⟩ = some (.pointer (some ⟨g, 0, none⟩))
  all : ∃ b off c, X.cell? ⟨g, 3, none⟩ = some (.slice (some ⟨b, off, none⟩) (2 * E.length) c) ∧ Fives X (some ⟨b, off, none⟩) (dartL P E)
theorem dDir_sw {P : List Pt} {E : List (Nat × Nat)} (he : Ends P E) (hok : ∀ x ∈ P, okB x = true) {d : Nat} (hd : d < 2 * E.length) : Sw (dDir (eS P E) d) := by
  have ht := he.tail d hd
  have o1 := hok _ (getD_mem (0, 0) ht.1)
  have o2 := hok _ (getD_mem (0, 0) ht.2)
  rw [okB_iff] at o1 o2
  rw [← dFrom_tail] at o1
  rw [← dTo_head] at o2
  unfold Sw dDir
  unfold dFrom at o1
  unfold dTo at o2
  split
  · rename_i h
    rw [if_pos h] at o1 o2
    unfold fwd
    simp only []
    omega
  · rename_i h
    rw [if_neg h] at o1 o2
    unfold bwd
    simp only []
    omega
def angD (P : List Pt) (E : List (Nat × Nat)) (x y : Int) : Int := angZ (dDir (eS P E) x.toNat) (dDir (eS P E) y.toNat)
set_option maxHeartbeats 1000000 in
theorem spread1_any (cw g x y : Nat) (P : List Pt) (E : List (Nat × Nat)) (X : World) (h : SpreadAt X cw g P E) (he : Ends P E) (hok : ∀ x ∈ P, okB x = true) (hx : x < 2 * E.length) (hy : y < 2 * E.length) :
    Calls Tryz.prog 82 #[.int .i64 x, .int .i64 y, .pointer (some ⟨cw, 0, none⟩)] X (Gives (.int .i64 (angD P E x y)) X) := by
  have HA := Lib.hid (dDir_sw he hok hx)
  have HB := Lib.hid (dDir_sw he hok hy)
  have HR : Hid (angZ (dDir (eS P E) x) (dDir (eS P E) y) = angD P E x y) := Lib.hid (by unfold angD; simp)
  obtain ⟨hc, b, off, c, d0, hf⟩ := h
  obtain ⟨b1, off1, e1, x0, x1, -⟩ := hf x (by rw [dartL_len]; exact hx)
  obtain ⟨b2, off2, e2, y0, y1, -⟩ := hf y (by rw [dartL_len]; exact hy)
  cases e1
  cases e2
  simp only [dartL, List.getElem_map, List.getElem_range, dartC] at x0 x1 y0 y1
  generalize dDir (eS P E) x = va at x0 x1 HA HR
  generalize dDir (eS P E) y = vb at y0 y1 HB HR
  have hb1 := lt_of_cell hc
  have hb2 := lt_of_cell d0
  have hb3 := lt_of_cell x0
  generalize 2 * E.length = N at hx hy d0
  clear hf he hok
  go_enter Tryz.func82, Tryz.ntmps82
  go_wp2
  refine region_tail 16 (by kernel_rfl) (by kernel_rfl) ?_
  simp only [List.take_succ_cons, List.take_zero, List.drop_succ_cons, List.drop_zero]
  repeat still_step
  refine wpStill_nil ?_
  go_wp2_with fail
  refine (turns_any va vb _ HA.out HB.out).mono ?_
  rintro e w1 ⟨rfl, hk⟩
  have HK := Lib.hid ((Kept.refl X).drew.trans hk)
  rw [HR.out]
  clear hk
  go_wp2
  go_ret
  exact ⟨rfl, HK.out⟩
end Go.Proofs.YtlglfcdobbocnaaGreat
