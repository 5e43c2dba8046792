/- Observations in memory; the small functions of reading that look at one observation. -/
import Derived.Test.YtgmodcipbklejaaA
import Derived.Test.YtgmodcipbklejaaP
set_option maxRecDepth 100000
namespace Go.Proofs.Ytgmodcipbklejaa
open Go Go.Proofs Go.RowKit
attribute [local go_sem] Oper.semAt_some

theorem Kept.grown {w X Y : World} {row : Option Nat} (h : Kept w X) (hg : X.grownBy Y row) (hr : ∀ r, row = some r → w.heap.size ≤ r) : Kept w Y := Below.grown h hg h.size hr
/-- The cells of an observation. -/
def obsC (x : Obs) : List Value := [.int .i64 x.id, .int .i64 x.known, .int .i64 x.reader, .int .u8 x.kind, .int .i64 x.a, .int .i64 x.b, .int .i64 x.vo]
theorem obsC_len (x : Obs) : (obsC x).length = 7 := rfl
/-- An observation as a value. -/
abbrev obsV (x : Obs) : Value := .agg #[.int .i64 x.id, .int .i64 x.known, .int .i64 x.reader, .int .u8 x.kind, .int .i64 x.a, .int .i64 x.b, .int .i64 x.vo]
/-- An observation in a variable. -/
structure ObsBox (X : World) (g : Nat) (x : Obs) : Prop where
  c0 : X.cell? ⟨g, 0, none⟩ = some (.int .i64 x.id)
  c1 : X.cell? ⟨g, 1, none⟩ = some (.int .i64 x.known)
  c2 : X.cell? ⟨g, 2, none⟩ = some (.int .i64 x.reader)
  c3 : X.cell? ⟨g, 3, none⟩ = some (.int .u8 x.kind)
  c4 : X.cell? ⟨g, 4, none⟩ = some (.int .i64 x.a)
  c5 : X.cell? ⟨g, 5, none⟩ = some (.int .i64 x.b)
  c6 : X.cell? ⟨g, 6, none⟩ = some (.int .i64 x.vo)
theorem ObsBox.kept {X Y : World} {g : Nat} {x : Obs} (h : ObsBox X g x) (hk : Kept X Y) : ObsBox Y g x :=
  ⟨hk.cell h.c0, hk.cell h.c1, hk.cell h.c2, hk.cell h.c3, hk.cell h.c4, hk.cell h.c5, hk.cell h.c6⟩
theorem ObsBox.setA {X : World} {g : Nat} {x : Obs} (h : ObsBox X g x) (v : Int) : ObsBox (X.setCell ⟨g, 4, none⟩ (.int .i64 v)) g { x with a := v } :=
  ⟨cell_set_off h.c0 (by omega), cell_set_off h.c1 (by omega), cell_set_off h.c2 (by omega), cell_set_off h.c3 (by omega), cell_set_same h.c4, cell_set_off h.c5 (by omega), cell_set_off h.c6 (by omega)⟩
theorem ObsBox.setB {X : World} {g : Nat} {x : Obs} (h : ObsBox X g x) (v : Int) : ObsBox (X.setCell ⟨g, 5, none⟩ (.int .i64 v)) g { x with b := v } :=
  ⟨cell_set_off h.c0 (by omega), cell_set_off h.c1 (by omega), cell_set_off h.c2 (by omega), cell_set_off h.c3 (by omega), cell_set_off h.c4 (by omega), cell_set_same h.c5, cell_set_off h.c6 (by omega)⟩
theorem ObsBox.setVo {X : World} {g : Nat} {x : Obs} (h : ObsBox X g x) (v : Int) : ObsBox (X.setCell ⟨g, 6, none⟩ (.int .i64 v)) g { x with vo := v } :=
  ⟨cell_set_off h.c0 (by omega), cell_set_off h.c1 (by omega), cell_set_off h.c2 (by omega), cell_set_off h.c3 (by omega), cell_set_off h.c4 (by omega), cell_set_off h.c5 (by omega), cell_set_same h.c6⟩
theorem alloc_obs (w : World) (a b c d e f g : Int) : ∃ w0, w.alloc (.cells #[.int .i64 a, .int .i64 b, .int .i64 c, .int .u8 d, .int .i64 e, .int .i64 f, .int .i64 g] 55) = w0 ∧ Kept w w0 ∧ ObsBox w0 w.heap.size ⟨a, b, c, d, e, f, g⟩ ∧ w.heap.size + 1 = w0.heap.size ∧ ∀ o, w0.frozen? ⟨w.heap.size, o, none⟩ = false := by
  have hh := heap_alloc_new w (.cells #[.int .i64 a, .int .i64 b, .int .i64 c, .int .u8 d, .int .i64 e, .int .i64 f, .int .i64 g] 55)
  refine ⟨_, rfl, (Kept.refl w).alloc _, ?_, by simp, fun o => frozen_of_row _ _ _ _ _ hh⟩
  constructor <;> (unfold World.cell?; simp only []; rw [hh]; rfl)
/-- Observations behind ao. -/
def Obss (X : World) (ao : Option Addr) (l : List Obs) : Prop := ∀ i, (h : i < l.length) → ∃ b off, ao = some ⟨b, off, none⟩ ∧
  X.cell? ⟨b, off + i * 7, none⟩ = some (.int .i64 l[i].id) ∧ X.cell? ⟨b, off + i * 7 + 1, none⟩ = some (.int .i64 l[i].known) ∧ X.cell? ⟨b, off + i * 7 + 2, none⟩ = some (.int .i64 l[i].reader) ∧ X.cell? ⟨b, off + i * 7 + 3, none⟩ = some (.int .u8 l[i].kind) ∧
  X.cell? ⟨b, off + i * 7 + 4, none⟩ = some (.int .i64 l[i].a) ∧ X.cell? ⟨b, off + i * 7 + 5, none⟩ = some (.int .i64 l[i].b) ∧ X.cell? ⟨b, off + i * 7 + 6, none⟩ = some (.int .i64 l[i].vo)
theorem Obss.kept {X Y : World} {ao : Option Addr} {l : List Obs} (h : Obss X ao l) (hk : Kept X Y) : Obss Y ao l := fun i hi => by
  obtain ⟨b, off, e, h0, h1, h2, h3, h4, h5, h6⟩ := h i hi
  exact ⟨b, off, e, hk.cell h0, hk.cell h1, hk.cell h2, hk.cell h3, hk.cell h4, hk.cell h5, hk.cell h6⟩
theorem Obss.nil (X : World) (ao : Option Addr) : Obss X ao [] := fun i h => absurd h (by simp)

/-! ### in, two, pair, kinds -/
def inB (n a b : Int) : Bool := decide (a ≤ n) && decide (n ≤ b)
set_option maxHeartbeats 400000 in
theorem in_any (n a b : Int) (w : World) : Calls Try.prog 18 #[.int .i64 n, .int .i64 a, .int .i64 b] w (Tells (.bool (inB n a b)) w) := by
  go_enter Try.func18, Try.ntmps18
  go_wp2
  all_goals (go_ret; exact ⟨ret_bool (by unfold inB; rw [Bool.eq_iff_iff]; simp <;> omega), rfl⟩)
/-- .. where it is so. -/
theorem in_yes {n a b : Int} (h1 : a ≤ n) (h2 : n ≤ b) (w : World) : Calls Try.prog 18 #[.int .i64 n, .int .i64 a, .int .i64 b] w (Tells (.bool true) w) := by
  have := in_any n a b w
  have e : inB n a b = true := by unfold inB; simp [h1, h2]
  rwa [e] at this
theorem in_not {n a b : Int} (h : n < a ∨ b < n) (w : World) : Calls Try.prog 18 #[.int .i64 n, .int .i64 a, .int .i64 b] w (Tells (.bool false) w) := by
  have := in_any n a b w
  have e : inB n a b = false := by unfold inB; rw [Bool.and_eq_false_iff]; rcases h with h | h; exact .inl (decide_eq_false (by omega)); exact .inr (decide_eq_false (by omega))
  rwa [e] at this
set_option maxHeartbeats 400000 in
theorem two_yes (x : Obs) (n : Int) (w : World) (h1 : 1 ≤ x.a) (h2 : x.a ≤ n) (h3 : 1 ≤ x.b) (h4 : x.b ≤ n) (h5 : x.a ≠ x.b) : Calls Try.prog 83 #[obsV x, .int .i64 n] w (Gives (.bool true) w) := by
  obtain ⟨xi, xk, xr, xq, xa, xb, xv⟩ := x
  simp only [] at *
  have ne : (xa != xb) = true := by simp [h5]
  go_enter Try.func83, Try.ntmps83
  go_wp2_with fail
  refine (in_yes h1 h2 _).mono ?_
  rintro e w1 ⟨rfl, rfl⟩
  go_wp2_with fail
  refine (in_yes h3 h4 _).mono ?_
  rintro e w1 ⟨rfl, rfl⟩
  go_wp2
  go_ret
  exact ⟨rfl, (Kept.refl w).alloc _⟩
set_option maxHeartbeats 400000 in
theorem void_yes (x : Obs) (n : Int) (w : World) (h1 : 1 ≤ x.vo) (h2 : x.vo ≤ 1000000) : Calls Try.prog 85 #[obsV x, .int .i64 n] w (Gives (.bool true) w) := by
  obtain ⟨xi, xk, xr, xq, xa, xb, xv⟩ := x
  simp only [] at *
  go_enter Try.func85, Try.ntmps85
  go_wp2_with fail
  refine (in_yes h1 h2 _).mono ?_
  rintro e w1 ⟨rfl, rfl⟩
  go_wp2
  go_ret
  exact ⟨rfl, (Kept.refl w).alloc _⟩
theorem ptrs_two (w : World) (p q : Addr) : (w.alloc (.cells #[.pointer (some p), .pointer (some q)] 130)).cell? ⟨w.heap.size, 0, none⟩ = some (.pointer (some p)) ∧ (w.alloc (.cells #[.pointer (some p), .pointer (some q)] 130)).cell? ⟨w.heap.size, 1, none⟩ = some (.pointer (some q)) := by
  have hh := heap_alloc_new w (.cells #[.pointer (some p), .pointer (some q)] 130)
  constructor <;> (unfold World.cell?; simp only []; rw [hh]; rfl)
theorem ptrs_one (w : World) (p : Addr) : (w.alloc (.cells #[.pointer (some p)] 130)).cell? ⟨w.heap.size, 0, none⟩ = some (.pointer (some p)) := by
  have hh := heap_alloc_new w (.cells #[.pointer (some p)] 130)
  unfold World.cell?; simp only []; rw [hh]; rfl
set_option maxHeartbeats 400000 in
theorem pair_any (g : Nat) (w : World) : Calls Try.prog 82 #[.pointer (some ⟨g, 0, none⟩)] w (fun e w' => ∃ gp, e = .returned (.slice (some ⟨gp, 0, none⟩) 2 2) ∧ w.heap.size ≤ gp ∧ w'.cell? ⟨gp, 0, none⟩ = some (.pointer (some ⟨g, 4, none⟩)) ∧ w'.cell? ⟨gp, 1, none⟩ = some (.pointer (some ⟨g, 5, none⟩)) ∧ Kept w w') := by
  go_enter Try.func82, Try.ntmps82
  go_wp2
  refine region_tail 6 (by kernel_rfl) (by kernel_rfl) ?_
  simp only [List.take_succ_cons, List.take_zero, List.drop_succ_cons, List.drop_zero]
  repeat still_step
  refine wpStill_nil ?_
  go_wp2
  go_ret
  exact ⟨_, rfl, Nat.le_refl _, (ptrs_two w _ _).1, (ptrs_two w _ _).2, ((Kept.refl w).alloc _).drew⟩
set_option maxHeartbeats 400000 in
theorem voidf_any (g : Nat) (w : World) : Calls Try.prog 84 #[.pointer (some ⟨g, 0, none⟩)] w (fun e w' => ∃ gp, e = .returned (.slice (some ⟨gp, 0, none⟩) 1 1) ∧ w.heap.size ≤ gp ∧ w'.cell? ⟨gp, 0, none⟩ = some (.pointer (some ⟨g, 6, none⟩)) ∧ Kept w w') := by
  go_enter Try.func84, Try.ntmps84
  go_wp2
  go_ret
  exact ⟨_, rfl, Nat.le_refl _, ptrs_one w _, (Kept.refl w).alloc _⟩
end Go.Proofs.Ytgmodcipbklejaa
