/- The order of parts, by their ends. -/
import Derived.Test.YtlglfcdobbocnaaGreatXo
set_option maxRecDepth 100000
namespace Go.Proofs.YtlglfcdobbocnaaGreat
open Go Go.Proofs Go.RowKit
attribute [local go_sem] Oper.semAt_some
structure TwoAt (X : World) (a b c d : Nat) (x y : Nat) (Y : World) : Prop where
  kept : Kept X Y
  x0 : Y.cell? ⟨x, 0, none⟩ = some (.int .i64 a)
  x1 : Y.cell? ⟨x, 1, none⟩ = some (.int .i64 b)
  y0 : Y.cell? ⟨y, 0, none⟩ = some (.int .i64 c)
  y1 : Y.cell? ⟨y, 1, none⟩ = some (.int .i64 d)
/-- An operation is done. -/
def dn (l : Array Bool) (k : Nat) : Prop := l[k]?.getD false = true
theorem dn_set {l : Array Bool} {k j : Nat} (h : dn (l.setIfInBounds k true) j) : j = k ∨ dn l j := by
  unfold dn at *
  by_cases e : j = k
  · exact .inl e
  · rw [Array.getElem?_setIfInBounds, if_neg (fun e' => e e'.symm)] at h
    exact .inr h
theorem dn_mono {l : Array Bool} {k j : Nat} (h : dn l j) : dn (l.setIfInBounds k true) j := by
  unfold dn at *
  rw [Array.getElem?_setIfInBounds]
  split
  · rename_i e
    subst e
    split
    · rfl
    · rename_i hk
      rw [Array.getElem?_eq_none (by omega)] at h
      cases h
  · exact h
theorem dn_old {l : Array Bool} {k j : Nat} {p : Prop} (h : dn l j → p) (hn : j ≠ k) (hd : dn (l.setIfInBounds k true) j) : p := h ((dn_set hd).resolve_left hn)
theorem dn_not {l : Array Bool} {k : Nat} (h : l.getD k true = false) : ¬ dn l k := by
  unfold dn
  rw [Array.getD_eq_getD_getElem?] at h
  cases e : l[k]? with
  | none => simp
  | some x => rw [e] at h; simp only [Option.getD_some] at h ⊢; rw [h]; simp
theorem dn_rep (n k : Nat) : ¬ dn (Array.replicate n false) k := by
  unfold dn
  rw [Array.getElem?_replicate]
  split <;> simp
/-- A box of two numbers, and what stands there once it is filled. -/
def BoxAt (w X : World) (x : Value) (a b : Nat) (q : Prop) : Prop := ∃ u p r, x = .pointer (some ⟨u, 0, none⟩) ∧ w.heap.size ≤ u ∧ (∀ o, X.frozen? ⟨u, o, none⟩ = false) ∧ X.cell? ⟨u, 0, none⟩ = some (.int .i64 p) ∧ X.cell? ⟨u, 1, none⟩ = some (.int .i64 r) ∧ (q → p = a ∧ r = b)
theorem BoxAt.to {w X Y : World} {x : Value} {a b : Nat} {q q' : Prop} (h : BoxAt w X x a b q) (hk : Kept X Y) (hq : q' → q) : BoxAt w Y x a b q' := by
  obtain ⟨u, p, r, h1, h2, h3, h4, h5, h6⟩ := h
  exact ⟨u, p, r, h1, h2, fun o => (hk.cells.2 u o (lt_of_cell h4)).trans (h3 o), hk.cell h4, hk.cell h5, fun k => h6 (hq k)⟩
theorem BoxAt.set {w X : World} {x : Value} {a b u i : Nat} {q q' : Prop} {v : Value} (h : BoxAt w X x a b q) (hn : x ≠ .pointer (some ⟨u, 0, none⟩)) (hq : q' → q) : BoxAt w (X.setCell ⟨u, i, none⟩ v) x a b q' := by
  obtain ⟨y, p, r, rfl, h2, h3, h4, h5, h6⟩ := h
  have e : y ≠ u := fun e => hn (by rw [e])
  exact ⟨y, p, r, rfl, h2, fun o => by rw [World.frozen?_setCell]; exact h3 o, cell_set_block h4 e, cell_set_block h5 e, fun k => h6 (hq k)⟩
structure Ord2 (w : World) (ti lb i j a b c d : Nat) (l : Array Bool) (X : World) (x6 x7 x8 x9 x10 x11 x12 x13 : Value) : Prop where
  kept : Kept w X
  f0 : dn l 0 → x8 = .func (.func 53) #[] #[.pointer (some ⟨ti, 0, none⟩), .pointer (some ⟨lb, 0, none⟩)]
  f1 : dn l 1 → x9 = .int .i64 i
  f2 : dn l 2 → x10 = twoV a b
  f3 : dn l 3 → x11 = .func (.func 53) #[] #[.pointer (some ⟨ti, 0, none⟩), .pointer (some ⟨lb, 0, none⟩)]
  f4 : dn l 4 → x12 = .int .i64 j
  f5 : dn l 5 → x13 = twoV c d
  f6 : dn l 6 → BoxAt w X x6 a b (dn l 8)
  f7 : dn l 7 → BoxAt w X x7 c d (dn l 9)
  ne : dn l 6 → dn l 7 → x6 ≠ x7
  d8 : dn l 8 → dn l 6
  d9 : dn l 9 → dn l 7
theorem new_two (w X : World) (a b : Nat) (q : Prop) (hk : Kept w X) (hq : ¬ q) : BoxAt w (X.alloc (.cells #[.int .i64 0, .int .i64 0] 81)) (.pointer (some ⟨X.heap.size, 0, none⟩)) a b q :=
  ⟨X.heap.size, 0, 0, rfl, hk.size, fun o => frozen_alloc _ _ _ o, by simp [go_sem], by simp [go_sem], fun h => absurd h hq⟩
theorem BoxAt.lt {w X : World} {x : Value} {a b : Nat} {q : Prop} (h : BoxAt w X x a b q) : x ≠ .pointer (some ⟨X.heap.size, 0, none⟩) := by
  obtain ⟨u, p, r, rfl, h2, h3, h4, h5, h6⟩ := h
  intro e
  simp only [Value.pointer.injEq, Option.some.injEq, Addr.mk.injEq] at e
  have := lt_of_cell h4
  omega
set_option maxHeartbeats 4000000 in
theorem order2_any (mb ti te lb : Nat) (P : List Pt) (L : List Prt) (i j : Nat) (w : World) (h : AsmW w mb ti te lb P L) (hb : Between P L) (hi : i < L.length) (hj : j < L.length) :
    Calls Tryz.prog 55 #[.int .i64 i, .int .i64 j, .pointer (some ⟨te, 0, none⟩)] w (Gives (.int .i64 (orI [cmpI (P.idxOf L[i].s.1) (P.idxOf L[j].s.1), cmpI (P.idxOf L[i].s.2) (P.idxOf L[j].s.2)])) w) := by
  have H := Lib.hid h
  have HB := Lib.hid hb
  have e0 := h.e
  have hl0 := lt_of_cell e0
  have HC1 : Hid (∀ X, Kept w X → Calls Tryz.prog 53 #[.int .i64 i, .pointer (some ⟨ti, 0, none⟩), .pointer (some ⟨lb, 0, none⟩)] X (Gives (twoV (P.idxOf L[i].s.1) (P.idxOf L[i].s.2)) X)) := Lib.hid (fun X hX => ends2_any mb ti te lb P L i X (H.out.kept hX) HB.out hi)
  have HC2 : Hid (∀ X, Kept w X → Calls Tryz.prog 53 #[.int .i64 j, .pointer (some ⟨ti, 0, none⟩), .pointer (some ⟨lb, 0, none⟩)] X (Gives (twoV (P.idxOf L[j].s.1) (P.idxOf L[j].s.2)) X)) := Lib.hid (fun X hX => ends2_any mb ti te lb P L j X (H.out.kept hX) HB.out hj)
  generalize P.idxOf L[i].s.1 = a at *
  generalize P.idxOf L[i].s.2 = b at *
  generalize P.idxOf L[j].s.1 = c at *
  generalize P.idxOf L[j].s.2 = d at *
  clear h hb hi hj
  go_enter Tryz.func55, Tryz.ntmps55
  go_upto_region 1 with fail
  go_cut [6, 7] (fun s6 s7 wx => ∃ u v, s6 = .pointer (some ⟨u, 0, none⟩) ∧ s7 = .pointer (some ⟨v, 0, none⟩) ∧ TwoAt w a b c d u v wx)
  case first =>
    refine region_inv (fun listed A X => ∃ x6 x7 x8 x9 x10 x11 x12 x13, A = { tmps := #[.int .i64 i, .int .i64 j, .pointer (some ⟨te, 0, none⟩), undef, undef, .int .i64 0, x6, x7, x8, x9, x10, x11, x12, x13, undef, undef, undef, undef, undef, undef, undef, undef, undef, undef, undef, undef], defers := [] } ∧ Ord2 w ti lb i j a b c d listed X x6 x7 x8 x9 x10 x11 x12 x13) (by kernel_rfl) (by kernel_rfl) ?_ ?_ ?_
    · exact ⟨_, _, _, _, _, _, _, _, rfl, ⟨(Kept.refl _).drew, fun h => absurd h (dn_rep _ _), fun h => absurd h (dn_rep _ _), fun h => absurd h (dn_rep _ _), fun h => absurd h (dn_rep _ _), fun h => absurd h (dn_rep _ _), fun h => absurd h (dn_rep _ _), fun h => absurd h (dn_rep _ _), fun h => absurd h (dn_rep _ _), fun h => absurd h (dn_rep _ _), fun h => absurd h (dn_rep _ _), fun h => absurd h (dn_rep _ _)⟩⟩
    · intro listed A X k hs hI hk
      obtain ⟨hun, o, ho, hall⟩ := mem_ready.1 hk
      have hk10 : k < 10 := by
        have := (Array.getElem?_eq_some_iff.1 ho).1
        exact this
      obtain ⟨x6, x7, x8, x9, x10, x11, x12, x13, rfl, hI⟩ := hI
      have H0 := Lib.hid (hI.kept.cell e0)
      have hnot := dn_not hun
      match k, hk10 with
      | 0, _ =>
        clear hk
        simp only [List.getElem?_toArray, List.getElem?_cons_zero, Option.some.injEq] at ho
        subst ho
        simp [Region.binds] at hall
        unfold wpOp
        simp only [List.getElem?_toArray, List.getElem?_cons_zero]
        rw [if_pos (by rfl)]
        refine .inl ?_
        have c0 := H0.out
        have hl0 := lt_of_cell c0
        have HI := Lib.hid hI
        go_simp
        have hI := HI.out
        refine ⟨_, _, _, _, _, _, _, _, ⟨rfl, rfl, rfl, rfl, rfl, rfl, rfl, rfl⟩, ?_⟩
        exact ⟨hI.kept, fun _ => rfl, dn_old hI.f1 (by decide), dn_old hI.f2 (by decide), dn_old hI.f3 (by decide), dn_old hI.f4 (by decide), dn_old hI.f5 (by decide), fun hd => (hI.f6 ((dn_set hd).resolve_left (by decide))).to (Kept.refl _) (dn_old id (by decide)), fun hd => (hI.f7 ((dn_set hd).resolve_left (by decide))).to (Kept.refl _) (dn_old id (by decide)), fun h1 h2 => hI.ne ((dn_set h1).resolve_left (by decide)) ((dn_set h2).resolve_left (by decide)), fun hd => dn_mono (hI.d8 ((dn_set hd).resolve_left (by decide))), fun hd => dn_mono (hI.d9 ((dn_set hd).resolve_left (by decide)))⟩
      | 1, _ =>
        clear hk
        simp only [List.getElem?_toArray, List.getElem?_cons_zero, List.getElem?_cons_succ, Option.some.injEq] at ho
        subst ho
        simp [Region.binds] at hall
        unfold wpOp
        simp only [List.getElem?_toArray, List.getElem?_cons_zero, List.getElem?_cons_succ]
        rw [if_pos (by rfl)]
        refine .inl ?_
        go_simp
        refine ⟨_, _, _, _, _, _, _, _, ⟨rfl, rfl, rfl, rfl, rfl, rfl, rfl, rfl⟩, ?_⟩
        exact ⟨hI.kept, dn_old hI.f0 (by decide), fun _ => rfl, dn_old hI.f2 (by decide), dn_old hI.f3 (by decide), dn_old hI.f4 (by decide), dn_old hI.f5 (by decide), fun hd => (hI.f6 ((dn_set hd).resolve_left (by decide))).to (Kept.refl _) (dn_old id (by decide)), fun hd => (hI.f7 ((dn_set hd).resolve_left (by decide))).to (Kept.refl _) (dn_old id (by decide)), fun h1 h2 => hI.ne ((dn_set h1).resolve_left (by decide)) ((dn_set h2).resolve_left (by decide)), fun hd => dn_mono (hI.d8 ((dn_set hd).resolve_left (by decide))), fun hd => dn_mono (hI.d9 ((dn_set hd).resolve_left (by decide)))⟩
      | 2, _ =>
        clear hk
        simp only [List.getElem?_toArray, List.getElem?_cons_zero, List.getElem?_cons_succ, Option.some.injEq] at ho
        subst ho
        simp [Region.binds] at hall
        unfold wpOp
        simp only [List.getElem?_toArray, List.getElem?_cons_zero, List.getElem?_cons_succ]
        rw [if_pos (by rfl)]
        refine .inl ?_
        obtain rfl := hI.f0 hall.1
        obtain rfl := hI.f1 hall.2
        have HI := Lib.hid hI
        go_simp
        refine (HC1.out X HI.out.kept).mono ?_
        rintro e Y ⟨rfl, hk1⟩
        have hI := HI.out
        refine ⟨_, _, _, _, _, _, _, _, ⟨rfl, rfl, rfl, rfl, rfl, rfl, rfl, rfl⟩, ?_⟩
        exact ⟨hI.kept.trans hk1, dn_old hI.f0 (by decide), dn_old hI.f1 (by decide), fun _ => rfl, dn_old hI.f3 (by decide), dn_old hI.f4 (by decide), dn_old hI.f5 (by decide), fun hd => (hI.f6 ((dn_set hd).resolve_left (by decide))).to hk1 (dn_old id (by decide)), fun hd => (hI.f7 ((dn_set hd).resolve_left (by decide))).to hk1 (dn_old id (by decide)), fun h1 h2 => hI.ne ((dn_set h1).resolve_left (by decide)) ((dn_set h2).resolve_left (by decide)), fun hd => dn_mono (hI.d8 ((dn_set hd).resolve_left (by decide))), fun hd => dn_mono (hI.d9 ((dn_set hd).resolve_left (by decide)))⟩
      | 3, _ =>
        clear hk
        simp only [List.getElem?_toArray, List.getElem?_cons_zero, List.getElem?_cons_succ, Option.some.injEq] at ho
        subst ho
        simp [Region.binds] at hall
        unfold wpOp
        simp only [List.getElem?_toArray, List.getElem?_cons_zero, List.getElem?_cons_succ]
        rw [if_pos (by rfl)]
        refine .inl ?_
        have c0 := H0.out
        have hl0 := lt_of_cell c0
        have HI := Lib.hid hI
        go_simp
        have hI := HI.out
        refine ⟨_, _, _, _, _, _, _, _, ⟨rfl, rfl, rfl, rfl, rfl, rfl, rfl, rfl⟩, ?_⟩
        exact ⟨hI.kept, dn_old hI.f0 (by decide), dn_old hI.f1 (by decide), dn_old hI.f2 (by decide), fun _ => rfl, dn_old hI.f4 (by decide), dn_old hI.f5 (by decide), fun hd => (hI.f6 ((dn_set hd).resolve_left (by decide))).to (Kept.refl _) (dn_old id (by decide)), fun hd => (hI.f7 ((dn_set hd).resolve_left (by decide))).to (Kept.refl _) (dn_old id (by decide)), fun h1 h2 => hI.ne ((dn_set h1).resolve_left (by decide)) ((dn_set h2).resolve_left (by decide)), fun hd => dn_mono (hI.d8 ((dn_set hd).resolve_left (by decide))), fun hd => dn_mono (hI.d9 ((dn_set hd).resolve_left (by decide)))⟩
      | 4, _ =>
        clear hk
        simp only [List.getElem?_toArray, List.getElem?_cons_zero, List.getElem?_cons_succ, Option.some.injEq] at ho
        subst ho
        simp [Region.binds] at hall
        unfold wpOp
        simp only [List.getElem?_toArray, List.getElem?_cons_zero, List.getElem?_cons_succ]
        rw [if_pos (by rfl)]
        refine .inl ?_
        go_simp
        refine ⟨_, _, _, _, _, _, _, _, ⟨rfl, rfl, rfl, rfl, rfl, rfl, rfl, rfl⟩, ?_⟩
        exact ⟨hI.kept, dn_old hI.f0 (by decide), dn_old hI.f1 (by decide), dn_old hI.f2 (by decide), dn_old hI.f3 (by decide), fun _ => rfl, dn_old hI.f5 (by decide), fun hd => (hI.f6 ((dn_set hd).resolve_left (by decide))).to (Kept.refl _) (dn_old id (by decide)), fun hd => (hI.f7 ((dn_set hd).resolve_left (by decide))).to (Kept.refl _) (dn_old id (by decide)), fun h1 h2 => hI.ne ((dn_set h1).resolve_left (by decide)) ((dn_set h2).resolve_left (by decide)), fun hd => dn_mono (hI.d8 ((dn_set hd).resolve_left (by decide))), fun hd => dn_mono (hI.d9 ((dn_set hd).resolve_left (by decide)))⟩
      | 5, _ =>
        clear hk
        simp only [List.getElem?_toArray, List.getElem?_cons_zero, List.getElem?_cons_succ, Option.some.injEq] at ho
        subst ho
        simp [Region.binds] at hall
        unfold wpOp
        simp only [List.getElem?_toArray, List.getElem?_cons_zero, List.getElem?_cons_succ]
        rw [if_pos (by rfl)]
        refine .inl ?_
        obtain rfl := hI.f3 hall.1
        obtain rfl := hI.f4 hall.2.1
        have HI := Lib.hid hI
        go_simp
        refine (HC2.out X HI.out.kept).mono ?_
        rintro e Y ⟨rfl, hk1⟩
        have hI := HI.out
        refine ⟨_, _, _, _, _, _, _, _, ⟨rfl, rfl, rfl, rfl, rfl, rfl, rfl, rfl⟩, ?_⟩
        exact ⟨hI.kept.trans hk1, dn_old hI.f0 (by decide), dn_old hI.f1 (by decide), dn_old hI.f2 (by decide), dn_old hI.f3 (by decide), dn_old hI.f4 (by decide), fun _ => rfl, fun hd => (hI.f6 ((dn_set hd).resolve_left (by decide))).to hk1 (dn_old id (by decide)), fun hd => (hI.f7 ((dn_set hd).resolve_left (by decide))).to hk1 (dn_old id (by decide)), fun h1 h2 => hI.ne ((dn_set h1).resolve_left (by decide)) ((dn_set h2).resolve_left (by decide)), fun hd => dn_mono (hI.d8 ((dn_set hd).resolve_left (by decide))), fun hd => dn_mono (hI.d9 ((dn_set hd).resolve_left (by decide)))⟩
      | 6, _ =>
        clear hk
        simp only [List.getElem?_toArray, List.getElem?_cons_zero, List.getElem?_cons_succ, Option.some.injEq] at ho
        subst ho
        simp [Region.binds] at hall
        unfold wpOp
        simp only [List.getElem?_toArray, List.getElem?_cons_zero, List.getElem?_cons_succ]
        rw [if_pos (by rfl)]
        refine .inl ?_
        have HI := Lib.hid hI
        go_simp
        have hI := HI.out
        have hk1 : Kept X (X.alloc (.cells #[.int .i64 0, .int .i64 0] 81)) := (Kept.refl X).alloc _
        have n8 : ¬ dn (listed.setIfInBounds 6 true) 8 := fun hd => hnot (hI.d8 ((dn_set hd).resolve_left (by decide)))
        refine ⟨_, _, _, _, _, _, _, _, ⟨rfl, rfl, rfl, rfl, rfl, rfl, rfl, rfl⟩, ?_⟩
        exact ⟨hI.kept.trans hk1, dn_old hI.f0 (by decide), dn_old hI.f1 (by decide), dn_old hI.f2 (by decide), dn_old hI.f3 (by decide), dn_old hI.f4 (by decide), dn_old hI.f5 (by decide), fun _ => new_two w X a b _ hI.kept n8, fun hd => (hI.f7 ((dn_set hd).resolve_left (by decide))).to hk1 (dn_old id (by decide)), fun _ h2 e => (hI.f7 ((dn_set h2).resolve_left (by decide))).lt e.symm, fun hd => absurd hd n8, fun hd => dn_mono (hI.d9 ((dn_set hd).resolve_left (by decide)))⟩
      | 7, _ =>
        clear hk
        simp only [List.getElem?_toArray, List.getElem?_cons_zero, List.getElem?_cons_succ, Option.some.injEq] at ho
        subst ho
        simp [Region.binds] at hall
        unfold wpOp
        simp only [List.getElem?_toArray, List.getElem?_cons_zero, List.getElem?_cons_succ]
        rw [if_pos (by rfl)]
        refine .inl ?_
        have HI := Lib.hid hI
        go_simp
        have hI := HI.out
        have hk1 : Kept X (X.alloc (.cells #[.int .i64 0, .int .i64 0] 81)) := (Kept.refl X).alloc _
        have n9 : ¬ dn (listed.setIfInBounds 7 true) 9 := fun hd => hnot (hI.d9 ((dn_set hd).resolve_left (by decide)))
        refine ⟨_, _, _, _, _, _, _, _, ⟨rfl, rfl, rfl, rfl, rfl, rfl, rfl, rfl⟩, ?_⟩
        exact ⟨hI.kept.trans hk1, dn_old hI.f0 (by decide), dn_old hI.f1 (by decide), dn_old hI.f2 (by decide), dn_old hI.f3 (by decide), dn_old hI.f4 (by decide), dn_old hI.f5 (by decide), fun hd => (hI.f6 ((dn_set hd).resolve_left (by decide))).to hk1 (dn_old id (by decide)), fun _ => new_two w X c d _ hI.kept n9, fun h1 _ => (hI.f6 ((dn_set h1).resolve_left (by decide))).lt, fun hd => dn_mono (hI.d8 ((dn_set hd).resolve_left (by decide))), fun hd => absurd hd n9⟩
      | 8, _ =>
        clear hk
        simp only [List.getElem?_toArray, List.getElem?_cons_zero, List.getElem?_cons_succ, Option.some.injEq] at ho
        subst ho
        simp [Region.binds] at hall
        unfold wpOp
        simp only [List.getElem?_toArray, List.getElem?_cons_zero, List.getElem?_cons_succ]
        rw [if_pos (by rfl)]
        refine .inl ?_
        obtain ⟨u, p, r, rfl, hu, hfz, hc0, hc1, -⟩ := hI.f6 hall.1
        obtain rfl := hI.f2 hall.2.1
        have hl0 := lt_of_cell hc0
        have fz0 := hfz 0
        have fz1 := hfz 1
        have HI := Lib.hid hI
        have HHU := Lib.hid hu
        go_simp
        have hI := HI.out
        have hu := HHU.out
        refine ⟨_, _, _, _, _, _, _, _, ⟨rfl, rfl, rfl, rfl, rfl, rfl, rfl, rfl⟩, ?_⟩
        exact ⟨(hI.kept.setCell (p := ⟨u, 0, none⟩) hu _).setCell (p := ⟨u, 1, none⟩) hu _, dn_old hI.f0 (by decide), dn_old hI.f1 (by decide), dn_old hI.f2 (by decide), dn_old hI.f3 (by decide), dn_old hI.f4 (by decide), dn_old hI.f5 (by decide), fun _ => ⟨u, a, b, rfl, hu, fun o => by rw [World.frozen?_setCell, World.frozen?_setCell]; exact hfz o, (cell_set_or (cell_set_or hc0)).trans (by simp), (cell_set_or (cell_set_or hc1)).trans (by simp), fun _ => ⟨rfl, rfl⟩⟩, fun hd => (((hI.f7 ((dn_set hd).resolve_left (by decide))).set (fun e => hI.ne hall.1 ((dn_set hd).resolve_left (by decide)) e.symm) id).set (fun e => hI.ne hall.1 ((dn_set hd).resolve_left (by decide)) e.symm) (dn_old id (by decide))), fun h1 h2 => hI.ne ((dn_set h1).resolve_left (by decide)) ((dn_set h2).resolve_left (by decide)), fun _ => dn_mono hall.1, fun hd => dn_mono (hI.d9 ((dn_set hd).resolve_left (by decide)))⟩
      | 9, _ =>
        clear hk
        simp only [List.getElem?_toArray, List.getElem?_cons_zero, List.getElem?_cons_succ, Option.some.injEq] at ho
        subst ho
        simp [Region.binds] at hall
        unfold wpOp
        simp only [List.getElem?_toArray, List.getElem?_cons_zero, List.getElem?_cons_succ]
        rw [if_pos (by rfl)]
        refine .inl ?_
        obtain ⟨u, p, r, rfl, hu, hfz, hc0, hc1, -⟩ := hI.f7 hall.1
        obtain rfl := hI.f5 hall.2.1
        have hl0 := lt_of_cell hc0
        have fz0 := hfz 0
        have fz1 := hfz 1
        have HI := Lib.hid hI
        have HHU := Lib.hid hu
        go_simp
        have hI := HI.out
        have hu := HHU.out
        refine ⟨_, _, _, _, _, _, _, _, ⟨rfl, rfl, rfl, rfl, rfl, rfl, rfl, rfl⟩, ?_⟩
        exact ⟨(hI.kept.setCell (p := ⟨u, 0, none⟩) hu _).setCell (p := ⟨u, 1, none⟩) hu _, dn_old hI.f0 (by decide), dn_old hI.f1 (by decide), dn_old hI.f2 (by decide), dn_old hI.f3 (by decide), dn_old hI.f4 (by decide), dn_old hI.f5 (by decide), fun hd => (((hI.f6 ((dn_set hd).resolve_left (by decide))).set (fun e => hI.ne ((dn_set hd).resolve_left (by decide)) hall.1 e) id).set (fun e => hI.ne ((dn_set hd).resolve_left (by decide)) hall.1 e) (dn_old id (by decide))), fun _ => ⟨u, c, d, rfl, hu, fun o => by rw [World.frozen?_setCell, World.frozen?_setCell]; exact hfz o, (cell_set_or (cell_set_or hc0)).trans (by simp), (cell_set_or (cell_set_or hc1)).trans (by simp), fun _ => ⟨rfl, rfl⟩⟩, fun h1 h2 => hI.ne ((dn_set h1).resolve_left (by decide)) ((dn_set h2).resolve_left (by decide)), fun hd => dn_mono (hI.d8 ((dn_set hd).resolve_left (by decide))), fun _ => dn_mono hall.1⟩
    · intro listed A X hs hd hI
      obtain ⟨x6, x7, x8, x9, x10, x11, x12, x13, rfl, hI⟩ := hI
      have hdn : ∀ k, k < 10 → dn listed k := fun k hk => by
        have := hd k hk
        rw [Array.getD_eq_getD_getElem?] at this
        unfold dn
        cases e : listed[k]? with
        | none =>
          rw [Array.getElem?_eq_none_iff] at e
          have e2 : listed.size = 10 := hs
          omega
        | some x => rw [e] at this; exact this
      obtain ⟨u, p, r, rfl, -, -, hc0, hc1, hq⟩ := hI.f6 (hdn 6 (by decide))
      obtain ⟨rfl, rfl⟩ := hq (hdn 8 (by decide))
      obtain ⟨v, p, r, rfl, -, -, hd0, hd1, hq⟩ := hI.f7 (hdn 7 (by decide))
      obtain ⟨rfl, rfl⟩ := hq (hdn 9 (by decide))
      have HTW : Hid (TwoAt w a b c d u v X) := Lib.hid ⟨hI.kept, hc0, hc1, hd0, hd1⟩
      clear hc0 hc1 hd0 hd1 hq hI hdn hd
      go_wp2
      go_meet
      exact ⟨_, _, rfl, rfl, HTW.out⟩
  case rest =>
    obtain ⟨u, v, rfl, rfl, htw⟩ := hcut
    have HTW := Lib.hid htw
    clear htw e0 hl0
    go_wp2
    refine region_class (fun Z => Kept wc Z) 10 (by kernel_rfl) (by kernel_rfl) (Kept.refl _).drew ?_
    simp only [List.take_succ_cons, List.take_zero, List.drop_succ_cons, List.drop_zero]
    refine wpQuiet_yield (.pointer (some ⟨u, 0, none⟩)) (by rfl) (fun Z hZ => ?_) ?_
    · go_simp
    simp only [Act.put, List.setIfInBounds_toArray, List.set_cons_zero, List.set_cons_succ]
    refine wpQuiet_yield (.int .i64 a) (by rfl) (fun Z hZ => ?_) ?_
    · have r := hZ.cell HTW.out.x0
      have rb := lt_of_cell r
      go_simp
    simp only [Act.put, List.setIfInBounds_toArray, List.set_cons_zero, List.set_cons_succ]
    refine wpQuiet_yield (.pointer (some ⟨v, 0, none⟩)) (by rfl) (fun Z hZ => ?_) ?_
    · go_simp
    simp only [Act.put, List.setIfInBounds_toArray, List.set_cons_zero, List.set_cons_succ]
    refine wpQuiet_yield (.int .i64 c) (by rfl) (fun Z hZ => ?_) ?_
    · have r := hZ.cell HTW.out.y0
      have rb := lt_of_cell r
      go_simp
    simp only [Act.put, List.setIfInBounds_toArray, List.set_cons_zero, List.set_cons_succ]
    refine wpQuiet_yield (.int .i64 (cmpI a c)) (by rfl) (fun Z hZ => ?_) ?_
    · go_simp
      exact (compare_any a c Z).mono fun e Z' h => ⟨h.1, h.2 ▸ hZ⟩
    simp only [Act.put, List.setIfInBounds_toArray, List.set_cons_zero, List.set_cons_succ]
    refine wpQuiet_yield (.pointer (some ⟨u, 1, none⟩)) (by rfl) (fun Z hZ => ?_) ?_
    · go_simp
    simp only [Act.put, List.setIfInBounds_toArray, List.set_cons_zero, List.set_cons_succ]
    refine wpQuiet_yield (.int .i64 b) (by rfl) (fun Z hZ => ?_) ?_
    · have r := hZ.cell HTW.out.x1
      have rb := lt_of_cell r
      go_simp
    simp only [Act.put, List.setIfInBounds_toArray, List.set_cons_zero, List.set_cons_succ]
    refine wpQuiet_yield (.pointer (some ⟨v, 1, none⟩)) (by rfl) (fun Z hZ => ?_) ?_
    · go_simp
    simp only [Act.put, List.setIfInBounds_toArray, List.set_cons_zero, List.set_cons_succ]
    refine wpQuiet_yield (.int .i64 d) (by rfl) (fun Z hZ => ?_) ?_
    · have r := hZ.cell HTW.out.y1
      have rb := lt_of_cell r
      go_simp
    simp only [Act.put, List.setIfInBounds_toArray, List.set_cons_zero, List.set_cons_succ]
    refine wpQuiet_yield (.int .i64 (cmpI b d)) (by rfl) (fun Z hZ => ?_) ?_
    · go_simp
      exact (compare_any b d Z).mono fun e Z' h => ⟨h.1, h.2 ▸ hZ⟩
    simp only [Act.put, List.setIfInBounds_toArray, List.set_cons_zero, List.set_cons_succ]
    refine wpQuiet_nil ?_
    intro X2 hk2
    have HIT := Lib.hid (ints_two X2 (cmpI a c) (cmpI b d))
    obtain ⟨X3, hX3⟩ : ∃ X3, X2.alloc (.cells #[.int .i64 (cmpI a c), .int .i64 (cmpI b d)] 3) = X3 := ⟨_, rfl⟩
    have HX3 : Hid (Kept w X3) := Lib.hid (by rw [← hX3]; exact (HTW.out.kept.trans hk2).alloc _)
    obtain ⟨xb, hxb⟩ : ∃ xb, X2.heap.size = xb := ⟨_, rfl⟩
    have HIT := Lib.hid (show Ints X3 (some ⟨xb, 0, none⟩) [cmpI a c, cmpI b d] by rw [← hX3, ← hxb]; exact HIT.out)
    clear hk2
    go_wp2_with fail
    refine (or_any [cmpI a c, cmpI b d] _ 2 _ (by simp) HIT.out).mono ?_
    rintro e w5 ⟨rfl, rfl⟩
    go_wp2
    go_ret
    exact ⟨rfl, HX3.out⟩
end Go.Proofs.YtlglfcdobbocnaaGreat
