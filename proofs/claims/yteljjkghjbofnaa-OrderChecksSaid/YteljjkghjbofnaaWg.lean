/- Ranges over the iterator 'ready': a region that draws its order in a round; the statement; a function that holds such a statement. -/
import Derived.Test.YteljjkghjbofnaaWf
set_option maxRecDepth 100000
namespace Go.Proofs.Yteljjkghjbofnaa
open Go Go.Proofs Go.RowKit

/-! ### A region that draws its order, in a round -/

def onlyN (Q : Exit → Act → World → Prop) : Exit → Act → World → Prop
  | .normal, a, w => Q .normal a w
  | _, _, _ => False

theorem not_letsOut_onlyN {Q : Exit → Act → World → Prop} : ¬ LetsOut (onlyN Q) := fun ⟨_, _, h⟩ => h

section
variable {P : Program} {l n : Nat} {Q : Exit → Act → World → Prop}

theorem oper_in_round {o : Oper} {a : Act} {w : World} {K : Act → World → Prop} (hd : ∀ c, o.op ≠ .defer c) (h : o.wp P a w K (onlyN Q)) : o.wpIn (Fence.wide.inRound l) n P a w K Q := by
  refine ⟨fun _ _ => trivial, ?_⟩
  unfold Oper.wp at h
  rw [Oper.semAt_eq _ _ _ hd]
  generalize (execOp a.eval o).run P w = r at h ⊢
  cases r with
  | halt x w' => cases x <;> exact h.elim
  | ok x w' =>
    cases x <;> try exact h
    case enter f args =>
      refine ⟨fun h => by simp [Fence.inRound, Fence.wide] at h, CallsIn.inRound l (callsIn_wide.2 (Calls.mono h ?_))⟩
      intro e w'' he
      cases e with
      | returned v => exact he
      | panicked c => exact he.elim
      | outgrown => exact (not_letsOut_onlyN he).elim
    case row r args =>
      exact ⟨fun h => by simp [Fence.inRound, Fence.wide] at h, fun c cs _ => let ⟨v, w', r, s⟩ := h c cs; ⟨v, w', r, stepsIn_wide.2 s⟩⟩
    all_goals exact h.elim

theorem wpAnyIn_of_wpAny {md : Region.Mode} {ops : Array Oper} (hd : ∀ (i : Nat) (o : Oper), ops[i]? = some o → ∀ c, o.op ≠ .defer c) :
    ∀ (fuel : Nat) (listed : Array Bool) (a : Act) (w : World), wpAny P md ops (onlyN Q) fuel listed a w → wpAnyIn (Fence.wide.inRound l) n P md ops Q fuel listed a w
  | 0, _, _, _, h => h
  | fuel + 1, listed, a, w, h => by
    refine ⟨h.1, fun i hi => ?_⟩
    have h1 := h.2 i hi
    unfold wpOp at h1
    unfold wpOpIn
    cases ho : ops[i]? with
    | none => rw [ho] at h1; exact wpAnyIn_of_wpAny hd fuel _ _ _ h1
    | some o =>
      rw [ho] at h1
      simp only at h1 ⊢
      split
      · rename_i hw
        rw [if_pos hw] at h1
        rcases h1 with h1 | h1
        · exact oper_in_round (hd i o ho) (Oper.wp_mono (fun a w => wpAnyIn_of_wpAny hd fuel _ a w) h1)
        · exact (not_letsOut_onlyN h1.2).elim
      · rename_i hw
        rw [if_neg hw] at h1
        exact ⟨fun _ _ => trivial, wpAnyIn_of_wpAny hd fuel _ _ _ h1⟩

/-- 'region_tail' in a round. -/
theorem regionIn_tail {id : Nat} {a : Act} {w : World} {ops : List Oper} (m : Nat) (hm : P.follows .mixedOrders = true) (hB : Region.lexTailB .any ops.toArray m = true) (hd : ops.all (fun o : Oper => match o.op with | .defer _ => false | _ => true) = true)
    (h : wpStill P ops.toArray w.drew (fun a' => wpList P ops.toArray (onlyN Q) (ops.drop m) a' w.drew) (ops.take m) a) : (Code.region id ops.toArray true).wpIn (Fence.wide.inRound l) n P Q a w := by
  simp only [Region.lexTailB, Bool.and_eq_true, decide_eq_true_eq] at hB
  obtain ⟨⟨⟨⟨hsel, hn⟩, hs⟩, hc⟩, hlex⟩ := hB
  have hn' : m < ops.length := by simpa using hn
  have htl : (ops.take m).length = m := by simp; omega
  have hdl : (ops.drop m).length = ops.toArray.size - m := by simp
  have inv0 : HeadInv .any ops.toArray m (Array.replicate ops.toArray.size false) :=
    ⟨by simp, fun j oj _ hl => (by rw [getD_replicate_false] at hl; cases hl), fun t _ ht => getD_in (by simpa using ht) (getD_replicate_false _ _)⟩
  have H := wpAnyL_lex (md := .any) (g := ops.toArray.size - m) hsel hs hc hn (ops.take m) 0 _ a (fun j hj => by
    have hj' : j < m := by rw [htl] at hj; exact hj
    simp [hj']) (by simpa using htl) inv0 (by rw [htl]; exact hlex) h
  refine wpIn_region_any hm (wpAnyIn_of_wpAny (fun i o ho c e => ?_) _ _ _ _ ?_)
  · have := List.all_eq_true.1 hd o (by have := List.mem_of_getElem? (by simpa using ho : ops[i]? = some o); exact this)
    rw [e] at this
    cases this
  · have := wpAny_of_head (Q' := onlyN Q) (g := ops.toArray.size - m) (fun listed a' hL => by
      have := wpAny_of_seq (md := .any) (Q' := onlyN Q) (ops.drop m) m listed a' w.drew (fun j => by simp [List.getElem?_drop]) (by rw [hdl]; exact hL.1) hL.2
      rwa [hdl] at this) _ _ _ H
    rw [htl, show m + (ops.toArray.size - m) = ops.toArray.size by omega] at this
    exact this
end

/-! ### A function that holds a range over a function -/

theorem calls_of_wp_marks {P : Program} {f : FuncId} {fn : Func} {c : Code} {args : Array Value} {w : World} {R : Ending → World → Prop} (hf : P.funcs[f]? = some fn) (hb : fn.body = some c)
    (h : c.wp P (bodyPostM Fence.wide 10 P fn R) { tmps := args ++ Array.replicate (fn.ntmps - args.size) undef, defers := [] } w) : Calls P f args w R :=
  callsIn_wide.1 (callsIn_of_wp_marks (n := 10) hf hb trivial (wpIn_wide.2 h) rfl)

def marks (Ds : List Nat) : List Deferred := Ds.map fun D => { target := .collected D, args := #[] }

/-- The blocks for the rounds' deferred calls have been shut; all else that lay is as it was. -/
structure Shuts (B : Nat) (w w' : World) : Prop where
  os : w'.os = w.os
  tape : w'.tape = w.tape
  output : w'.output = w.output
  size : w'.heap.size = w.heap.size
  low : ∀ k : Nat, k < B → w'.heap[k]? = w.heap[k]?
  cells : ∀ (k : Nat) (c : Array Value) (t : TypeId) (f : Nat × Nat), w.heap[k]? = some (Obj.cells c t f) → w'.heap[k]? = some (Obj.cells c t f)
  maps : ∀ (k : Nat) (e : Array MapEntry) (c : Nat), w.heap[k]? = some (Obj.map e c) → w'.heap[k]? = some (Obj.map e c)

theorem Shuts.refl (B : Nat) (w : World) : Shuts B w w := ⟨rfl, rfl, rfl, rfl, fun _ _ => rfl, fun _ _ _ _ h => h, fun _ _ _ h => h⟩
theorem Shuts.trans {B : Nat} {a b c : World} (h : Shuts B a b) (k : Shuts B b c) : Shuts B a c :=
  ⟨k.os.trans h.os, k.tape.trans h.tape, k.output.trans h.output, k.size.trans h.size, fun i hi => (k.low i hi).trans (h.low i hi), fun i x t f hx => k.cells i x t f (h.cells i x t f hx), fun i e c hx => k.maps i e c (h.maps i e c hx)⟩
theorem Shuts.kept {B : Nat} {w0 w w' : World} (h : Shuts B w w') (hk : Kept w0 w) (hB : w0.heap.size ≤ B) : Kept w0 w' :=
  ⟨h.os.trans hk.below.os, h.tape.trans hk.below.tape, h.output.trans hk.below.output, by rw [h.size]; exact hk.size, fun k hk' => (h.low k (by omega)).trans (hk.below.block k hk')⟩
theorem Shuts.cell {B : Nat} {w w' : World} (h : Shuts B w w') {a : Addr} {v : Value} (hc : w.cell? a = some v) : w'.cell? a = some v := by
  obtain ⟨o, ho, hcells⟩ := cells_of_cell hc
  cases o <;> try (simp [Obj.isCells] at hcells)
  exact (World.cell?_of_block ((h.cells _ _ _ _ ho).trans ho.symm)).trans hc
theorem Shuts.frozen {B : Nat} {w w' : World} (h : Shuts B w w') {a : Addr} {v : Value} (hc : w.cell? a = some v) {o : Nat} : w'.frozen? ⟨a.block, o, none⟩ = w.frozen? ⟨a.block, o, none⟩ := by
  obtain ⟨ob, ho, hcells⟩ := cells_of_cell hc
  cases ob <;> try (simp [Obj.isCells] at hcells)
  exact World.frozen?_of_block ((h.cells _ _ _ _ ho).trans ho.symm)

theorem leaves_marks {P : Program} {fn : Func} {tmps : Array Value} {R : Ending → World → Prop} {B : Nat} : ∀ (Ds : List Nat) (w : World), (∀ D ∈ Ds, B ≤ D ∧ w.heap[D]? = some (.deferred (some []))) → Ds.Nodup →
    (∀ w', Shuts B w w' → ∃ v, (results fn tmps).run P w' = .ok v w' ∧ R (.returned v) w') → LeavesInM Fence.wide 10 P fn tmps R (marks Ds) .returning w
  | [], w, _, _, h => h w (Shuts.refl B w)
  | D :: Ds, w, hD, hnd, h => by
    obtain ⟨hB, hD0⟩ := hD D (by simp)
    have hlt := (Array.getElem?_eq_some_iff.1 hD0).1
    refine ⟨by simp, .inl ⟨D, w.putObj D (.deferred none), rfl, run_takeDeferred hD0, ?_⟩⟩
    refine leaves_marks (B := B) Ds _ (fun D' h' => ?_) (List.nodup_cons.1 hnd).2 (fun w' hs => h w' ?_)
    · have hne : D' ≠ D := fun e => (List.nodup_cons.1 hnd).1 (e ▸ h')
      exact ⟨(hD D' (by simp [h'])).1, (World.putObj_heap_other hne).trans (hD D' (by simp [h'])).2⟩
    · have h1 : Shuts B w (w.putObj D (.deferred none)) := ⟨rfl, rfl, rfl, by simp, fun k hk => World.putObj_heap_other (by omega), fun k c t f hk => ?_, fun k e c hk => ?_⟩
      · exact h1.trans hs
      · refine (World.putObj_heap_other ?_).trans hk
        rintro rfl
        rw [hD0] at hk; cases hk
      · refine (World.putObj_heap_other ?_).trans hk
        rintro rfl
        rw [hD0] at hk; cases hk

/-! ### The statement 'for p := range w.ready(done)' -/

theorem Kept.keeps {X Y : World} (h : Kept X Y) : KeepsOthers X Y := ⟨h.size, fun k _ hk _ => (h.below.block k (Array.getElem?_eq_some_iff.1 hk).1).trans hk⟩

theorem Stat.grown {c1 c2 b : Nat} {W : Web} {d : S} {X Y : World} {row : Option Nat} (h : Stat c1 c2 b W d X) (hg : X.grownBy Y row) (hr : ∀ r, row = some r → ∃ o : Obj, X.heap[r]? = some o ∧ o.isCells = false) : Stat c1 c2 b W d Y :=
  ⟨cell_kept h.c1 hg hr, cell_kept h.c2 hg hr, cell_kept h.web.n hg hr, fun a ha => cell_kept (h.web.to a ha) hg hr, fun a ha => cell_kept (h.web.reach a ha) hg hr, fun a ha => cell_kept (h.web.near a ha) hg hr,
   fun o => by
    obtain ⟨ob, ho, hc⟩ := cells_of_cell h.web.n
    exact (World.frozen?_of_block (w := X) (w' := Y) (a := ⟨b, o, none⟩) (grownBy_keeps_cells hg hr ho hc)).trans (h.web.free o)⟩
theorem Kept.grown {w X Y : World} {row : Option Nat} (h : Kept w X) (hg : X.grownBy Y row) (hr : ∀ r, row = some r → w.heap.size ≤ r) : Kept w Y := Below.grown h hg h.size hr

theorem ready_stops (n c1 c2 b : Nat) (W : Web) (d : S) (hn : W.n ≤ 24) (h1 : 1 ≤ n) (w0 : World) (hS : Stat c1 c2 b W d w0) :
    SeqStopsK Fence.wide n Try.prog 146 #[.pointer (some ⟨c1, 0, none⟩), .pointer (some ⟨c2, 0, none⟩)] (fun x : Rdy W d => #[.int .i64 x.val]) (fun X Y => Stat c1 c2 b W d X → Stat c1 c2 b W d Y)
      (fun ys => ys.map Subtype.val = readyL W d) (fun pre => pre.map Subtype.val <+: readyL W d) (readyL W d).length w0 :=
  fun l J Jx X hX _ _ hY h0 => ready1_in n l c1 c2 b W d hn h1 J Jx hY X (hS.kept hX) h0

/-- How the body of a round may be left. -/
def roundEnd {α : Type} (B : Nat) (St : World → Prop) (I : List α → World → Prop) (Ix : Code → List α → World → Prop) (xs : List α) (X : World) : Exit → Act → World → Prop
  | .normal, _, Y => KeepsFrom B X Y ∧ St Y ∧ I xs Y
  | .ret, _, Y => KeepsFrom B X Y ∧ Ix .ret xs Y
  | .exit id, _, Y => KeepsFrom B X Y ∧ Ix (.exit id) xs Y
  | .goto t, _, Y => KeepsFrom B X Y ∧ Ix (.goto t) xs Y
  | .panic _, _, _ => False
  | .outgrown, _, _ => False

theorem range_ready {g : Operand} {ps : Array Tmp} {assign body : Code} {Q : Exit → Act → World → Prop} {a : Act} {w : World} {c1 c2 b : Nat} {W : Web} {d : S}
    (hg : a.eval g = .func (.func 146) #[] #[.pointer (some ⟨c1, 0, none⟩), .pointer (some ⟨c2, 0, none⟩)]) (hS : Stat c1 c2 b W d w) (hn : W.n ≤ 24) (hps : ps.size = 1)
    (I : List (Rdy W d) → World → Prop) (Ix : Code → List (Rdy W d) → World → Prop) (hI : OwnFrom w.heap.size I) (hIx : ∀ c, OwnFrom w.heap.size (Ix c)) (h0 : I [] w) (a₁ : Rdy W d → Act)
    (hassign : ∀ (l : Nat) (x : Rdy W d) (X : World) (K : Act → World → Prop), K (a₁ x) X →
      assign.wpIn (Fence.wide.inRound l) 8 Try.prog (Exit.then K (fun _ _ _ => False)) { tmps := (ps.zip #[.int .i64 x.val]).foldl (fun t (p, v) => t.setIfInBounds p v) a.tmps, defers := [] } X)
    (hbody : ∀ (l : Nat) (pre : List (Rdy W d)) (x : Rdy W d) (X : World), I pre X → Stat c1 c2 b W d X →
      body.wpIn (Fence.wide.inRound l) 8 Try.prog (roundEnd w.heap.size (Stat c1 c2 b W d) I Ix (pre ++ [x]) X) (a₁ x) X)
    (hdone : ∀ (D : Nat) (xs : List (Rdy W d)) (X : World), w.heap.size ≤ D → xs.map Subtype.val = readyL W d → I xs X → X.heap[D]? = some (.deferred (some [])) → Q .normal { a with defers := { target := .collected D, args := #[] } :: a.defers } X)
    (hstop : ∀ (D : Nat) (c : Code) (pre : List (Rdy W d)) (X : World), w.heap.size ≤ D → pre.map Subtype.val <+: readyL W d → Ix c pre X → X.heap[D]? = some (.deferred (some [])) → c.wp Try.prog Q { a with defers := { target := .collected D, args := #[] } :: a.defers } X) :
    (Code.rangeFunc g ps assign body).wp Try.prog Q a w := by
  refine (wpIn_wide (n := 10)).1 ?_
  refine wpIn_rangeFunc_ownG (α := Rdy W d) (F := Fence.wide) (n := 10) (P := Try.prog) (w0 := w) rfl (by decide) hg trivial Try.call146 (ready_stops 9 c1 c2 b W d hn (by decide) w hS) (fun {_ _ _} h k hs => k (h hs)) ?_ (Below.refl _ _) (fun x => by simpa using hps.symm)
    (fun xs X => I xs X ∧ Stat c1 c2 b W d X) Ix ?_ hIx ⟨h0, hS⟩ a₁ hassign ?_ ?_ ?_
  · intro X l o o' hl ho hc _ hs
    exact hs.grown (grownBy_putObj' X l o') (fun r e => by cases e; exact ⟨o, ho, hc⟩)
  · intro s X Y row hs hg' hr
    exact ⟨hI s X Y row hs.1 hg' hr, hs.2.grown hg' (fun r e => (hr r e).2)⟩
  · rintro l pre x X ⟨hi, hst⟩ _
    refine Code.wpIn_mono (fun e a' Y h => ?_) (hbody l pre x X hi hst)
    cases e with
    | normal => exact ⟨h.1, fun _ => h.2.1, h.2.2, h.2.1⟩
    | ret => exact h
    | exit id => exact h
    | goto t => exact h
    | panic c => exact h.elim
    | outgrown => exact h.elim
  · intro D xs X hD hS hi hd
    exact hdone D xs X hD hS hi.1 hd
  · intro D c pre X hD hS hi hd
    exact wpIn_wide.2 (hstop D c pre X hD hS hi hd)

def ReadyPost (b : Nat) (W : Web) (d : S) (w : World) (e : Ending) (w' : World) : Prop :=
  ∃ c1 c2, e = .returned (.func (.func 146) #[] #[.pointer (some ⟨c1, 0, none⟩), .pointer (some ⟨c2, 0, none⟩)]) ∧ w.heap.size ≤ c1 ∧ w.heap.size ≤ c2 ∧ Stat c1 c2 b W d w' ∧ Kept w w'

set_option maxHeartbeats 400000 in
theorem ready_any (b : Nat) (W : Web) (d : S) (w : World) (hw : WebAt w b W) :
    Calls Try.prog 115 #[.pointer (some ⟨b, 0, none⟩), .int .u32 (sI d)] w (ReadyPost b W d w) := by
  have HW := Lib.hid hw
  clear hw
  go_enter Try.func115, Try.ntmps115
  go_wp2
  go_ret
  refine ⟨w.heap.size, w.heap.size + 1, rfl, Nat.le_refl _, by omega, ⟨by simp [go_sem], by simp [go_sem], ?_⟩, ((Kept.refl w).alloc _).alloc _⟩
  exact HW.out.kept (((Kept.refl w).alloc _).alloc _)

end Go.Proofs.Yteljjkghjbofnaa
