/- The iterator 'ready': which patches may come next; its contract for whatever loop ranges over it. -/
import Derived.Test.YteljjkghjbofnaaMa
import Derived.RangeFuncNested
import Derived.RangeFuncBound
import Derived.RangeFuncCalls
import Derived.RangeFuncLeaves
import Derived.Shelf.Abstract
import Derived.Shelf.RegionOpen
import Derived.OwnWalkIn
import Derived.TacticsInMore
import Derived.LoopNIn
import Derived.LoopIn
/-! The iterator 'ready': which patches may come next; its contract for whatever loop ranges over it. -/
set_option maxRecDepth 100000
namespace Go.Proofs.Yteljjkghjbofnaa
open Go Go.Proofs Go.RowKit
attribute [local go_sem] Oper.semAt_some

def readyB (W : Web) (d : S) (p : Nat) : Bool := !hasS d p && (List.range W.n).all fun a => !hasS (W.to a) p || hasS d a
/-- The patches that may come next when d are done. -/
def readyL (W : Web) (d : S) : List Nat := (List.range W.n).filter (readyB W d)

abbrev Rdy (W : Web) (d : S) := { p : Nat // p ∈ readyL W d }

/-- What the iterator reads. -/
structure Stat (c1 c2 b : Nat) (W : Web) (d : S) (X : World) : Prop where
  c1 : X.cell? ⟨c1, 0, none⟩ = some (.pointer (some ⟨b, 0, none⟩))
  c2 : X.cell? ⟨c2, 0, none⟩ = some (.int .u32 (sI d))
  web : WebAt X b W

theorem Stat.kept {c1 c2 b : Nat} {W : Web} {d : S} {X Y : World} (h : Stat c1 c2 b W d X) (hk : Kept X Y) : Stat c1 c2 b W d Y :=
  ⟨hk.cell h.c1, hk.cell h.c2, h.web.kept hk⟩

theorem readyL_part (W : Web) (d : S) (k : Nat) (hk : k ≤ W.n) : (List.range k).filter (readyB W d) <+: readyL W d := by
  unfold readyL
  have e : List.range W.n = List.range k ++ (List.range (W.n - k)).map (k + ·) := by rw [← List.range_add]; congr 1; omega
  rw [e, List.filter_append]
  exact List.prefix_append _ _
theorem filter_range_succ (p : Nat → Bool) (k : Nat) : (List.range (k + 1)).filter p = (List.range k).filter p ++ (if p k then [k] else []) := by
  rw [List.range_succ, List.filter_append]
  by_cases h : p k <;> simp [h]
theorem mem_readyL {W : Web} {d : S} {k : Nat} : k ∈ readyL W d ↔ k < W.n ∧ readyB W d k = true := by simp [readyL]

theorem all_range_succ (p : Nat → Bool) (k : Nat) : (List.range (k + 1)).all p = ((List.range k).all p && p k) := by simp [List.range_succ, List.all_append]

set_option maxHeartbeats 2000000 in
theorem ready1_in (n l c1 c2 b : Nat) (W : Web) (d : S) (hn : W.n ≤ 24) (h1 : 1 ≤ n) (J Jx : List (Rdy W d) → World → Prop)
    (hY : ∀ pre x X, J pre X → pre.length < (readyL W d).length → YieldAt Fence.wide (n - 1) Try.prog l #[.int .i64 x.val] X fun e Y =>
      (e = .returned (.bool true) ∧ J (pre ++ [x]) Y ∧ (Stat c1 c2 b W d X → Stat c1 c2 b W d Y)) ∨ (e = .returned (.bool false) ∧ Jx (pre ++ [x]) Y))
    (X : World) (hS : Stat c1 c2 b W d X) (h0 : J [] X) :
    CallsIn Fence.wide n Try.prog 146 #[.func (.yield l) #[] #[], .pointer (some ⟨c1, 0, none⟩), .pointer (some ⟨c2, 0, none⟩)] X fun e Y => (∃ v, e = .returned v) ∧
      ((∃ ys, ys.map Subtype.val = readyL W d ∧ J ys Y) ∨ (∃ pre, pre.map Subtype.val <+: readyL W d ∧ Jx pre Y)) := by
  have HS := Lib.hid hS
  have HY := Lib.hid hY
  obtain ⟨q1, q2, q3⟩ := hS
  have q4 := q3.n
  clear hY q3
  refine callsIn_of_wp Try.func146 rfl trivial ?_ rfl
  simp only [Try.ntmps146, List.size_toArray, List.length_cons, List.length_nil, Nat.reduceAdd, Nat.reduceSub, Array.replicate_succ, Array.replicate_zero, List.push_toArray, List.append_toArray, List.nil_append, List.cons_append]
  have hwf : ∀ f : FuncId, Fence.wide.fn f := fun _ => trivial
  gi_wp2
  gi_loopw [11] (fun i wr => ∃ k : Nat, k ≤ W.n ∧ i = .int .i64 k ∧ Stat c1 c2 b W d wr ∧ ∃ pre : List (Rdy W d), pre.map Subtype.val = (List.range k).filter (readyB W d) ∧ J pre wr) (fun i _ => W.n - (intOf i).toNat)
  case atStart => exact ⟨0, Nat.zero_le _, rfl, HS.out, [], rfl, h0⟩
  case round =>
    clear h0 q1 q2 q4 HS
    obtain ⟨k, hk, rfl, hst, pre, hpre, hJ⟩ := hrel
    have HS := Lib.hid hst
    have HJ := Lib.hid hJ
    have HPRE := Lib.hid hpre
    obtain ⟨q1, q2, q3⟩ := hst
    have q4 := q3.n
    clear q3 hJ hpre
    by_cases hlt : k < W.n
    · have hk32 : k < 32 := by omega
      gi_wp2_with fail
      refine (callsIn_wide.2 (has_any d k _ hk32)).mono ?_
      rintro e w2 ⟨rfl, rfl⟩
      cases hh : hasS d k
      all_goals
        have HH := Lib.hid hh
        clear hh
      · gi_wp2_with fail
        gi_loop [5, 21] (fun f i => ∃ a : Nat, a ≤ W.n ∧ i = .int .i64 a ∧ f = .bool ((List.range a).all fun a => !hasS (W.to a) k || hasS d a)) (fun _ i => W.n - (intOf i).toNat)
        case atStart => exact ⟨0, Nat.zero_le _, rfl, rfl⟩
        case round =>
          obtain ⟨a, ha, rfl, rfl⟩ := hrel
          cases hall : (List.range a).all fun a => !hasS (W.to a) k || hasS d a
          all_goals
            have HALL := Lib.hid hall
            clear hall
          all_goals by_cases hlta : a < W.n
          · gi_wp2
            all_goals first
              | (exfalso; rename_i h1 _; clear HY HS HJ; simp [undef] at h1; done)
              | (exfalso; rename_i h1 _ _; clear HY HS HJ; simp [undef] at h1; done)
              | (refine ⟨⟨a + 1, by omega, by go_num, by rw [all_range_succ, HALL.out]; rfl⟩, ?_⟩; simp [intOf]; omega)
          · have ea : a = W.n := by omega
            rw [ea] at HALL
            clear ea
            gi_wp2
            go_roundw
            case rel =>
              refine ⟨k + 1, by omega, by go_num, HS.out, pre, ?_, HJ.out⟩
              rw [filter_range_succ, HPRE.out, if_neg (by unfold readyB; rw [HALL.out]; simp), List.append_nil]
            case measure => simp [intOf]; omega
          · have ha24 : (a : Int) < 24 := by omega
            have ha32 : a < 32 := by omega
            have hto := HS.out.web.to a (by omega)
            gi_wp2_with fail
            refine (callsIn_wide.2 (has_any (W.to a) k _ hk32)).mono ?_
            rintro e w2 ⟨rfl, rfl⟩
            cases ht : hasS (W.to a) k
            all_goals
              have HT := Lib.hid ht
              clear ht
            · gi_wp2
              go_round
              case rel => exact ⟨a + 1, by omega, by go_num, by rw [all_range_succ, HALL.out, HT.out]; rfl⟩
              case measure => simp [intOf]; omega
            · gi_wp2_with fail
              refine (callsIn_wide.2 (has_any d a _ ha32)).mono ?_
              rintro e w2 ⟨rfl, rfl⟩
              gi_wp2
              go_round
              case rel => exact ⟨a + 1, by omega, by go_num, by rw [all_range_succ, HALL.out, HT.out]; rfl⟩
              case measure => simp [intOf]; omega
          · have ea : a = W.n := by omega
            rw [ea] at HALL
            clear ea
            have hrk : readyB W d k = true := by unfold readyB; rw [HALL.out, HH.out]; rfl
            have hlen : pre.length < (readyL W d).length := by
              have h1 := (readyL_part W d (k + 1) (by omega)).length_le
              have h2 := congrArg List.length HPRE.out
              rw [filter_range_succ, if_pos hrk] at h1
              simp at h1 h2
              omega
            obtain ⟨x, hx⟩ : ∃ x : Rdy W d, x.val = k := ⟨⟨k, mem_readyL.2 ⟨hlt, hrk⟩⟩, rfl⟩
            obtain ⟨fn, tmps, assign, body, hy, hR⟩ := HY.out pre x wr HJ.out hlen
            rw [hx] at hy
            have HX := Lib.hid hx
            have HRK := Lib.hid hrk
            have HR := Lib.hid hR
            clear hrk hR hx hlen
            gi_wp2
            refine HR.out.mono ?_
            have HPX : Hid ((pre ++ [x]).map Subtype.val = (List.range (k + 1)).filter (readyB W d)) := by
              show _ = _
              rw [filter_range_succ, if_pos HRK.out, List.map_append, HPRE.out]; simp [HX.out]
            rintro e Y (⟨rfl, hJ', hst'⟩ | ⟨rfl, hJx'⟩)
            · have HS' := Lib.hid (hst' HS.out)
              have HJ' := Lib.hid hJ'
              clear hst' hJ' hy HY q1 q2 q4
              gi_wp2
              go_roundw
              case rel => exact ⟨k + 1, by omega, by go_num, HS'.out, pre ++ [x], HPX.out, HJ'.out⟩
              case measure => simp [intOf]; omega
            · have HJ' := Lib.hid hJx'
              clear hJx' hy HY q1 q2 q4
              gi_wp2
              refine bodyPost_ret (results_none rfl _ _ _) rfl ?_
              exact ⟨⟨_, rfl⟩, .inr ⟨pre ++ [x], HPX.out ▸ readyL_part W d (k + 1) (by omega), HJ'.out⟩⟩
      · gi_wp2
        go_roundw
        case rel =>
          refine ⟨k + 1, by omega, by go_num, HS.out, pre, ?_, HJ.out⟩
          rw [filter_range_succ, HPRE.out, if_neg (by unfold readyB; rw [HH.out]; simp), List.append_nil]
        case measure => simp [intOf]; omega
    · have ek : k = W.n := by omega
      rw [ek] at HPRE
      clear ek
      gi_wp2
      go_end0
      exact ⟨⟨_, rfl⟩, .inl ⟨pre, HPRE.out, HJ.out⟩⟩

end Go.Proofs.Yteljjkghjbofnaa

/-! Ranges over the iterator 'ready': a region that draws its order in a round; the statement; a function that holds such a statement. -/
set_option maxRecDepth 100000
namespace Go.Proofs.Yteljjkghjbofnaa
open Go Go.Proofs Go.RowKit

/-! ### A region that draws its order, in a round -/

def onlyN (Q : Exit → Act → World → Prop) : Exit → Act → World → Prop
  | .normal, a, w => Q .normal a w
  | _, _, _ => False

theorem not_letsOut_onlyN {Q : Exit → Act → World → Prop} : ¬ LetsOut (onlyN Q) := fun ⟨_, _, h⟩ => h

section
variable {P : Program} {l n : Nat} {Q : Exit → Act → World → Prop}

theorem oper_in_round {o : Oper} {a : Act} {w : World} {K : Act → World → Prop} (hd : ∀ c, o.op ≠ .defer c) (h : o.wp P a w K (onlyN Q)) : o.wpIn (Fence.wide.inRound l) n P a w K Q := by
  refine ⟨fun _ _ => trivial, ?_⟩
  unfold Oper.wp at h
  rw [Oper.semAt_eq _ _ _ hd]
  generalize (execOp a.eval o).run P w = r at h ⊢
  cases r with
  | halt x w' => cases x <;> exact h.elim
  | ok x w' =>
    cases x <;> try exact h
    case enter f args =>
      refine ⟨fun h => by simp [Fence.inRound, Fence.wide] at h, CallsIn.inRound l (callsIn_wide.2 (Calls.mono h ?_))⟩
      intro e w'' he
      cases e with
      | returned v => exact he
      | panicked c => exact he.elim
      | outgrown => exact (not_letsOut_onlyN he).elim
    case row r args =>
      exact ⟨fun h => by simp [Fence.inRound, Fence.wide] at h, fun c cs _ => let ⟨v, w', r, s⟩ := h c cs; ⟨v, w', r, stepsIn_wide.2 s⟩⟩
    all_goals exact h.elim

theorem wpAnyIn_of_wpAny {md : Region.Mode} {ops : Array Oper} (hd : ∀ (i : Nat) (o : Oper), ops[i]? = some o → ∀ c, o.op ≠ .defer c) :
    ∀ (fuel : Nat) (listed : Array Bool) (a : Act) (w : World), wpAny P md ops (onlyN Q) fuel listed a w → wpAnyIn (Fence.wide.inRound l) n P md ops Q fuel listed a w
  | 0, _, _, _, h => h
  | fuel + 1, listed, a, w, h => by
    refine ⟨h.1, fun i hi => ?_⟩
    have h1 := h.2 i hi
    unfold wpOp at h1
    unfold wpOpIn
    cases ho : ops[i]? with
    | none => rw [ho] at h1; exact wpAnyIn_of_wpAny hd fuel _ _ _ h1
    | some o =>
      rw [ho] at h1
      simp only at h1 ⊢
      split
      · rename_i hw
        rw [if_pos hw] at h1
        rcases h1 with h1 | h1
        · exact oper_in_round (hd i o ho) (Oper.wp_mono (fun a w => wpAnyIn_of_wpAny hd fuel _ a w) h1)
        · exact (not_letsOut_onlyN h1.2).elim
      · rename_i hw
        rw [if_neg hw] at h1
        exact ⟨fun _ _ => trivial, wpAnyIn_of_wpAny hd fuel _ _ _ h1⟩

/-- 'region_tail' in a round. -/
theorem regionIn_tail {id : Nat} {a : Act} {w : World} {ops : List Oper} (m : Nat) (hm : P.follows .mixedOrders = true) (hB : Region.lexTailB .any ops.toArray m = true) (hd : ops.all (fun o : Oper => match o.op with | .defer _ => false | _ => true) = true)
    (h : wpStill P ops.toArray w.drew (fun a' => wpList P ops.toArray (onlyN Q) (ops.drop m) a' w.drew) (ops.take m) a) : (Code.region id ops.toArray true).wpIn (Fence.wide.inRound l) n P Q a w := by
  simp only [Region.lexTailB, Bool.and_eq_true, decide_eq_true_eq] at hB
  obtain ⟨⟨⟨⟨hsel, hn⟩, hs⟩, hc⟩, hlex⟩ := hB
  have hn' : m < ops.length := by simpa using hn
  have htl : (ops.take m).length = m := by simp; omega
  have hdl : (ops.drop m).length = ops.toArray.size - m := by simp
  have inv0 : HeadInv .any ops.toArray m (Array.replicate ops.toArray.size false) :=
    ⟨by simp, fun j oj _ hl => (by rw [getD_replicate_false] at hl; cases hl), fun t _ ht => getD_in (by simpa using ht) (getD_replicate_false _ _)⟩
  have H := wpAnyL_lex (md := .any) (g := ops.toArray.size - m) hsel hs hc hn (ops.take m) 0 _ a (fun j hj => by
    have hj' : j < m := by rw [htl] at hj; exact hj
    simp [hj']) (by simpa using htl) inv0 (by rw [htl]; exact hlex) h
  refine wpIn_region_any hm (wpAnyIn_of_wpAny (fun i o ho c e => ?_) _ _ _ _ ?_)
  · have := List.all_eq_true.1 hd o (by have := List.mem_of_getElem? (by simpa using ho : ops[i]? = some o); exact this)
    rw [e] at this
    cases this
  · have := wpAny_of_head (Q' := onlyN Q) (g := ops.toArray.size - m) (fun listed a' hL => by
      have := wpAny_of_seq (md := .any) (Q' := onlyN Q) (ops.drop m) m listed a' w.drew (fun j => by simp [List.getElem?_drop]) (by rw [hdl]; exact hL.1) hL.2
      rwa [hdl] at this) _ _ _ H
    rw [htl, show m + (ops.toArray.size - m) = ops.toArray.size by omega] at this
    exact this
end

/-! ### A function that holds a range over a function -/

theorem calls_of_wp_marks {P : Program} {f : FuncId} {fn : Func} {c : Code} {args : Array Value} {w : World} {R : Ending → World → Prop} (hf : P.funcs[f]? = some fn) (hb : fn.body = some c)
    (h : c.wp P (bodyPostM Fence.wide 10 P fn R) { tmps := args ++ Array.replicate (fn.ntmps - args.size) undef, defers := [] } w) : Calls P f args w R :=
  callsIn_wide.1 (callsIn_of_wp_marks (n := 10) hf hb trivial (wpIn_wide.2 h) rfl)

def marks (Ds : List Nat) : List Deferred := Ds.map fun D => { target := .collected D, args := #[] }

/-- The blocks for the rounds' deferred calls have been shut; all else that lay is as it was. -/
structure Shuts (B : Nat) (w w' : World) : Prop where
  os : w'.os = w.os
  tape : w'.tape = w.tape
  output : w'.output = w.output
  size : w'.heap.size = w.heap.size
  low : ∀ k : Nat, k < B → w'.heap[k]? = w.heap[k]?
  cells : ∀ (k : Nat) (c : Array Value) (t : TypeId) (f : Nat × Nat), w.heap[k]? = some (Obj.cells c t f) → w'.heap[k]? = some (Obj.cells c t f)
  maps : ∀ (k : Nat) (e : Array MapEntry) (c : Nat), w.heap[k]? = some (Obj.map e c) → w'.heap[k]? = some (Obj.map e c)

theorem Shuts.refl (B : Nat) (w : World) : Shuts B w w := ⟨rfl, rfl, rfl, rfl, fun _ _ => rfl, fun _ _ _ _ h => h, fun _ _ _ h => h⟩
theorem Shuts.trans {B : Nat} {a b c : World} (h : Shuts B a b) (k : Shuts B b c) : Shuts B a c :=
  ⟨k.os.trans h.os, k.tape.trans h.tape, k.output.trans h.output, k.size.trans h.size, fun i hi => (k.low i hi).trans (h.low i hi), fun i x t f hx => k.cells i x t f (h.cells i x t f hx), fun i e c hx => k.maps i e c (h.maps i e c hx)⟩
theorem Shuts.kept {B : Nat} {w0 w w' : World} (h : Shuts B w w') (hk : Kept w0 w) (hB : w0.heap.size ≤ B) : Kept w0 w' :=
  ⟨h.os.trans hk.below.os, h.tape.trans hk.below.tape, h.output.trans hk.below.output, by rw [h.size]; exact hk.size, fun k hk' => (h.low k (by omega)).trans (hk.below.block k hk')⟩
theorem Shuts.cell {B : Nat} {w w' : World} (h : Shuts B w w') {a : Addr} {v : Value} (hc : w.cell? a = some v) : w'.cell? a = some v := by
  obtain ⟨o, ho, hcells⟩ := cells_of_cell hc
  cases o <;> try (simp [Obj.isCells] at hcells)
  exact (World.cell?_of_block ((h.cells _ _ _ _ ho).trans ho.symm)).trans hc
theorem Shuts.frozen {B : Nat} {w w' : World} (h : Shuts B w w') {a : Addr} {v : Value} (hc : w.cell? a = some v) {o : Nat} : w'.frozen? ⟨a.block, o, none⟩ = w.frozen? ⟨a.block, o, none⟩ := by
  obtain ⟨ob, ho, hcells⟩ := cells_of_cell hc
  cases ob <;> try (simp [Obj.isCells] at hcells)
  exact World.frozen?_of_block ((h.cells _ _ _ _ ho).trans ho.symm)

theorem leaves_marks {P : Program} {fn : Func} {tmps : Array Value} {R : Ending → World → Prop} {B : Nat} : ∀ (Ds : List Nat) (w : World), (∀ D ∈ Ds, B ≤ D ∧ w.heap[D]? = some (.deferred (some []))) → Ds.Nodup →
    (∀ w', Shuts B w w' → ∃ v, (results fn tmps).run P w' = .ok v w' ∧ R (.returned v) w') → LeavesInM Fence.wide 10 P fn tmps R (marks Ds) .returning w
  | [], w, _, _, h => h w (Shuts.refl B w)
  | D :: Ds, w, hD, hnd, h => by
    obtain ⟨hB, hD0⟩ := hD D (by simp)
    have hlt := (Array.getElem?_eq_some_iff.1 hD0).1
    refine ⟨by simp, .inl ⟨D, w.putObj D (.deferred none), rfl, run_takeDeferred hD0, ?_⟩⟩
    refine leaves_marks (B := B) Ds _ (fun D' h' => ?_) (List.nodup_cons.1 hnd).2 (fun w' hs => h w' ?_)
    · have hne : D' ≠ D := fun e => (List.nodup_cons.1 hnd).1 (e ▸ h')
      exact ⟨(hD D' (by simp [h'])).1, (World.putObj_heap_other hne).trans (hD D' (by simp [h'])).2⟩
    · have h1 : Shuts B w (w.putObj D (.deferred none)) := ⟨rfl, rfl, rfl, by simp, fun k hk => World.putObj_heap_other (by omega), fun k c t f hk => ?_, fun k e c hk => ?_⟩
      · exact h1.trans hs
      · refine (World.putObj_heap_other ?_).trans hk
        rintro rfl
        rw [hD0] at hk; cases hk
      · refine (World.putObj_heap_other ?_).trans hk
        rintro rfl
        rw [hD0] at hk; cases hk

/-! ### The statement 'for p := range w.ready(done)' -/

theorem Kept.keeps {X Y : World} (h : Kept X Y) : KeepsOthers X Y := ⟨h.size, fun k _ hk _ => (h.below.block k (Array.getElem?_eq_some_iff.1 hk).1).trans hk⟩

theorem Stat.grown {c1 c2 b : Nat} {W : Web} {d : S} {X Y : World} {row : Option Nat} (h : Stat c1 c2 b W d X) (hg : X.grownBy Y row) (hr : ∀ r, row = some r → ∃ o : Obj, X.heap[r]? = some o ∧ o.isCells = false) : Stat c1 c2 b W d Y :=
  ⟨cell_kept h.c1 hg hr, cell_kept h.c2 hg hr, cell_kept h.web.n hg hr, fun a ha => cell_kept (h.web.to a ha) hg hr, fun a ha => cell_kept (h.web.reach a ha) hg hr, fun a ha => cell_kept (h.web.near a ha) hg hr,
   fun o => by
    obtain ⟨ob, ho, hc⟩ := cells_of_cell h.web.n
    exact (World.frozen?_of_block (w := X) (w' := Y) (a := ⟨b, o, none⟩) (grownBy_keeps_cells hg hr ho hc)).trans (h.web.free o)⟩
theorem Kept.grown {w X Y : World} {row : Option Nat} (h : Kept w X) (hg : X.grownBy Y row) (hr : ∀ r, row = some r → w.heap.size ≤ r) : Kept w Y := Below.grown h hg h.size hr

theorem ready_stops (n c1 c2 b : Nat) (W : Web) (d : S) (hn : W.n ≤ 24) (h1 : 1 ≤ n) (w0 : World) (hS : Stat c1 c2 b W d w0) :
    SeqStopsK Fence.wide n Try.prog 146 #[.pointer (some ⟨c1, 0, none⟩), .pointer (some ⟨c2, 0, none⟩)] (fun x : Rdy W d => #[.int .i64 x.val]) (fun X Y => Stat c1 c2 b W d X → Stat c1 c2 b W d Y)
      (fun ys => ys.map Subtype.val = readyL W d) (fun pre => pre.map Subtype.val <+: readyL W d) (readyL W d).length w0 :=
  fun l J Jx X hX _ _ hY h0 => ready1_in n l c1 c2 b W d hn h1 J Jx hY X (hS.kept hX) h0

/-- How the body of a round may be left. -/
def roundEnd {α : Type} (B : Nat) (St : World → Prop) (I : List α → World → Prop) (Ix : Code → List α → World → Prop) (xs : List α) (X : World) : Exit → Act → World → Prop
  | .normal, _, Y => KeepsFrom B X Y ∧ St Y ∧ I xs Y
  | .ret, _, Y => KeepsFrom B X Y ∧ Ix .ret xs Y
  | .exit id, _, Y => KeepsFrom B X Y ∧ Ix (.exit id) xs Y
  | .goto t, _, Y => KeepsFrom B X Y ∧ Ix (.goto t) xs Y
  | .panic _, _, _ => False
  | .outgrown, _, _ => False

theorem range_ready {g : Operand} {ps : Array Tmp} {assign body : Code} {Q : Exit → Act → World → Prop} {a : Act} {w : World} {c1 c2 b : Nat} {W : Web} {d : S}
    (hg : a.eval g = .func (.func 146) #[] #[.pointer (some ⟨c1, 0, none⟩), .pointer (some ⟨c2, 0, none⟩)]) (hS : Stat c1 c2 b W d w) (hn : W.n ≤ 24) (hps : ps.size = 1)
    (I : List (Rdy W d) → World → Prop) (Ix : Code → List (Rdy W d) → World → Prop) (hI : OwnFrom w.heap.size I) (hIx : ∀ c, OwnFrom w.heap.size (Ix c)) (h0 : I [] w) (a₁ : Rdy W d → Act)
    (hassign : ∀ (l : Nat) (x : Rdy W d) (X : World) (K : Act → World → Prop), K (a₁ x) X →
      assign.wpIn (Fence.wide.inRound l) 8 Try.prog (Exit.then K (fun _ _ _ => False)) { tmps := (ps.zip #[.int .i64 x.val]).foldl (fun t (p, v) => t.setIfInBounds p v) a.tmps, defers := [] } X)
    (hbody : ∀ (l : Nat) (pre : List (Rdy W d)) (x : Rdy W d) (X : World), I pre X → Stat c1 c2 b W d X →
      body.wpIn (Fence.wide.inRound l) 8 Try.prog (roundEnd w.heap.size (Stat c1 c2 b W d) I Ix (pre ++ [x]) X) (a₁ x) X)
    (hdone : ∀ (D : Nat) (xs : List (Rdy W d)) (X : World), w.heap.size ≤ D → xs.map Subtype.val = readyL W d → I xs X → X.heap[D]? = some (.deferred (some [])) → Q .normal { a with defers := { target := .collected D, args := #[] } :: a.defers } X)
    (hstop : ∀ (D : Nat) (c : Code) (pre : List (Rdy W d)) (X : World), w.heap.size ≤ D → pre.map Subtype.val <+: readyL W d → Ix c pre X → X.heap[D]? = some (.deferred (some [])) → c.wp Try.prog Q { a with defers := { target := .collected D, args := #[] } :: a.defers } X) :
    (Code.rangeFunc g ps assign body).wp Try.prog Q a w := by
  refine (wpIn_wide (n := 10)).1 ?_
  refine wpIn_rangeFunc_ownG (α := Rdy W d) (F := Fence.wide) (n := 10) (P := Try.prog) (w0 := w) rfl (by decide) hg trivial Try.call146 (ready_stops 9 c1 c2 b W d hn (by decide) w hS) (fun {_ _ _} h k hs => k (h hs)) ?_ (Below.refl _ _) (fun x => by simpa using hps.symm)
    (fun xs X => I xs X ∧ Stat c1 c2 b W d X) Ix ?_ hIx ⟨h0, hS⟩ a₁ hassign ?_ ?_ ?_
  · intro X l o o' hl ho hc _ hs
    exact hs.grown (grownBy_putObj' X l o') (fun r e => by cases e; exact ⟨o, ho, hc⟩)
  · intro s X Y row hs hg' hr
    exact ⟨hI s X Y row hs.1 hg' hr, hs.2.grown hg' (fun r e => (hr r e).2)⟩
  · rintro l pre x X ⟨hi, hst⟩ _
    refine Code.wpIn_mono (fun e a' Y h => ?_) (hbody l pre x X hi hst)
    cases e with
    | normal => exact ⟨h.1, fun _ => h.2.1, h.2.2, h.2.1⟩
    | ret => exact h
    | exit id => exact h
    | goto t => exact h
    | panic c => exact h.elim
    | outgrown => exact h.elim
  · intro D xs X hD hS hi hd
    exact hdone D xs X hD hS hi.1 hd
  · intro D c pre X hD hS hi hd
    exact wpIn_wide.2 (hstop D c pre X hD hS hi hd)

def ReadyPost (b : Nat) (W : Web) (d : S) (w : World) (e : Ending) (w' : World) : Prop :=
  ∃ c1 c2, e = .returned (.func (.func 146) #[] #[.pointer (some ⟨c1, 0, none⟩), .pointer (some ⟨c2, 0, none⟩)]) ∧ w.heap.size ≤ c1 ∧ w.heap.size ≤ c2 ∧ Stat c1 c2 b W d w' ∧ Kept w w'

set_option maxHeartbeats 400000 in
theorem ready_any (b : Nat) (W : Web) (d : S) (w : World) (hw : WebAt w b W) :
    Calls Try.prog 115 #[.pointer (some ⟨b, 0, none⟩), .int .u32 (sI d)] w (ReadyPost b W d w) := by
  have HW := Lib.hid hw
  clear hw
  go_enter Try.func115, Try.ntmps115
  go_wp2
  go_ret
  refine ⟨w.heap.size, w.heap.size + 1, rfl, Nat.le_refl _, by omega, ⟨by simp [go_sem], by simp [go_sem], ?_⟩, ((Kept.refl w).alloc _).alloc _⟩
  exact HW.out.kept (((Kept.refl w).alloc _).alloc _)

end Go.Proofs.Yteljjkghjbofnaa

/-! Slices of numbers that the call itself appends to; First. -/
set_option maxRecDepth 100000
namespace Go.Proofs.Yteljjkghjbofnaa
open Go Go.Proofs Go.RowKit
attribute [local go_sem] Oper.semAt_some

/-! ### append -/

/-- v is a slice of the call's own that holds the numbers l. -/
def OwnI (X : World) (base : Nat) (v : Value) (l : List Int) : Prop := X.ownsRow base 3 1 v l.length (l.map (.int .i64))

theorem OwnI.nil (X : World) (base : Nat) : OwnI X base (.slice none 0 0) [] := World.ownsRow_nil X base 3 1
theorem OwnI.slice {X : World} {base : Nat} {v : Value} {l : List Int} (h : OwnI X base v l) : ∃ ao c, v = .slice ao l.length c ∧ l.length ≤ c ∧ Ints X ao l := by
  rcases h.2 with ⟨rfl, h0⟩ | ⟨g, cap, cur, rfl, hbg, hgg, hnc, hcm, hcs, htake⟩
  · have : l = [] := List.eq_nil_of_length_eq_zero (by simpa using h0)
    subst this
    exact ⟨none, 0, rfl, Nat.le_refl _, Ints.nil _ _⟩
  · refine ⟨some ⟨g, 0, none⟩, cap, rfl, hnc, fun i hi => ⟨g, 0, rfl, ?_⟩⟩
    rw [Nat.zero_add, cell_of_row _ _ _ _ _ _ hgg]
    have e : (cur.toList.take (l.length * 1))[i]? = cur.toList[i]? := by rw [List.getElem?_take, if_pos (by omega)]
    rw [htake] at e
    rw [← Array.getElem?_toList, ← e, List.getElem?_map, List.getElem?_eq_getElem hi]
    rfl
theorem OwnI.kept {X Y : World} {base : Nat} {v : Value} {l : List Int} (h : OwnI X base v l) (hk : Kept X Y) : OwnI Y base v l := by
  refine ⟨h.1, ?_⟩
  rcases h.2 with hn | ⟨g, cap, cur, rfl, hb, hgg, rest⟩
  · exact .inl hn
  · exact .inr ⟨g, cap, cur, rfl, hb, (hk.below.block g (Array.getElem?_eq_some_iff.1 hgg).1).trans hgg, rest⟩
theorem OwnI.lt {X : World} {base : Nat} {v : Value} {l : List Int} (h : OwnI X base v l) : ∀ k, v.ownBlock = some k → base ≤ k ∧ k < X.heap.size := World.ownsRow.lt h
theorem OwnI.grown {X Y : World} {base : Nat} {v : Value} {l : List Int} {row : Option Nat} (h : OwnI X base v l) (hg : X.grownBy Y row) (hr : ∀ r, row = some r → ∃ o : Obj, X.heap[r]? = some o ∧ o.isCells = false) : OwnI Y base v l := by
  refine ⟨h.1, ?_⟩
  rcases h.2 with hn | ⟨g, cap, cur, rfl, hb, hgg, rest⟩
  · exact .inl hn
  · refine .inr ⟨g, cap, cur, rfl, hb, (hg.block g (Array.getElem?_eq_some_iff.1 hgg).1 (fun e => ?_)).trans hgg, rest⟩
    obtain ⟨o, ho, hc⟩ := hr g e.symm
    rw [hgg] at ho; cases ho; cases hc
theorem OwnI.setBelow {X : World} {base : Nat} {v : Value} {l : List Int} (h : OwnI X base v l) {a : Addr} (ha : a.block < base) (u : Value) : OwnI (X.setCell a u) base v l := ownsRow_setCell_below h ha u
theorem OwnI.shuts {B base : Nat} {X Y : World} {v : Value} {l : List Int} (h : OwnI X base v l) (hs : Shuts B X Y) : OwnI Y base v l := by
  refine ⟨h.1, ?_⟩
  rcases h.2 with hn | ⟨g, cap, cur, rfl, hb, hgg, rest⟩
  · exact .inl hn
  · exact .inr ⟨g, cap, cur, rfl, hb, hs.cells _ _ _ _ hgg, rest⟩
theorem OwnI.base {X : World} {base base' : Nat} {v : Value} {l : List Int} (h : OwnI X base v l) (hb : base' ≤ base) : OwnI X base' v l := by
  refine ⟨h.1, ?_⟩
  rcases h.2 with hn | ⟨g, cap, cur, rfl, hb', rest⟩
  · exact .inl hn
  · exact .inr ⟨g, cap, cur, rfl, by omega, rest⟩

theorem own_succ {X : World} {base : Nat} {v : Value} {l : List Int} {y : Int} (h : X.ownsRow base 3 1 v (l.length + 1) (l.map (.int .i64) ++ [.int .i64 y])) :
    ∃ g c, v = .slice (some ⟨g, 0, none⟩) (l.length + 1) c ∧ OwnI X base v (l ++ [y]) := by
  have h' : OwnI X base v (l ++ [y]) := by
    unfold OwnI; simpa using h
  rcases h.2 with ⟨_, h0⟩ | ⟨g, cap, cur, rfl, _⟩
  · omega
  · exact ⟨g, cap, rfl, h'⟩

theorem append_int {ops : Array Oper} {rest : List Oper} {o : Oper} {a : Act} {Q : Exit → Act → World → Prop} (w : World) (hg : o.guard = none) (s x : Operand)
    (ho : o.op = .call { callee := .builtin .append, args := #[s, x], argTypes := #[31, 31] }) (base : Nat) (v : Value) (l : List Int) (hs : a.eval s = v) (hown : OwnI w base v l)
    (g c : Nat) (y : Int) (hx : a.eval x = .slice (some ⟨g, 0, none⟩) 1 c) (hy : w.cell? ⟨g, 0, none⟩ = some (.int .i64 y)) (hl : l.length < 1099511627776) (hbase : base ≤ w.heap.size)
    (h : ∀ g' c' w', OwnI w' base (.slice (some ⟨g', 0, none⟩) (l.length + 1) c') (l ++ [y]) → w.grownBy w' v.ownBlock → wpList Try.prog ops Q rest (a.put o.dst (.slice (some ⟨g', 0, none⟩) (l.length + 1) c')) w') :
    wpList Try.prog ops Q (o :: rest) a w := by
  obtain ⟨i0, hi, hz0, hz1, hz2⟩ := info_parts info3
  refine wpList_append_own w hg s x 31 ho base 3 i0 (.int .i64 0) 1 8 Try.underlying31 hi hz0 hz1 hz2 rfl (by decide) v l.length _ hs hown ⟨g, 0, none⟩ 1 c [.int .i64 y] hx rfl
    (fun j u hu => ?_) (by simp [Value.oneCell']) (by unfold maxLen; omega) (by omega) hbase ?_
  · cases j with
    | zero => simp at hu; subst hu; exact hy
    | succ j => simp at hu
  · intro v' w' h1 h2 _
    obtain ⟨g', c', rfl, h3⟩ := own_succ h1
    exact h g' c' w' h3 h2

theorem append_intIn {F : Fence} {n : Nat} {ops : Array Oper} {rest : List Oper} {o : Oper} {a : Act} {Q : Exit → Act → World → Prop} (w : World) (hg : o.guard = none) (s x : Operand)
    (ho : o.op = .call { callee := .builtin .append, args := #[s, x], argTypes := #[31, 31] }) (base : Nat) (v : Value) (l : List Int) (hs : a.eval s = v) (hown : OwnI w base v l)
    (g c : Nat) (y : Int) (hx : a.eval x = .slice (some ⟨g, 0, none⟩) 1 c) (hy : w.cell? ⟨g, 0, none⟩ = some (.int .i64 y)) (hl : l.length < 1099511627776) (hbase : base ≤ w.heap.size)
    (h : ∀ g' c' w', OwnI w' base (.slice (some ⟨g', 0, none⟩) (l.length + 1) c') (l ++ [y]) → w.grownBy w' v.ownBlock → wpListIn F n Try.prog ops Q rest (a.put o.dst (.slice (some ⟨g', 0, none⟩) (l.length + 1) c')) w') :
    wpListIn F n Try.prog ops Q (o :: rest) a w := by
  obtain ⟨i0, hi, hz0, hz1, hz2⟩ := info_parts info3
  refine wpListIn_append_own w hg s x 31 ho base 3 i0 (.int .i64 0) 1 8 Try.underlying31 hi hz0 hz1 hz2 rfl (by decide) v l.length _ hs hown ⟨g, 0, none⟩ 1 c [.int .i64 y] hx rfl
    (fun j u hu => ?_) (by simp [Value.oneCell']) (by unfold maxLen; omega) (by omega) hbase ?_
  · cases j with
    | zero => simp at hu; subst hu; exact hy
    | succ j => simp at hu
  · intro v' w' h1 h2 _
    obtain ⟨g', c', rfl, h3⟩ := own_succ h1
    exact h g' c' w' h3 h2

/-! ### First -/

/-- The first k patches of the first order. -/
def firstL (W : Web) : Nat → List Int
  | 0 => []
  | k + 1 => firstL W k ++ [(((readyL W (setS (firstL W k))).headD 0 : Nat) : Int)]
/-- The first order of a web without circles. -/
def firstOf (W : Web) : List Int := firstL W W.n

/-- Whatever different patches are done: some patch may come next. -/
def Goes (W : Web) : Prop := ∀ l : List Int, (∀ p ∈ l, 0 ≤ p ∧ p < (W.n : Int)) → l.Nodup → l.length < W.n → readyL W (setS l) ≠ []

/-- The two variables of a function that builds a list of patches: box bo holds the slice vb, box bd the set d; l is what the slice v owns; Ds: the blocks for deferred calls. -/
structure FSt (w : World) (bo bd base : Nat) (Ds : List Nat) (vb : Value) (d : S) (v : Value) (l : List Int) (X : World) : Prop where
  kept : Kept w X
  sz : base ≤ X.heap.size
  cv : X.cell? ⟨bo, 0, none⟩ = some vb
  fv : X.frozen? ⟨bo, 0, none⟩ = false
  cd : X.cell? ⟨bd, 0, none⟩ = some (.int .u32 (sI d))
  fd : X.frozen? ⟨bd, 0, none⟩ = false
  own : OwnI X base v l
  ds : ∀ D ∈ Ds, base ≤ D ∧ X.heap[D]? = some (.deferred (some []))

section
variable {w : World} {bo bd base : Nat} {Ds : List Nat} {vb : Value} {d : S} {v : Value} {l : List Int} {X Y : World}
theorem FSt.grown {B : Nat} {row : Option Nat} (h : FSt w bo bd base Ds vb d v l X) (hg : X.grownBy Y row)
    (hr : ∀ r, row = some r → B ≤ r ∧ ∃ o : Obj, X.heap[r]? = some o ∧ o.isCells = false) (hB : w.heap.size ≤ B) (hD : ∀ D ∈ Ds, D < B) : FSt w bo bd base Ds vb d v l Y :=
  ⟨h.kept.grown hg (fun r e => Nat.le_trans hB (hr r e).1), Nat.le_trans h.sz hg.size, cell_kept h.cv hg (fun r e => (hr r e).2), (frozen_kept h.cv hg (fun r e => (hr r e).2)).trans h.fv,
   cell_kept h.cd hg (fun r e => (hr r e).2), (frozen_kept h.cd hg (fun r e => (hr r e).2)).trans h.fd, h.own.grown hg (fun r e => (hr r e).2),
   fun D hd => ⟨(h.ds D hd).1, (hg.block D (Array.getElem?_eq_some_iff.1 (h.ds D hd).2).1 (fun e => by have := (hr D e.symm).1; have := hD D hd; omega)).trans (h.ds D hd).2⟩⟩
theorem FSt.keptBy (h : FSt w bo bd base Ds vb d v l X) (hk : Kept X Y) : FSt w bo bd base Ds vb d v l Y :=
  ⟨h.kept.trans hk, Nat.le_trans h.sz hk.size, hk.cell h.cv, (hk.cells.2 bo 0 (lt_of_cell h.cv)).trans h.fv, hk.cell h.cd, (hk.cells.2 bd 0 (lt_of_cell h.cd)).trans h.fd, h.own.kept hk,
   fun D hd => ⟨(h.ds D hd).1, (hk.below.block D (Array.getElem?_eq_some_iff.1 (h.ds D hd).2).1).trans (h.ds D hd).2⟩⟩
theorem own_row_cells (h : OwnI X base v l) : ∀ (j : Nat) (o : Obj), v.ownBlock = some j → X.heap[j]? = some o → o.isCells = true := by
  intro j o hj ho
  rcases h.2 with ⟨rfl, _⟩ | ⟨g, cap, cur, rfl, hb, hgg, rest⟩
  · simp [Value.ownBlock] at hj
  · simp [Value.ownBlock] at hj; subst hj; rw [hgg] at ho; cases ho; rfl
theorem FSt.append {v' : Value} {l' : List Int} (h : FSt w bo bd base Ds vb d v l X) (hg : X.grownBy Y v.ownBlock) (hown : OwnI Y base v' l') (hb : w.heap.size ≤ base) (h1 : bo < base) (h2 : bd < base) : FSt w bo bd base Ds vb d v' l' Y := by
  have hne : ∀ k, k < base → some k ≠ v.ownBlock := fun k hk e => by have := (h.own.lt k e.symm).1; omega
  refine ⟨h.kept.grown hg (fun r e => Nat.le_trans hb (h.own.lt r e).1), Nat.le_trans h.sz hg.size, hg.cell h.cv (hne bo h1), ?_, hg.cell h.cd (hne bd h2), ?_, hown, fun D hd => ⟨(h.ds D hd).1, ?_⟩⟩
  · exact (World.frozen?_of_block (a := ⟨bo, 0, none⟩) (hg.block bo (lt_of_cell h.cv) (hne bo h1))).trans h.fv
  · exact (World.frozen?_of_block (a := ⟨bd, 0, none⟩) (hg.block bd (lt_of_cell h.cd) (hne bd h2))).trans h.fd
  · refine (hg.block D (Array.getElem?_eq_some_iff.1 (h.ds D hd).2).1 (fun e => ?_)).trans (h.ds D hd).2
    have := own_row_cells h.own D _ e.symm (h.ds D hd).2
    cases this
theorem heap_set_deferred {D : Nat} {ds : Option (List Deferred)} (h : X.heap[D]? = some (.deferred ds)) (a : Addr) (u : Value) : (X.setCell a u).heap[D]? = some (.deferred ds) :=
  (KeepsOthers.setCell X a u).same D _ h rfl
theorem FSt.setOut (h : FSt w bo bd base Ds vb d v l X) (hw : w.heap.size ≤ bo) (h1 : bo < base) (h2 : bo ≠ bd) (u : Value) : FSt w bo bd base Ds u d v l (X.setCell ⟨bo, 0, none⟩ u) :=
  ⟨h.kept.setCell hw u, by simpa [World.setCell] using h.sz, cell_set_same h.cv, by rw [World.frozen?_setCell]; exact h.fv, cell_set_block h.cd (Ne.symm h2), by rw [World.frozen?_setCell]; exact h.fd, h.own.setBelow h1 u,
   fun D hd => ⟨(h.ds D hd).1, heap_set_deferred (h.ds D hd).2 _ _⟩⟩
theorem FSt.setDone (h : FSt w bo bd base Ds vb d v l X) (hw : w.heap.size ≤ bd) (h1 : bd < base) (h2 : bo ≠ bd) (d' : S) : FSt w bo bd base Ds vb d' v l (X.setCell ⟨bd, 0, none⟩ (.int .u32 (sI d'))) :=
  ⟨h.kept.setCell hw _, by simpa [World.setCell] using h.sz, cell_set_block h.cv h2, by rw [World.frozen?_setCell]; exact h.fv, cell_set_same h.cd, by rw [World.frozen?_setCell]; exact h.fd, h.own.setBelow h1 _,
   fun D hd => ⟨(h.ds D hd).1, heap_set_deferred (h.ds D hd).2 _ _⟩⟩
end

theorem WebAt.grownNe {b : Nat} {W : Web} {X Y : World} {row : Option Nat} (h : WebAt X b W) (hg : X.grownBy Y row) (hne : some b ≠ row) : WebAt Y b W :=
  ⟨hg.cell h.n hne, fun a ha => hg.cell (h.to a ha) hne, fun a ha => hg.cell (h.reach a ha) hne, fun a ha => hg.cell (h.near a ha) hne,
   fun o => (World.frozen?_of_block (a := ⟨b, o, none⟩) (hg.block b (lt_of_cell h.n) hne)).trans (h.free o)⟩
theorem Stat.grownNe {c1 c2 b : Nat} {W : Web} {d : S} {X Y : World} {row : Option Nat} (h : Stat c1 c2 b W d X) (hg : X.grownBy Y row) (h1 : some c1 ≠ row) (h2 : some c2 ≠ row) (h3 : some b ≠ row) : Stat c1 c2 b W d Y :=
  ⟨hg.cell h.c1 h1, hg.cell h.c2 h2, h.web.grownNe hg h3⟩
theorem Stat.setOther {c1 c2 b : Nat} {W : Web} {d : S} {X : World} (h : Stat c1 c2 b W d X) {b' o : Nat} (h1 : c1 ≠ b') (h2 : c2 ≠ b') (h3 : b ≠ b') (u : Value) : Stat c1 c2 b W d (X.setCell ⟨b', o, none⟩ u) :=
  ⟨cell_set_block h.c1 h1, cell_set_block h.c2 h2, h.web.setOther h3⟩

def FirstPost (W : Web) (w : World) (e : Ending) (w' : World) : Prop := ∃ v, e = .returned v ∧ OwnI w' w.heap.size v (firstOf W) ∧ Kept w w'

/-- The frame and the world at the head of the loop of 'first'. -/
def FirstInv (w : World) (b bo bd base : Nat) (W : Web) (a : Act) (X : World) : Prop :=
  ∃ (k : Nat) (v : Value) (Ds : List Nat) (u5 u6 u7 u8 u9 u10 u11 u12 u13 u14 u15 u16 u17 u18 u19 u20 u21 u22 u23 u24 u25 : Value), a = { tmps := #[.pointer (some ⟨b, 0, none⟩), undef, .slice none 0 0, .pointer (some ⟨bo, 0, none⟩), .pointer (some ⟨bd, 0, none⟩), u5, u6, u7, u8, u9, u10, u11, u12, u13, u14, u15, u16, u17, u18, u19, u20, u21, u22, u23, u24, u25], defers := marks Ds } ∧
    k ≤ W.n ∧ FSt w bo bd base Ds v (setS (firstL W k)) v (firstL W k) X ∧ Ds.Nodup ∧ (firstL W k).length = k ∧ (∀ p ∈ firstL W k, 0 ≤ p ∧ p < (W.n : Int)) ∧ (firstL W k).Nodup
/-- How many patches are still to come. -/
def firstLeft (bo n : Nat) (X : World) : Nat := match X.cell? ⟨bo, 0, none⟩ with | some (.slice _ k _) => n - k | _ => 0

set_option maxHeartbeats 1600000 in
theorem first_any (b : Nat) (W : Web) (w : World) (hw : WebAt w b W) (hn : W.n ≤ 24) (hgo : Goes W) :
    Calls Try.prog 103 #[.pointer (some ⟨b, 0, none⟩)] w (FirstPost W w) := by
  have HW := Lib.hid hw
  have HGO := Lib.hid hgo
  clear hw hgo
  refine calls_of_wp_marks Try.func103 rfl ?_
  simp only [Try.ntmps103, List.size_toArray, List.length_cons, List.length_nil, Nat.reduceAdd, Nat.reduceSub, Array.replicate_succ, Array.replicate_zero, List.push_toArray, List.append_toArray, List.nil_append, List.cons_append]
  go_wp2
  have hk0 : Kept w ((w.alloc (.cells #[.slice none 0 0] 31)).alloc (.cells #[.int .u32 0] 93)) := ((Kept.refl w).alloc _).alloc _
  have hst0 : FSt w w.heap.size (w.heap.size + 1) (w.heap.size + 2) [] (.slice none 0 0) (setS []) (.slice none 0 0) [] ((w.alloc (.cells #[.slice none 0 0] 31)).alloc (.cells #[.int .u32 0] 93)) :=
    ⟨hk0, by simp, by simp [go_sem], by simp [go_sem], by simp [go_sem]; rfl, by simp [go_sem], OwnI.nil _ _, fun D h => by cases h⟩
  generalize ((w.alloc (.cells #[.slice none 0 0] 31)).alloc (.cells #[.int .u32 0] 93)) = w0 at *
  obtain ⟨bo, hbo⟩ : ∃ bo, w.heap.size = bo := ⟨_, rfl⟩
  obtain ⟨bd, hbd⟩ : ∃ bd, w.heap.size + 1 = bd := ⟨_, rfl⟩
  obtain ⟨base, hbase⟩ : ∃ base, w.heap.size + 2 = base := ⟨_, rfl⟩
  rw [hbase, hbd, hbo] at hst0
  rw [hbd, hbo]
  have HB : Hid (w.heap.size ≤ bo ∧ bo < base ∧ bd < base ∧ bo ≠ bd ∧ w.heap.size ≤ bd) := ⟨by omega, by omega, by omega, by omega, by omega⟩
  clear hk0 hbo hbd
  have HST0 := Lib.hid hst0
  clear hst0 hbase
  refine wp_loop (FirstInv w b bo bd base W) (fun _ X => firstLeft bo W.n X) ⟨0, .slice none 0 0, [], _, _, _, _, _, _, _, _, _, _, _, _, _, _, _, _, _, _, _, _, _, rfl, Nat.zero_le _, HST0.out, List.nodup_nil, rfl, by simp [firstL], by simp [firstL]⟩ ?_
  rintro a X ⟨k, v, Ds, u5, u6, u7, u8, u9, u10, u11, u12, u13, u14, u15, u16, u17, u18, u19, u20, u21, u22, u23, u24, u25, rfl, hk, hst, hnd, hlen, hin, hdup⟩
  clear HST0
  have HST := Lib.hid hst
  have HND := Lib.hid hnd
  have HLEN := Lib.hid hlen
  have HIN := Lib.hid hin
  have HDUP := Lib.hid hdup
  obtain ⟨ao, c, hv, hc, _⟩ := hst.own.slice
  rw [hlen] at hv hc
  have hcv := hst.cv
  have hcd := hst.cd
  have hwn := (HW.out.kept hst.kept).n
  subst hv
  clear hst hnd hlen hin hdup
  by_cases hlt : k < W.n
  · go_wp2
    refine region_tail 6 (by kernel_rfl) (by kernel_rfl) ?_
    simp only [List.take_succ_cons, List.take_zero, List.drop_succ_cons, List.drop_zero]
    repeat still_step
    refine wpStill_nil ?_
    go_wp2_with fail
    refine (ready_any b W (setS (firstL W k)) _ ((HW.out.kept HST.out.kept).kept (Kept.refl X).drew)).mono ?_
    rintro e X1 ⟨c1, c2, rfl, hc1, hc2, hstat, hk1⟩
    have HS1 := Lib.hid hstat
    have hst1 := (HST.out.keptBy (Kept.refl X).drew).keptBy hk1
    have HST1 := Lib.hid hst1
    have HC : Hid (bo < c1 ∧ bo < c2 ∧ bd < c1 ∧ bd < c2 ∧ (∀ g, (Value.slice ao k c).ownBlock = some g → g < c1 ∧ g < c2)) := by
      have h1 := lt_of_cell HST.out.cv
      have h2 := lt_of_cell HST.out.cd
      have h3 : X.drew.heap.size = X.heap.size := rfl
      rw [h3] at hc1 hc2
      exact ⟨by omega, by omega, by omega, by omega, fun g hg => by have := (HST.out.own.lt g hg).2; omega⟩
    clear hstat hst1 hk1 hcv hcd hwn hc1 hc2
    go_wp2_with fail
    refine range_ready (c1 := c1) (c2 := c2) (b := b) (W := W) (d := setS (firstL W k)) rfl HS1.out hn rfl
      (fun pre Y => pre = [] ∧ FSt w bo bd base Ds (.slice ao k c) (setS (firstL W k)) (.slice ao k c) (firstL W k) Y)
      (fun cd pre Y => cd = .exit 2 ∧ ∃ (x : Rdy W (setS (firstL W k))) (v' : Value), pre = [x] ∧ FSt w bo bd base Ds v' (setS (firstL W k ++ [(x.val : Int)])) v' (firstL W k ++ [(x.val : Int)]) Y)
      ?hI ?hIx ⟨rfl, HST1.out⟩
      (fun x => { tmps := #[.pointer (some ⟨b, 0, none⟩), undef, .slice none 0 0, .pointer (some ⟨bo, 0, none⟩), .pointer (some ⟨bd, 0, none⟩), .int .i64 x.val, .slice ao k c, .int .i64 k, .pointer (some ⟨b, 0, none⟩), .pointer (some ⟨b, 0, none⟩), .pointer (some ⟨b, 0, none⟩), .int .i64 W.n, .bool true, .pointer (some ⟨b, 0, none⟩),
        .int .u32 (sI (setS (firstL W k))), .func (.func 146) #[] #[.pointer (some ⟨c1, 0, none⟩), .pointer (some ⟨c2, 0, none⟩)], .int .i64 x.val, u17, u18, u19, u20, u21, u22, u23, u24, u25], defers := [] }) ?assign ?body ?done ?stop
    case hI =>
      intro s A B row hs hg hr
      exact ⟨hs.1, hs.2.grown hg hr HST1.out.kept.size (fun D hD => (Array.getElem?_eq_some_iff.1 (HST1.out.ds D hD).2).1)⟩
    case hIx =>
      rintro cd s A B row ⟨e, x, v', hx, hs⟩ hg hr
      exact ⟨e, x, v', hx, hs.grown hg hr HST1.out.kept.size (fun D hD => (Array.getElem?_eq_some_iff.1 (HST1.out.ds D hD).2).1)⟩
    case assign =>
      intro l x X K hK
      gi_wp2
      exact hK
    case body =>
      rintro l pre x Y ⟨rfl, hst⟩ hstat
      have HS := Lib.hid hst
      have HT := Lib.hid hstat
      have hcv := hst.cv
      have hbo := lt_of_cell hcv
      clear hst hstat
      have hx32 : x.val < 32 := by have := (mem_readyL.1 x.2).1; omega
      have HX32 := Lib.hid hx32
      gi_wp2_with (gi_at_builtin; refine append_intIn _ rfl _ _ rfl base (.slice ao k c) (firstL W k) rfl (HS.out.own.kept ((Kept.refl _).alloc _)) Y.heap.size 1 x.val rfl (by simp [go_sem]) (by rw [HLEN.out]; omega) (Nat.le_trans HS.out.sz (by simp)) ?_; intro g' c' w1 hown1 hg1; have HG1 := Lib.hid hg1; have HF1 := Lib.hid ((HS.out.keptBy ((Kept.refl Y).alloc _)).append hg1 hown1 (Nat.le_of_lt (Nat.lt_of_le_of_lt HB.out.1 HB.out.2.1)) HB.out.2.1 HB.out.2.2.1); clear hown1 hg1 hcv hbo; have hcv1 := HF1.out.cv; have hfv1 := HF1.out.fv)
      clear hcv1 hfv1
      have HF2 := Lib.hid (HF1.out.setOut HB.out.1 HB.out.2.1 HB.out.2.2.2.1 (.slice (some ⟨g', 0, none⟩) ((firstL W k).length + 1) c'))
      have HKF : Hid (KeepsOthers Y (w1.setCell ⟨bo, 0, none⟩ (.slice (some ⟨g', 0, none⟩) ((firstL W k).length + 1) c'))) :=
        ((KeepsOthers.alloc Y _).trans (KeepsOthers.of_grownBy HG1.out (own_row_cells (HS.out.own.kept ((Kept.refl Y).alloc _))))).trans (KeepsOthers.setCell _ _ _)
      generalize (w1.setCell ⟨bo, 0, none⟩ (.slice (some ⟨g', 0, none⟩) ((firstL W k).length + 1) c')) = w2 at *
      have hcd2 := HF2.out.cd
      have hfd2 := HF2.out.fd
      refine regionIn_tail 4 (by kernel_rfl) (by kernel_rfl) (by kernel_rfl) ?_
      simp only [List.take_succ_cons, List.take_zero, List.drop_succ_cons, List.drop_zero]
      repeat still_step
      still_call Calls_still (one_any _ _ HX32.out)
      repeat still_step
      refine wpStill_nil ?_
      go_wp2
      unfold onlyN
      gi_wp2
      refine ⟨((HKF.out.trans (KeepsOthers.setCell _ _ _)).trans (KeepsOthers.drew _)).from _, rfl, x, (.slice (some ⟨g', 0, none⟩) ((firstL W k).length + 1) c'), rfl, ?_⟩
      rw [setS_snoc, Int.toNat_natCast]
      exact (HF2.out.setDone HB.out.2.2.2.2 HB.out.2.2.1 HB.out.2.2.2.1 _).keptBy (Kept.refl _).drew
    case done =>
      rintro D xs X hD hxs ⟨rfl, _⟩ _
      exact absurd hxs.symm (HGO.out _ HIN.out HDUP.out (by rw [HLEN.out]; exact hlt))
    case stop =>
      rintro D cd pre Y hD hpre ⟨rfl, x, v', rfl, hst2⟩ hdef
      have hx := mem_readyL.1 x.2
      have hxn : (x.val : Int) ∉ firstL W k := by
        have h := hx.2
        unfold readyB at h
        rw [hasS_setS _ (fun p hp => by have := HIN.out p hp; omega)] at h
        simp at h
        exact h.1
      have hnext : firstL W (k + 1) = firstL W k ++ [(x.val : Int)] := by
        show firstL W k ++ [_] = _
        obtain ⟨r, hr⟩ := hpre
        have e : ∀ L : List Nat, [x.val] ++ r = L → L.headD 0 = x.val := by rintro _ rfl; rfl
        rw [e _ hr]
      have HX := Lib.hid hx
      have HXN := Lib.hid hxn
      have HNX := Lib.hid hnext
      have HST2 := Lib.hid hst2
      have HDEF := Lib.hid hdef
      have HPD := Lib.hid hD
      clear hx hxn hnext hst2 hdef hpre hD
      go_wp2
      have hlen2 : (firstL W (k + 1)).length = k + 1 := by rw [HNX.out, List.length_append, HLEN.out]; rfl
      refine ⟨⟨k + 1, v', D :: Ds, _, _, _, _, _, _, _, _, _, _, _, _, _, _, _, _, _, _, _, _, _, rfl, by omega, ?_, ?_, hlen2, ?_, ?_⟩, ?_⟩
      · rw [HNX.out]
        exact ⟨HST2.out.kept, HST2.out.sz, HST2.out.cv, HST2.out.fv, HST2.out.cd, HST2.out.fd, HST2.out.own, fun D' hD' => by
          rcases List.mem_cons.1 hD' with rfl | h
          · exact ⟨Nat.le_trans HST1.out.sz HPD.out, HDEF.out⟩
          · exact HST2.out.ds D' h⟩
      · refine List.nodup_cons.2 ⟨fun h => ?_, HND.out⟩
        have := (Array.getElem?_eq_some_iff.1 (HST1.out.ds D h).2).1
        have := HPD.out
        omega
      · rw [HNX.out]
        intro p hp
        rcases List.mem_append.1 hp with h | h
        · exact HIN.out p h
        · simp at h; subst h; have := HX.out.1; omega
      · rw [HNX.out, List.nodup_append]
        exact ⟨HDUP.out, by simp, fun a ha b hb e => by simp at hb; subst hb; subst e; exact HXN.out ha⟩
      · obtain ⟨ao', c', hv', _, _⟩ := HST2.out.own.slice
        have e1 : firstLeft bo W.n Y = W.n - (k + 1) := by
          unfold firstLeft
          rw [HST2.out.cv, hv']
          simp [HLEN.out]
        have e2 : firstLeft bo W.n X = W.n - k := by
          unfold firstLeft
          rw [HST.out.cv]
        rw [e1, e2]
        omega
  · have ek : k = W.n := by omega
    have HEK := Lib.hid ek
    clear ek
    go_wp2
    refine region_tail 6 (by kernel_rfl) (by kernel_rfl) ?_
    simp only [List.take_succ_cons, List.take_zero, List.drop_succ_cons, List.drop_zero]
    repeat still_step
    refine wpStill_nil ?_
    go_wp2
    refine leaves_marks (B := base) Ds X.drew (fun D hD => HST.out.ds D hD) HND.out (fun w' hs => ⟨_, results_tmp rfl _ _ _, .slice ao k c, rfl, ?_, ?_⟩)
    · have h := ((HST.out.own.kept (Kept.refl X).drew).shuts hs).base (Nat.le_of_lt (Nat.lt_of_le_of_lt HB.out.1 HB.out.2.1))
      unfold firstOf
      rw [← HEK.out]
      exact h
    · exact hs.kept (HST.out.kept.trans (Kept.refl X).drew) (Nat.le_of_lt (Nat.lt_of_le_of_lt HB.out.1 HB.out.2.1))

end Go.Proofs.Yteljjkghjbofnaa

/-! First, dated, Days, SameInts, slices.Index, Standing. -/
set_option maxRecDepth 100000
namespace Go.Proofs.Yteljjkghjbofnaa
open Go Go.Proofs Go.RowKit

/-- v is a list of numbers in memory that was not there in w. -/
def NewI (w w' : World) (v : Value) (l : List Int) : Prop :=
  ∃ ao c, v = .slice ao l.length c ∧ l.length ≤ c ∧ Ints w' ao l ∧ (∀ a, ao = some a → w.heap.size ≤ a.block ∧ a.block < w'.heap.size ∧ a.spot = none ∧ ∀ o, w'.frozen? ⟨a.block, o, none⟩ = false)
/-- A list of numbers and what was wrong. -/
def ListErr (l : List Int) (err : Int) (w : World) (e : Ending) (w' : World) : Prop := ∃ v, e = .returned (.tuple #[v, .int .i64 err]) ∧ NewI w w' v l ∧ Kept w w'

theorem NewI.nil (w w' : World) : NewI w w' (.slice none 0 0) [] := ⟨none, 0, rfl, Nat.le_refl _, Ints.nil _ _, fun a h => by cases h⟩
theorem OwnI.new {w w' : World} {v : Value} {l : List Int} (h : OwnI w' w.heap.size v l) : NewI w w' v l := by
  obtain ⟨ao, c, hv, hc, hi⟩ := h.slice
  refine ⟨ao, c, hv, hc, hi, ?_⟩
  rintro a rfl
  rcases h.2 with ⟨rfl, h0⟩ | ⟨g, cap, cur, rfl, hbg, hgg, _⟩
  · cases hv
  · simp only [Value.slice.injEq, Option.some.injEq] at hv
    obtain ⟨rfl, -, -⟩ := hv
    exact ⟨hbg, (Array.getElem?_eq_some_iff.1 hgg).1, rfl, fun o => frozen_of_row _ _ _ _ _ hgg⟩
theorem Arr.new {w w' : World} {g : Nat} {xs : List Int} (h : Arr w' g xs) (hg : w.heap.size ≤ g) : NewI w w' (.slice (some ⟨g, 0, none⟩) xs.length xs.length) xs :=
  ⟨_, _, rfl, Nat.le_refl _, h.ints, by rintro a e; cases e; exact ⟨hg, h.lt, rfl, h.free⟩⟩
theorem NewI.kept {w w' w'' : World} {v : Value} {l : List Int} (h : NewI w w' v l) (hk : Kept w' w'') : NewI w w'' v l := by
  obtain ⟨ao, c, hv, hc, hi, hn⟩ := h
  exact ⟨ao, c, hv, hc, hi.kept hk, fun a e => ⟨(hn a e).1, Nat.lt_of_lt_of_le (hn a e).2.1 hk.size, (hn a e).2.2.1, fun o => (hk.cells.2 a.block o (hn a e).2.1).trans ((hn a e).2.2.2 o)⟩⟩
theorem NewI.from {w0 w w' : World} {v : Value} {l : List Int} (h : NewI w w' v l) (hs : w0.heap.size ≤ w.heap.size) : NewI w0 w' v l := by
  obtain ⟨ao, c, hv, hc, hi, hn⟩ := h
  exact ⟨ao, c, hv, hc, hi, fun a e => ⟨Nat.le_trans hs (hn a e).1, (hn a e).2⟩⟩

/-! ### First -/

def FirstR (o : Prob) : List Int × Int := if errS o = 0 then (firstOf (webOf o), 0) else ([], errS o)

theorem errS_ok {o : Prob} (h : errS o = 0) : chk o = 0 ∧ circB (webOf o) = false := by
  unfold errS at h
  split at h
  · rename_i h1
    cases hc : circB (webOf o)
    · exact ⟨h1, rfl⟩
    · rw [hc] at h; simp at h
  · rename_i h1; exact absurd h h1
theorem webOf_n {o : Prob} (h : chk o = 0) : (webOf o).n ≤ 24 := by have := (pair_of_chk h).2.1; unfold webOf; simp; omega

set_option maxHeartbeats 400000 in
theorem First_any (o : Prob) (ao bo : Option Addr) (ca cb : Nat) (w : World) (ho : IsProb w o ao bo) (hgo : errS o = 0 → Goes (webOf o)) :
    Calls Try.prog 38 #[probV o ao ca bo cb] w (ListErr (FirstR o).1 (FirstR o).2 w) := by
  have HO := Lib.hid ho
  have HGO := Lib.hid hgo
  clear ho hgo
  by_cases h : errS o = 0
  · have hr : FirstR o = (firstOf (webOf o), 0) := by unfold FirstR; rw [if_pos h]
    rw [hr]
    obtain ⟨h1, h2⟩ := errS_ok h
    have H := Lib.hid h
    have H1 := Lib.hid h1
    have H2 := Lib.hid h2
    clear hr h h1 h2
    go_enter Try.func38, Try.ntmps38
    go_wp2_with fail
    obtain ⟨w0, e0, hk0, hb0, -⟩ := alloc_prob w o.N o.arcs o.near ao ca bo cb
    rw [e0]
    clear e0
    have HK0 := Lib.hid hk0
    clear hk0 hb0
    refine (straight_ok o ao bo ca cb w0 (HO.out.kept HK0.out) H1.out H2.out).mono ?_
    rintro e w1 ⟨b, rfl, hw1, hk1⟩
    have HW1 := Lib.hid hw1
    have HK1 := Lib.hid (HK0.out.trans hk1)
    clear hw1 hk1
    go_wp2_with fail
    refine (first_any b (webOf o) w1 HW1.out (webOf_n H1.out) (HGO.out H.out)).mono ?_
    rintro e w2 ⟨v, rfl, hown, hk2⟩
    have HN := Lib.hid (hown.new.from HK1.out.size)
    have HK2 := Lib.hid (HK1.out.trans hk2)
    clear hown hk2
    go_wp2
    go_ret2
    exact ⟨v, rfl, HN.out, HK2.out⟩
  · have hr : FirstR o = ([], errS o) := by unfold FirstR; rw [if_neg h]
    rw [hr]
    have H := Lib.hid h
    have hb : (errS o != 0) = true := by simp [h]
    clear hr h
    go_enter Try.func38, Try.ntmps38
    go_wp2_with fail
    obtain ⟨w0, e0, hk0, hb0, -⟩ := alloc_prob w o.N o.arcs o.near ao ca bo cb
    rw [e0]
    clear e0
    have HK0 := Lib.hid hk0
    clear hk0 hb0
    refine (straight_bad o ao bo ca cb w0 (HO.out.kept HK0.out) H.out).mono ?_
    rintro e w1 ⟨rfl, hk1⟩
    have HK1 := Lib.hid (HK0.out.trans hk1)
    clear hk1
    go_wp2
    go_ret2
    exact ⟨_, rfl, NewI.nil _ _, HK1.out⟩

/-! ### dated, Days -/

/-- What is wrong for E13 and E15. -/
def datErr (o : Prob) (dry : Int) (l : List Int) : Int :=
  if chk o = 0 then (if (0 ≤ dry ∧ dry ≤ 30) ∧ orderedB (webOf o) l = true then 0 else 1) else chk o

theorem ordered_facts {W : Web} {l : List Int} (h : orderedB W l = true) : l.length = W.n ∧ (∀ p ∈ l, 0 ≤ p ∧ p < (W.n : Int)) ∧ l.Nodup := by
  unfold orderedB at h
  simp only [Bool.and_eq_true, decide_eq_true_eq] at h
  obtain ⟨⟨h1, h2⟩, _⟩ := h
  unfold eachB at h2
  have := of_decide_eq_true h2
  exact ⟨h1, this.1, this.2⟩

/-- A web, days, no error. -/
def DatedPost (o : Prob) (dry : Int) (l : List Int) (w : World) (e : Ending) (w' : World) : Prop :=
  ∃ b g, e = .returned (.tuple #[.pointer (some ⟨b, 0, none⟩), .slice (some ⟨g, 0, none⟩) (webOf o).n (webOf o).n, .int .i64 0]) ∧ WebAt w' b (webOf o) ∧ w.heap.size ≤ g ∧ Arr w' g (daysOf (webOf o) dry l) ∧ Kept w w'

set_option maxHeartbeats 800000 in
theorem dated_ok (o : Prob) (ao bo : Option Addr) (ca cb : Nat) (dry : Int) (l : List Int) (lo : Option Addr) (c : Nat) (w : World) (ho : IsProb w o ao bo) (hl : Ints w lo l) (hll : l.length < 1152921504606846976) (hlc : l.length ≤ c)
    (hd : datErr o dry l = 0) : Calls Try.prog 94 #[probV o ao ca bo cb, .int .i64 dry, .slice lo l.length c] w (DatedPost o dry l w) := by
  have hc : chk o = 0 := by
    unfold datErr at hd
    split at hd
    · assumption
    · rename_i h; exact absurd hd h
  have hdo : (0 ≤ dry ∧ dry ≤ 30) ∧ orderedB (webOf o) l = true := by
    unfold datErr at hd
    rw [if_pos hc] at hd
    split at hd
    · assumption
    · cases hd
  obtain ⟨⟨hd0, hd1⟩, hor⟩ := hdo
  obtain ⟨hlen, hin, hnd⟩ := ordered_facts hor
  have h24 := webOf_n hc
  have HO := Lib.hid ho
  have HL := Lib.hid hl
  have HC := Lib.hid hc
  have HOR := Lib.hid hor
  have HIN := Lib.hid hin
  have H24 := Lib.hid h24
  have HLEN := Lib.hid hlen
  clear ho hl hc hor hlen hin hnd hd h24
  have hb : (decide (0 ≤ dry) && decide (dry ≤ 30)) = true := by simp; omega
  have HBB := Lib.hid hb
  clear hb
  go_enter Try.func94, Try.ntmps94
  go_wp2_with fail
  obtain ⟨w0, e0, hk0, hb0, -⟩ := alloc_prob w o.N o.arcs o.near ao ca bo cb
  rw [e0]
  clear e0
  have HK0 := Lib.hid hk0
  clear hk0 hb0
  refine (open_ok o ao bo ca cb w0 (HO.out.kept HK0.out) HC.out).mono ?_
  rintro e w1 ⟨b, rfl, hw1, hk1⟩
  have HW1 := Lib.hid hw1
  have HK1 := Lib.hid (HK0.out.trans hk1)
  clear hw1 hk1
  go_wp2_with fail
  refine (isDry_any dry _).mono ?_
  rintro e w2 ⟨rfl, rfl⟩
  rw [HBB.out]
  go_wp2_with fail
  refine (ordered_any b (webOf o) l lo c _ HW1.out H24.out (HL.out.kept HK1.out) hll).mono ?_
  rintro e w2 ⟨rfl, rfl⟩
  rw [HOR.out]
  go_wp2_with fail
  refine (days_any b (webOf o) dry l lo c w1 HW1.out H24.out (HL.out.kept HK1.out) (by rw [HLEN.out]; exact H24.out) hlc HIN.out hd0 hd1).mono ?_
  rintro e w3 ⟨g, rfl, hg, harr, hk3⟩
  have HA := Lib.hid harr
  have HW3 := Lib.hid (HW1.out.kept hk3)
  have HG := Lib.hid (Nat.le_trans HK1.out.size hg)
  have HK3 := Lib.hid (HK1.out.trans hk3)
  clear harr hg hk3
  go_wp2
  go_ret3
  exact ⟨b, g, rfl, HW3.out, HG.out, HA.out, HK3.out⟩

set_option maxHeartbeats 800000 in
theorem dated_bad (o : Prob) (ao bo : Option Addr) (ca cb : Nat) (dry : Int) (l : List Int) (lo : Option Addr) (c : Nat) (w : World) (ho : IsProb w o ao bo) (hl : Ints w lo l) (hll : l.length < 1152921504606846976)
    (hd : datErr o dry l ≠ 0) : Calls Try.prog 94 #[probV o ao ca bo cb, .int .i64 dry, .slice lo l.length c] w (Gives (.tuple #[.pointer none, .slice none 0 0, .int .i64 (datErr o dry l)]) w) := by
  have HO := Lib.hid ho
  have HL := Lib.hid hl
  clear ho hl
  by_cases hc : chk o = 0
  · have he : datErr o dry l = 1 := by
      unfold datErr at hd ⊢
      rw [if_pos hc] at hd ⊢
      split at hd
      · exact absurd rfl hd
      · rename_i h; rw [if_neg h]
    have hno : ¬ ((0 ≤ dry ∧ dry ≤ 30) ∧ orderedB (webOf o) l = true) := by
      intro h
      unfold datErr at he
      rw [if_pos hc, if_pos h] at he
      cases he
    rw [he]
    have HC := Lib.hid hc
    have H24 := Lib.hid (webOf_n hc)
    have HNO := Lib.hid hno
    clear hd he hno hc
    go_enter Try.func94, Try.ntmps94
    go_wp2_with fail
    obtain ⟨w0, e0, hk0, hb0, -⟩ := alloc_prob w o.N o.arcs o.near ao ca bo cb
    rw [e0]
    clear e0
    have HK0 := Lib.hid hk0
    clear hk0 hb0
    refine (open_ok o ao bo ca cb w0 (HO.out.kept HK0.out) HC.out).mono ?_
    rintro e w1 ⟨b, rfl, hw1, hk1⟩
    have HW1 := Lib.hid hw1
    have HK1 := Lib.hid (HK0.out.trans hk1)
    clear hw1 hk1
    go_wp2_with fail
    refine (isDry_any dry _).mono ?_
    rintro e w2 ⟨rfl, rfl⟩
    cases hdd : (decide (0 ≤ dry) && decide (dry ≤ 30))
    · clear hdd
      go_wp2
      go_ret3
      exact ⟨rfl, HK1.out⟩
    · have HD := Lib.hid hdd
      clear hdd
      go_wp2_with fail
      refine (ordered_any b (webOf o) l lo c _ HW1.out H24.out (HL.out.kept HK1.out) hll).mono ?_
      rintro e w2 ⟨rfl, rfl⟩
      cases hor : orderedB (webOf o) l
      · clear hor
        go_wp2
        go_ret3
        exact ⟨rfl, HK1.out⟩
      · exfalso
        have h := HD.out
        simp at h
        exact HNO.out ⟨h, hor⟩
  · have he : datErr o dry l = chk o := by unfold datErr; rw [if_neg hc]
    rw [he]
    have HC := Lib.hid hc
    have hb : (chk o != 0) = true := by simp [hc]
    clear hd he hc
    go_enter Try.func94, Try.ntmps94
    go_wp2_with fail
    obtain ⟨w0, e0, hk0, hb0, -⟩ := alloc_prob w o.N o.arcs o.near ao ca bo cb
    rw [e0]
    clear e0
    have HK0 := Lib.hid hk0
    clear hk0 hb0
    refine (open_bad o ao bo ca cb w0 (HO.out.kept HK0.out) HC.out).mono ?_
    rintro e w1 ⟨rfl, hk1⟩
    have HK1 := Lib.hid (HK0.out.trans hk1)
    clear hk1
    go_wp2
    go_ret3
    exact ⟨rfl, HK1.out⟩

def DaysR (o : Prob) (dry : Int) (l : List Int) : List Int × Int := if datErr o dry l = 0 then (daysOf (webOf o) dry l, 0) else ([], datErr o dry l)

theorem dayNear_length (W : Web) (dry : Int) (p : Nat) (out : List Int) (q : Int) : (dayNear W dry p out q).length = out.length := by unfold dayNear; split <;> simp
theorem dayStep_length (W : Web) (dry : Int) (l : List Int) (out : List Int) (i : Nat) : (dayStep W dry l out i).length = out.length := by
  unfold dayStep
  have h : ∀ (qs : List Int) (f : List Int), (qs.foldl (dayNear W dry (l.getD i 0).toNat) f).length = f.length := by
    intro qs
    induction qs with
    | nil => intro f; rfl
    | cons q qs ih => intro f; rw [List.foldl_cons, ih, dayNear_length]
  rw [h]; unfold dayFirst; split <;> simp
theorem daysPart_length (W : Web) (dry : Int) (l : List Int) (k : Nat) : (daysPart W dry l k).length = W.n := by
  induction k with
  | zero => simp [daysPart]
  | succ k ih => rw [daysPart_succ, dayStep_length, ih]

set_option maxHeartbeats 400000 in
theorem Days_any (o : Prob) (ao bo : Option Addr) (ca cb : Nat) (dry : Int) (l : List Int) (lo : Option Addr) (c : Nat) (w : World) (ho : IsProb w o ao bo) (hl : Ints w lo l) (hll : l.length < 1152921504606846976) (hlc : l.length ≤ c) :
    Calls Try.prog 32 #[probV o ao ca bo cb, .int .i64 dry, .slice lo l.length c] w (ListErr (DaysR o dry l).1 (DaysR o dry l).2 w) := by
  have HO := Lib.hid ho
  have HL := Lib.hid hl
  clear ho hl
  by_cases h : datErr o dry l = 0
  · have hr : DaysR o dry l = (daysOf (webOf o) dry l, 0) := by unfold DaysR; rw [if_pos h]
    rw [hr]
    have H := Lib.hid h
    clear hr h
    go_enter Try.func32, Try.ntmps32
    go_wp2_with fail
    obtain ⟨w0, e0, hk0, hb0, -⟩ := alloc_prob w o.N o.arcs o.near ao ca bo cb
    rw [e0]
    clear e0
    have HK0 := Lib.hid hk0
    clear hk0 hb0
    refine (dated_ok o ao bo ca cb dry l lo c w0 (HO.out.kept HK0.out) (HL.out.kept HK0.out) hll hlc H.out).mono ?_
    rintro e w1 ⟨b, g, rfl, hw1, hg, harr, hk1⟩
    have hnew := harr.new (w := w) (Nat.le_trans HK0.out.size hg)
    unfold daysOf at hnew
    rw [daysPart_length] at hnew
    have HN := Lib.hid hnew
    have HK1 := Lib.hid (HK0.out.trans hk1)
    clear hw1 hk1 hnew harr hg
    go_wp2
    go_ret2
    exact ⟨_, rfl, HN.out, HK1.out⟩
  · have hr : DaysR o dry l = ([], datErr o dry l) := by unfold DaysR; rw [if_neg h]
    rw [hr]
    have H := Lib.hid h
    clear hr h
    go_enter Try.func32, Try.ntmps32
    go_wp2_with fail
    obtain ⟨w0, e0, hk0, hb0, -⟩ := alloc_prob w o.N o.arcs o.near ao ca bo cb
    rw [e0]
    clear e0
    have HK0 := Lib.hid hk0
    clear hk0 hb0
    refine (dated_bad o ao bo ca cb dry l lo c w0 (HO.out.kept HK0.out) (HL.out.kept HK0.out) hll H.out).mono ?_
    rintro e w1 ⟨rfl, hk1⟩
    have HK1 := Lib.hid (HK0.out.trans hk1)
    clear hk1
    go_wp2
    go_ret2
    exact ⟨_, rfl, NewI.nil _ _, HK1.out⟩

end Go.Proofs.Yteljjkghjbofnaa

/-! SameInts, slices.Index, Standing. -/
set_option maxRecDepth 100000
namespace Go.Proofs.Yteljjkghjbofnaa
open Go Go.Proofs Go.RowKit

theorem take_eq_of_ne {α : Type} [DecidableEq α] {la lb : List α} {k : Nat} (ha : k < la.length) (hb : k < lb.length) (h : la[k] ≠ lb[k]) : decide (la = lb) = false := by
  rw [decide_eq_false_iff_not]
  rintro rfl
  exact h rfl
theorem take_succ_eq {α : Type} {la lb : List α} {k : Nat} (ha : k < la.length) (hb : k < lb.length) (h : la[k] = lb[k]) (ht : la.take k = lb.take k) : la.take (k + 1) = lb.take (k + 1) := by
  rw [List.take_succ_eq_append_getElem ha, List.take_succ_eq_append_getElem hb, ht, h]

set_option maxHeartbeats 800000 in
theorem SameInts_any (la lb : List Int) (ao bo : Option Addr) (ca cb : Nat) (w : World) (ha : Ints w ao la) (hb : Ints w bo lb) (hla : la.length < 1152921504606846976) (hlb : lb.length < 1152921504606846976) :
    Calls Try.prog 30 #[.slice ao la.length ca, .slice bo lb.length cb] w (Gives (.bool (decide (la = lb))) w) := by
  by_cases hlen : la.length = lb.length
  · have hb0 : ((la.length : Int) != (lb.length : Int)) = false := by simp [hlen]
    have HLEN := Lib.hid hlen
    have HA := Lib.hid ha
    have HB := Lib.hid hb
    clear hlen ha hb
    go_enter Try.func30, Try.ntmps30
    go_wp2
    clear hb0
    go_loopw [5] (fun i wr => ∃ k : Nat, k ≤ la.length ∧ i = .int .i64 k ∧ la.take k = lb.take k ∧ Kept w wr) (fun i _ => la.length - (intOf i).toNat)
    case atStart => exact ⟨0, Nat.zero_le _, rfl, by simp, Kept.refl w⟩
    case round =>
      obtain ⟨k, hk, rfl, ht, hkw⟩ := hrel
      have HT := Lib.hid ht
      have HKW := Lib.hid hkw
      clear ht hkw
      by_cases hlt : k < la.length
      · have hlt2 : k < lb.length := by have := HLEN.out; omega
        obtain ⟨B, off, rfl, hc⟩ := (HA.out.kept HKW.out) k hlt
        obtain ⟨B2, off2, rfl, hc2⟩ := (HB.out.kept HKW.out) k hlt2
        by_cases he : la[k] = lb[k]
        · have hne : (la[k] != lb[k]) = false := by simp [he]
          have HE := Lib.hid he
          clear he
          have hki : (k : Int) < (la.length : Int) := by omega
          have hki2 : (k : Int) < (lb.length : Int) := by omega
          go_wp2
          refine region_tail 8 (by kernel_rfl) (by kernel_rfl) ?_
          simp only [List.take_succ_cons, List.take_zero, List.drop_succ_cons, List.drop_zero]
          repeat still_step
          refine wpStill_nil ?_
          go_wp2
          go_roundw
          case rel => exact ⟨k + 1, by omega, by go_num, take_succ_eq hlt hlt2 HE.out HT.out, HKW.out.drew⟩
          case measure => simp [intOf]; omega
        · have hne : (la[k] != lb[k]) = true := by simp [he]
          have HE := Lib.hid he
          clear he
          have hki : (k : Int) < (la.length : Int) := by omega
          have hki2 : (k : Int) < (lb.length : Int) := by omega
          go_wp2
          refine region_tail 8 (by kernel_rfl) (by kernel_rfl) ?_
          simp only [List.take_succ_cons, List.take_zero, List.drop_succ_cons, List.drop_zero]
          repeat still_step
          refine wpStill_nil ?_
          go_wp2
          go_ret
          exact ⟨ret_bool (take_eq_of_ne hlt hlt2 HE.out).symm, HKW.out.drew⟩
      · go_wp2
        go_ret
        refine ⟨ret_bool ?_, HKW.out⟩
        have h := HT.out
        rw [List.take_of_length_le (by omega), List.take_of_length_le (by have := HLEN.out; omega)] at h
        rw [h]; simp
  · have hb0 : ((la.length : Int) != (lb.length : Int)) = true := by simp; omega
    have HLEN := Lib.hid hlen
    clear hlen ha hb
    go_enter Try.func30, Try.ntmps30
    go_wp2
    go_ret
    refine ⟨ret_bool ?_, Kept.refl w⟩
    rw [Eq.comm, decide_eq_false_iff_not]
    rintro rfl
    exact HLEN.out rfl

theorem idxOf_getElem_le (l : List Int) : ∀ (k : Nat) (h : k < l.length), l.idxOf l[k] ≤ k := by
  induction l with
  | nil => intro k h; simp at h
  | cons x l ih =>
    intro k h
    cases k with
    | zero => simp
    | succ k =>
      have := ih k (by simpa using h)
      simp only [List.getElem_cons_succ, List.idxOf_cons]
      have hk : k < l.length := by simpa using h
      cases x == l[k] <;> simp <;> omega

/-- slices.Index at numbers: the first place at which v stands, if it stands there. -/
theorem Index_any (l : List Int) (ao : Option Addr) (c : Nat) (v : Int) (w : World) (hl : l.length < 1152921504606846976) (hp : Ints w ao l) (hv : v ∈ l) :
    Calls Try.prog 95 #[.slice ao l.length c, .int .i64 v] w (Tells (.int .i64 (l.idxOf v : Nat)) w) := by
  have hlt0 := List.idxOf_lt_length_of_mem hv
  have HV := Lib.hid hlt0
  clear hv hlt0
  go_enter Try.func95, Try.ntmps95
  go_wp2
  go_loop [8] (fun i => ∃ k : Nat, k ≤ l.idxOf v ∧ i = .int .i64 k) (fun i => l.length - (intOf i).toNat)
  case atStart => exact ⟨0, Nat.zero_le _, rfl⟩
  case round =>
    obtain ⟨k, hk, rfl⟩ := hrel
    have hlt : k < l.length := by have := HV.out; omega
    obtain ⟨B, off, rfl, hc⟩ := hp k hlt
    have HP := Lib.hid hp
    clear hp
    by_cases he : v = l[k]
    · have hb : (v == l[k]) = true := by simp [he]
      have HE := Lib.hid he
      clear he
      go_wp2
      go_ret
      refine ⟨ret_int ?_, rfl⟩
      have h1 : l.idxOf v ≤ k := by
        rw [HE.out]
        exact idxOf_getElem_le l k hlt
      omega
    · have hb : (v == l[k]) = false := by simp [he]
      have hk1 : k + 1 ≤ l.idxOf v := by
        rcases Nat.lt_or_ge k (l.idxOf v) with h | h
        · exact h
        · exfalso
          have e : l.idxOf v = k := by omega
          have h2 := List.getElem_idxOf (x := v) (xs := l) HV.out
          simp only [e] at h2
          exact he h2.symm
      have HK1 := Lib.hid hk1
      clear he hk1
      go_wp2
      go_round
      case rel => exact ⟨k + 1, HK1.out, by go_num⟩
      case measure => simp [intOf]; omega

/-! ### Standing -/

/-- The standing of a to b in a web. -/
def standW (W : Web) (a b : Nat) : Int := if hasS (W.reach a) b then (if hasS (W.reach b) a then 3 else 1) else (if hasS (W.reach b) a then 2 else 0)
def standP (o : Prob) (a b : Int) : Int :=
  if chk o = 0 ∧ (0 ≤ a ∧ a < o.N) ∧ (0 ≤ b ∧ b < o.N) ∧ a ≠ b then standW (webOf o) a.toNat b.toNat else 0

set_option maxHeartbeats 1600000 in
theorem Standing_any (o : Prob) (ao bo : Option Addr) (ca cb : Nat) (a b : Int) (w : World) (ho : IsProb w o ao bo) :
    Calls Try.prog 24 #[probV o ao ca bo cb, .int .i64 a, .int .i64 b] w (Gives (.int .u8 (standP o a b)) w) := by
  have HO := Lib.hid ho
  clear ho
  by_cases hc : chk o = 0
  · have HC := Lib.hid hc
    have H24 := Lib.hid (webOf_n hc)
    have hN : (((webOf o).n : Nat) : Int) = o.N := by have := (pair_of_chk hc).1; unfold webOf; simp; omega
    have HN := Lib.hid hN
    clear hc hN
    go_enter Try.func24, Try.ntmps24
    go_wp2_with fail
    obtain ⟨w0, e0, hk0, hb0, -⟩ := alloc_prob w o.N o.arcs o.near ao ca bo cb
    rw [e0]
    clear e0
    have HK0 := Lib.hid hk0
    clear hk0 hb0
    refine (open_ok o ao bo ca cb w0 (HO.out.kept HK0.out) HC.out).mono ?_
    rintro e w1 ⟨p, rfl, hw1, hk1⟩
    have HW1 := Lib.hid hw1
    have HK1 := Lib.hid (HK0.out.trans hk1)
    clear hw1 hk1
    go_wp2_with fail
    refine (is_any p (webOf o) a _ HW1.out).mono ?_
    rintro e w2 ⟨rfl, rfl⟩
    rw [HN.out]
    cases ha : (decide (0 ≤ a) && decide (a < o.N))
    · have HA := Lib.hid ha
      clear ha
      go_wp2
      go_ret
      refine ⟨ret_int ?_, HK1.out⟩
      unfold standP
      rw [if_neg]
      rintro ⟨_, h, _⟩
      have h' := HA.out
      simp at h'
      omega
    · have HA := Lib.hid ha
      clear ha
      go_wp2_with fail
      refine (is_any p (webOf o) b _ HW1.out).mono ?_
      rintro e w2 ⟨rfl, rfl⟩
      rw [HN.out]
      cases hb : (decide (0 ≤ b) && decide (b < o.N))
      · have HB := Lib.hid hb
        clear hb
        go_wp2
        go_ret
        refine ⟨ret_int ?_, HK1.out⟩
        unfold standP
        rw [if_neg]
        rintro ⟨_, _, h, _⟩
        have h' := HB.out
        simp at h'
        omega
      · have hA := HA.out
        simp at hA
        simp at hb
        by_cases hab : a = b
        · have hbb : (a == b) = true := by simp [hab]
          have HAB := Lib.hid hab
          clear hab hb hA
          go_wp2
          go_ret
          refine ⟨ret_int ?_, HK1.out⟩
          unfold standP
          rw [if_neg]
          rintro ⟨_, _, _, h⟩
          exact h HAB.out
        · have hbb : (a == b) = false := by simp [hab]
          have hst : standP o a b = standW (webOf o) a.toNat b.toNat := by unfold standP; rw [if_pos ⟨HC.out, hA, hb, hab⟩]
          obtain ⟨x, rfl⟩ := Int.eq_ofNat_of_zero_le hA.1
          obtain ⟨y, rfl⟩ := Int.eq_ofNat_of_zero_le hb.1
          rw [Int.toNat_natCast, Int.toNat_natCast] at hst
          have HSTD := Lib.hid hst
          have hn := H24.out
          have hx24 : x < 24 := by have := HN.out; omega
          have hy24 : y < 24 := by have := HN.out; omega
          have hxi : (x : Int) < 24 := by omega
          have hyi : (y : Int) < 24 := by omega
          have hrx := HW1.out.reach x hx24
          have hry := HW1.out.reach y hy24
          clear hst hab hb hA HA
          go_wp2
          refine region_tail 16 (by kernel_rfl) (by kernel_rfl) ?_
          simp only [List.take_succ_cons, List.take_zero, List.drop_succ_cons, List.drop_zero]
          repeat still_step
          still_call Calls_still (has_any _ y _ (by omega))
          repeat still_step
          still_call Calls_still (has_any _ x _ (by omega))
          refine wpStill_nil ?_
          cases h1 : hasS ((webOf o).reach x) y
          all_goals cases h2 : hasS ((webOf o).reach y) x
          all_goals
            have H1 := Lib.hid h1
            have H2 := Lib.hid h2
            clear h1 h2
            go_wp2
            go_ret
            refine ⟨ret_int (Eq.symm ?_), HK1.out.drew⟩
            rw [HSTD.out]
            unfold standW
            rw [H1.out, H2.out]
            rfl
  · have HC := Lib.hid hc
    have hb : (chk o != 0) = true := by simp [hc]
    clear hc
    go_enter Try.func24, Try.ntmps24
    go_wp2_with fail
    obtain ⟨w0, e0, hk0, hb0, -⟩ := alloc_prob w o.N o.arcs o.near ao ca bo cb
    rw [e0]
    clear e0
    have HK0 := Lib.hid hk0
    clear hk0 hb0
    refine (open_bad o ao bo ca cb w0 (HO.out.kept HK0.out) HC.out).mono ?_
    rintro e w1 ⟨rfl, hk1⟩
    have HK1 := Lib.hid (HK0.out.trans hk1)
    clear hk1
    go_wp2
    go_ret
    exact ⟨ret_int (by simp [standP, HC.out]), HK1.out⟩

end Go.Proofs.Yteljjkghjbofnaa

/-! Plain law: the chains of a web; where there is no circle, some patch may come next. -/
set_option maxRecDepth 100000
namespace Go.Proofs.Yteljjkghjbofnaa
open Go Go.Proofs Go.RowKit

/-! ### Warshall's table -/

theorem stepR_same (c : Nat) (f : Nat → S) (a : Nat) : stepR c f a c = f c := by
  unfold stepR upd
  by_cases h : hasS (f a) c = true
  · rw [if_pos h]
    by_cases e : c = a
    · subst e; simp
    · simp [e]
  · rw [if_neg h]
theorem stepR_val (c : Nat) (f : Nat → S) (a x : Nat) : stepR c f a x = if x = a ∧ hasS (f x) c = true then f x ||| f c else f x := by
  unfold stepR upd
  by_cases h : hasS (f a) c = true
  · rw [if_pos h]
    by_cases e : x = a
    · subst e; simp [h]
    · simp [e]
  · rw [if_neg h]
    by_cases e : x = a
    · subst e; simp [h]
    · simp [e]
theorem partR_same (c : Nat) (f : Nat → S) (k : Nat) : partR c f k c = f c := by
  induction k with
  | zero => rfl
  | succ k ih => rw [partR_succ, stepR_same, ih]
theorem partR_val (c : Nat) (f : Nat → S) (k x : Nat) : partR c f k x = if x < k ∧ hasS (f x) c = true then f x ||| f c else f x := by
  induction k with
  | zero => simp [partR]
  | succ k ih =>
    rw [partR_succ, stepR_val, partR_same]
    by_cases e : x = k
    · subst e
      rw [ih]
      simp
    · rw [if_neg (fun h => e h.1), ih]
      have : x < k + 1 ↔ x < k := by omega
      simp only [this]
theorem partS_step (n : Nat) (f : Nat → S) (c a b : Nat) (ha : a < n) : hasS (partS n f (c + 1) a) b = (hasS (partS n f c a) b || (hasS (partS n f c a) c && hasS (partS n f c c) b)) := by
  rw [partS_succ, partR_val]
  by_cases h : hasS (partS n f c a) c = true
  · rw [if_pos ⟨ha, h⟩, hasS_or, h]; simp
  · rw [if_neg (fun x => h x.2)]
    simp at h
    rw [h]; simp

/-- A chain of arcs leads from a to b. -/
inductive Path (to : Nat → S) (n : Nat) : Nat → Nat → Prop
  | arc {a b : Nat} (h : hasS (to a) b = true) : Path to n a b
  | cons {a m b : Nat} (h : hasS (to a) m = true) (hm : m < n) (h2 : Path to n m b) : Path to n a b
theorem Path.trans {to : Nat → S} {n a m b : Nat} (h : Path to n a m) (hm : m < n) (h2 : Path to n m b) : Path to n a b := by
  induction h with
  | arc h => exact .cons h hm h2
  | cons h hm' _ ih => exact .cons h hm' (ih hm h2)

theorem partS_path (n : Nat) (f : Nat → S) : ∀ (c : Nat), c ≤ n → ∀ a b, a < n → hasS (partS n f c a) b = true → Path f n a b
  | 0, _, a, b, _, h => .arc h
  | c + 1, hc, a, b, ha, h => by
    rw [partS_step n f c a b ha] at h
    simp only [Bool.or_eq_true, Bool.and_eq_true] at h
    rcases h with h | ⟨h1, h2⟩
    · exact partS_path n f c (by omega) a b ha h
    · exact (partS_path n f c (by omega) a c ha h1).trans (by omega) (partS_path n f c (by omega) c b (by omega) h2)
theorem partS_mono (n : Nat) (f : Nat → S) (a b : Nat) (ha : a < n) : ∀ (c : Nat), hasS (f a) b = true → hasS (partS n f c a) b = true
  | 0, h => h
  | c + 1, h => by rw [partS_step n f c a b ha, partS_mono n f a b ha c h]; rfl
theorem partS_trans (n : Nat) (f : Nat → S) : ∀ (c : Nat), c ≤ n → ∀ a m b, a < n → m < c → hasS (partS n f c a) m = true → hasS (partS n f c m) b = true → hasS (partS n f c a) b = true
  | 0, _, a, m, b, _, hm, _, _ => by omega
  | c + 1, hc, a, m, b, ha, hm, h1, h2 => by
    have T := partS_trans n f c (by omega)
    rw [partS_step n f c _ _ ha] at h1 ⊢
    rw [partS_step n f c _ _ (by omega)] at h2
    simp only [Bool.or_eq_true, Bool.and_eq_true] at h1 h2 ⊢
    by_cases e : m = c
    · subst e
      have h1' : hasS (partS n f m a) m = true := by rcases h1 with h | h; exact h; exact h.1
      have h2' : hasS (partS n f m m) b = true := by rcases h2 with h | h; exact h; exact h.2
      exact .inr ⟨h1', h2'⟩
    · have hm' : m < c := by omega
      rcases h1 with h1 | h1 <;> rcases h2 with h2 | h2
      · exact .inl (T a m b ha hm' h1 h2)
      · exact .inr ⟨T a m c ha hm' h1 h2.1, h2.2⟩
      · exact .inr ⟨h1.1, T c m b (by omega) hm' h1.2 h2⟩
      · exact .inr ⟨h1.1, h2.2⟩

/-- The web has the chains of its arcs. -/
structure Woven (W : Web) : Prop where
  arc : ∀ a b, a < W.n → hasS (W.to a) b = true → hasS (W.reach a) b = true
  trans : ∀ a m b, a < W.n → m < W.n → hasS (W.reach a) m = true → hasS (W.reach m) b = true → hasS (W.reach a) b = true
  path : ∀ a b, a < W.n → hasS (W.reach a) b = true → Path W.to W.n a b
theorem woven_of (o : Prob) : Woven (webOf o) :=
  ⟨fun a b ha h => partS_mono _ _ a b ha _ h, fun a m b ha hm h1 h2 => partS_trans _ _ _ (Nat.le_refl _) a m b ha hm h1 h2, fun a b ha h => partS_path _ _ _ (Nat.le_refl _) a b ha h⟩
theorem Woven.iff {W : Web} (h : Woven W) (a b : Nat) (ha : a < W.n) : hasS (W.reach a) b = true ↔ Path W.to W.n a b := by
  refine ⟨h.path a b ha, fun p => ?_⟩
  induction p with
  | arc h1 => exact h.arc _ _ ha h1
  | cons h1 hm _ ih => exact h.trans _ _ _ ha hm (h.arc _ _ ha h1) (ih hm)

theorem circB_false {W : Web} (h : circB W = false) (a : Nat) (ha : a < W.n) : hasS (W.reach a) a = false := by
  unfold circB at h
  rw [List.any_eq_false] at h
  simpa using h a (List.mem_range.2 ha)

/-! ### Something may come next -/

theorem filter_len_lt {α : Type} {p q : α → Bool} {l : List α} (h : ∀ x ∈ l, p x = true → q x = true) {y : α} (hy : y ∈ l) (hp : p y = false) (hq : q y = true) : (l.filter p).length < (l.filter q).length := by
  have hle : ∀ l : List α, (∀ x ∈ l, p x = true → q x = true) → (l.filter p).length ≤ (l.filter q).length := by
    intro l
    induction l with
    | nil => intro _; simp
    | cons z l ih =>
      intro h
      have := ih (fun u hu => h u (List.mem_cons_of_mem _ hu))
      have h1 := h z (List.mem_cons_self ..)
      simp only [List.filter_cons]
      split <;> split <;> simp_all <;> omega
  induction l with
  | nil => cases hy
  | cons x l ih =>
    have h' := fun u hu => h u (List.mem_cons_of_mem _ hu)
    have h1 := h x (List.mem_cons_self ..)
    rcases List.mem_cons.1 hy with rfl | hy
    · have := hle l h'
      simp [hp, hq]; omega
    · have := ih h' hy
      simp only [List.filter_cons]
      split <;> split <;> simp_all <;> omega

/-- Some patch that is not done has to wait for no other one that is not done. -/
theorem first_of {W : Web} (hw : Woven W) (hc : circB W = false) (u : Nat → Bool) : ∀ (k p : Nat), p < W.n → u p = true → ((List.range W.n).filter fun a => u a && hasS (W.reach a) p).length ≤ k →
    ∃ q, q < W.n ∧ u q = true ∧ ∀ a, a < W.n → u a = true → hasS (W.reach a) q = false := by
  intro k
  induction k with
  | zero =>
    intro p hp hu hk
    refine ⟨p, hp, hu, fun a ha hua => ?_⟩
    have h0 := List.eq_nil_of_length_eq_zero (Nat.le_zero.1 hk)
    rw [List.filter_eq_nil_iff] at h0
    have := h0 a (List.mem_range.2 ha)
    simpa [hua] using this
  | succ k ih =>
    intro p hp hu hk
    by_cases h : ∀ a, a < W.n → u a = true → hasS (W.reach a) p = false
    · exact ⟨p, hp, hu, h⟩
    · obtain ⟨a, ha, hua, hr⟩ : ∃ a, a < W.n ∧ u a = true ∧ hasS (W.reach a) p = true := by
        refine Classical.byContradiction fun hn => h fun a ha hua => ?_
        cases hh : hasS (W.reach a) p
        · rfl
        · exact absurd ⟨a, ha, hua, hh⟩ hn
      refine ih a ha hua (Nat.le_of_lt_succ (Nat.lt_of_lt_of_le (filter_len_lt (y := a) (fun x hx hxx => ?_) (List.mem_range.2 ha) ?_ ?_) hk))
      · simp only [Bool.and_eq_true] at hxx ⊢
        exact ⟨hxx.1, hw.trans x a p (List.mem_range.1 hx) ha hxx.2 hr⟩
      · simp [circB_false hc a ha]
      · simp [hua, hr]

theorem goes_of {W : Web} (hn : W.n ≤ 24) (hw : Woven W) (hc : circB W = false) : Goes W := by
  intro l hin hnd hlt h0
  obtain ⟨p, hp, hpl⟩ : ∃ p, p < W.n ∧ ((p : Nat) : Int) ∉ l := by
    refine Classical.byContradiction fun hn' => ?_
    have h2 : ((List.range W.n).map (fun p : Nat => (p : Int))) ⊆ l := by
      intro x hx
      obtain ⟨q, hq, rfl⟩ := List.mem_map.1 hx
      refine Classical.byContradiction fun h => hn' ⟨q, List.mem_range.1 hq, h⟩
    have h3 : ((List.range W.n).map (fun p : Nat => (p : Int))).Nodup := by
      unfold List.Nodup
      rw [List.pairwise_map]
      exact List.nodup_range.imp fun h e => h (by omega)
    have := List.Nodup.length_le_of_subset h3 h2
    simp at this
    omega
  have hs := hasS_setS l (fun q hq => by have := hin q hq; omega)
  obtain ⟨q, hq, huq, hall⟩ := first_of hw hc (fun a => !hasS (setS l) a) _ p hp (by rw [hs]; simpa using hpl) (Nat.le_refl _)
  have : q ∈ readyL W (setS l) := by
    rw [mem_readyL]
    refine ⟨hq, ?_⟩
    unfold readyB
    simp only [Bool.and_eq_true, List.all_eq_true, List.mem_range]
    refine ⟨huq, fun a ha => ?_⟩
    cases hd : hasS (setS l) a
    · have := hall a ha (by simp [hd])
      cases ht : hasS (W.to a) q
      · rfl
      · rw [hw.arc a q ha ht] at this; cases this
    · simp
  rw [h0] at this
  cases this
theorem goes_webOf {o : Prob} (h : errS o = 0) : Goes (webOf o) := by
  obtain ⟨h1, h2⟩ := errS_ok h
  exact goes_of (webOf_n h1) (woven_of o) h2

end Go.Proofs.Yteljjkghjbofnaa
