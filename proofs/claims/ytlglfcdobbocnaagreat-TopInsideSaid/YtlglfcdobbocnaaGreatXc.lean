/- A range over a function: one round, the statement, the function that holds it; the dart that comes next. -/
import Derived.Test.YtlglfcdobbocnaaGreatXb
set_option maxRecDepth 100000
namespace Go.Proofs.YtlglfcdobbocnaaGreat
open Go Go.Proofs Go.RowKit
attribute [local go_sem] Oper.semAt_some
theorem calls_of_wp_marks {P : Program} {f : FuncId} {fn : Func} {c : Code} {args : Array Value} {w : World} {R : Ending → World → Prop} (hf : P.funcs[f]? = some fn) (hb : fn.body = some c)
    (h : c.wp P (bodyPostM Fence.wide 10 P fn R) { tmps := args ++ Array.replicate (fn.ntmps - args.size) undef, defers := [] } w) : Calls P f args w R :=
  callsIn_wide.1 (callsIn_of_wp_marks (n := 10) hf hb trivial (wpIn_wide.2 h) rfl)

def marks (Ds : List Nat) : List Deferred := Ds.map fun D => { target := .collected D, args := #[] }

/-- The blocks for the rounds' deferred calls have been shut; all else that lay is as it was. -/
structure Shuts (B : Nat) (w w' : World) : Prop where
  os : w'.os = w.os
  tape : w'.tape = w.tape
  output : w'.output = w.output
  size : w'.heap.size = w.heap.size
  low : ∀ k : Nat, k < B → w'.heap[k]? = w.heap[k]?
  cells : ∀ (k : Nat) (c : Array Value) (t : TypeId) (f : Nat × Nat), w.heap[k]? = some (Obj.cells c t f) → w'.heap[k]? = some (Obj.cells c t f)
  maps : ∀ (k : Nat) (e : Array MapEntry) (c : Nat), w.heap[k]? = some (Obj.map e c) → w'.heap[k]? = some (Obj.map e c)

theorem Shuts.refl (B : Nat) (w : World) : Shuts B w w := ⟨rfl, rfl, rfl, rfl, fun _ _ => rfl, fun _ _ _ _ h => h, fun _ _ _ h => h⟩
theorem Shuts.trans {B : Nat} {a b c : World} (h : Shuts B a b) (k : Shuts B b c) : Shuts B a c :=
  ⟨k.os.trans h.os, k.tape.trans h.tape, k.output.trans h.output, k.size.trans h.size, fun i hi => (k.low i hi).trans (h.low i hi), fun i x t f hx => k.cells i x t f (h.cells i x t f hx), fun i e c hx => k.maps i e c (h.maps i e c hx)⟩
theorem Shuts.kept {B : Nat} {w0 w w' : World} (h : Shuts B w w') (hk : Kept w0 w) (hB : w0.heap.size ≤ B) : Kept w0 w' :=
  ⟨h.os.trans hk.below.os, h.tape.trans hk.below.tape, h.output.trans hk.below.output, by rw [h.size]; exact hk.size, fun k hk' => (h.low k (by omega)).trans (hk.below.block k hk')⟩
theorem Shuts.cell {B : Nat} {w w' : World} (h : Shuts B w w') {a : Addr} {v : Value} (hc : w.cell? a = some v) : w'.cell? a = some v := by
  obtain ⟨o, ho, hcells⟩ := cells_of_cell hc
  cases o <;> try (simp [Obj.isCells] at hcells)
  exact (World.cell?_of_block ((h.cells _ _ _ _ ho).trans ho.symm)).trans hc
theorem Shuts.frozen {B : Nat} {w w' : World} (h : Shuts B w w') {a : Addr} {v : Value} (hc : w.cell? a = some v) {o : Nat} : w'.frozen? ⟨a.block, o, none⟩ = w.frozen? ⟨a.block, o, none⟩ := by
  obtain ⟨ob, ho, hcells⟩ := cells_of_cell hc
  cases ob <;> try (simp [Obj.isCells] at hcells)
  exact World.frozen?_of_block ((h.cells _ _ _ _ ho).trans ho.symm)

theorem leaves_marks {P : Program} {fn : Func} {tmps : Array Value} {R : Ending → World → Prop} {B : Nat} : ∀ (Ds : List Nat) (w : World), (∀ D ∈ Ds, B ≤ D ∧ w.heap[D]? = some (.deferred (some []))) → Ds.Nodup →
    (∀ w', Shuts B w w' → ∃ v, (results fn tmps).run P w' = .ok v w' ∧ R (.returned v) w') → LeavesInM Fence.wide 10 P fn tmps R (marks Ds) .returning w
  | [], w, _, _, h => h w (Shuts.refl B w)
  | D :: Ds, w, hD, hnd, h => by
    obtain ⟨hB, hD0⟩ := hD D (by simp)
    have hlt := (Array.getElem?_eq_some_iff.1 hD0).1
    refine ⟨by simp, .inl ⟨D, w.putObj D (.deferred none), rfl, run_takeDeferred hD0, ?_⟩⟩
    refine leaves_marks (B := B) Ds _ (fun D' h' => ?_) (List.nodup_cons.1 hnd).2 (fun w' hs => h w' ?_)
    · have hne : D' ≠ D := fun e => (List.nodup_cons.1 hnd).1 (e ▸ h')
      exact ⟨(hD D' (by simp [h'])).1, (World.putObj_heap_other hne).trans (hD D' (by simp [h'])).2⟩
    · have h1 : Shuts B w (w.putObj D (.deferred none)) := ⟨rfl, rfl, rfl, by simp, fun k hk => World.putObj_heap_other (by omega), fun k c t f hk => ?_, fun k e c hk => ?_⟩
      · exact h1.trans hs
      · refine (World.putObj_heap_other ?_).trans hk
        rintro rfl
        rw [hD0] at hk; cases hk
      · refine (World.putObj_heap_other ?_).trans hk
        rintro rfl
        rw [hD0] at hk; cases hk

section
variable {P : Program}

/-- How the body of a round may be left, said of the world behind the round. -/
def leaves (L : Nat) (rc : LoopState → Option Code → Loop) (Good : World → Prop) (Bad : Code → World → Prop) : Exit → Act → World → Prop
  | .normal, _, Y => Y.heap[L]? = some (.loop (rc .busy none)) ∧ Good (Y.putObj L (.loop (rc .ready none)))
  | .ret, _, Y => Y.heap[L]? = some (.loop (rc .busy none)) ∧ Bad .ret (Y.putObj L (.loop (rc .done (some .ret))))
  | .exit id, _, Y => Y.heap[L]? = some (.loop (rc .busy none)) ∧ Bad (.exit id) (Y.putObj L (.loop (rc .done (some (.exit id)))))
  | .goto t, _, Y => Y.heap[L]? = some (.loop (rc .busy none)) ∧ Bad (.goto t) (Y.putObj L (.loop (rc .done (some (.goto t)))))
  | .panic _, _, _ => False
  | .outgrown, _, _ => False

/-- One round. -/
theorem round_yield {m L D : Nat} {fn : FuncId} {tmps : Array Value} {ps : Array Tmp} {assign body : Code} {args : Array Value} {X : World} (hargs : args.size = ps.size) (rc : LoopState → Option Code → Loop)
    (hrc : rc = fun st pe => { state := st, pending := pe, fn := fn, tmps := tmps, params := ps, assign := assign, body := body, defers := D })
    (hl : X.heap[L]? = some (.loop (rc .ready none))) (a₁ : Act) (Good : World → Prop) (Bad : Code → World → Prop)
    (hassign : ∀ K : Act → World → Prop, K a₁ X → assign.wpIn (Fence.wide.inRound L) m P (Exit.then K (fun _ _ _ => False)) { tmps := (ps.zip args).foldl (fun t (p, v) => t.setIfInBounds p v) tmps, defers := [] } X)
    (hbody : body.wpIn (Fence.wide.inRound L) m P (leaves L rc Good Bad) a₁ (X.putObj L (.loop (rc .busy none)))) :
    YieldAt Fence.wide m P L args X (fun e Y => (e = .returned (.bool true) ∧ Good Y) ∨ (e = .returned (.bool false) ∧ ∃ c, Bad c Y)) := by
  have hy := run_yield (P := P) (args := args) hl (by rw [hrc]; exact hargs)
  rw [hrc] at hy
  refine ⟨fn, _, assign, body, hy, roundIn_of_wpIn trivial (hassign _ ?_)⟩
  refine ⟨_, run_beginRound hl (by rw [hrc]), ?_⟩
  have e : { rc .ready none with state := .busy } = rc .busy none := by rw [hrc]
  rw [e]
  refine Code.wpIn_mono (fun ex a' Y h => ?_) hbody
  have fin : ∀ (jump : Option Code), Y.heap[L]? = some (.loop (rc .busy none)) → (Instr.endRound L jump).run P Y = .ok (.bool jump.isNone) (Y.putObj L (.loop (rc (if jump.isNone then .ready else .done) jump))) := fun jump hl3 => by
    have := run_endRound (P := P) jump hl3
    rw [hrc] at this ⊢
    exact this
  cases ex with
  | normal => exact ⟨_, _, fin none h.1, .inl ⟨rfl, h.2⟩⟩
  | ret => exact ⟨_, _, fin (some .ret) h.1, .inr ⟨rfl, .ret, h.2⟩⟩
  | exit id => exact ⟨_, _, fin (some (.exit id)) h.1, .inr ⟨rfl, .exit id, h.2⟩⟩
  | goto t => exact ⟨_, _, fin (some (.goto t)) h.1, .inr ⟨rfl, .goto t, h.2⟩⟩
  | panic c => exact h.elim
  | outgrown => exact h.elim

/-- The statement. -/
theorem range_wide {g : Operand} {ps : Array Tmp} {assign body : Code} {Q : Exit → Act → World → Prop} {a : Act} {w : World} {gf : Nat} {bd lb : Array Value} (hg : a.eval g = .func (.func gf) bd lb) (eg : ∀ args w, (callFunc gf args).run P w = .ok (.enter gf args) w)
    (h : ∀ (fn : FuncId) (rc : LoopState → Option Code → Loop), rc = (fun st pe => { state := st, pending := pe, fn := fn, tmps := a.tmps, params := ps, assign := assign, body := body, defers := w.heap.size }) →
      Calls P gf (bd ++ #[.func (.yield (w.heap.size + 1)) #[] #[]] ++ lb) ((w.alloc (.deferred (some []))).alloc (.loop (rc .ready none))) fun e Y => (∃ v, e = .returned v) ∧
        ((Y.heap[w.heap.size + 1]? = some (.loop (rc .ready none)) ∧ Q .normal { a with defers := { target := .collected w.heap.size, args := #[] } :: a.defers } (Y.putObj (w.heap.size + 1) (.loop (rc .exhausted none)))) ∨
         (∃ c, Y.heap[w.heap.size + 1]? = some (.loop (rc .done (some c))) ∧ c.wp P Q { a with defers := { target := .collected w.heap.size, args := #[] } :: a.defers } (Y.putObj (w.heap.size + 1) (.loop (rc .exhausted (some c))))))) :
    (Code.rangeFunc g ps assign body).wp P Q a w := by
  refine (wpIn_wide (n := 10)).1 ?_
  refine wpIn_rangeFunc ?_
  intro fn _
  obtain ⟨rc, hrc⟩ : ∃ rc : LoopState → Option Code → Loop, rc = fun st pe => { state := st, pending := pe, fn := fn, tmps := a.tmps, params := ps, assign := assign, body := body, defers := w.heap.size } := ⟨_, rfl⟩
  have hh := h fn rc hrc
  refine ⟨w.heap.size + 1, [{ target := .collected w.heap.size, args := #[] }], (w.alloc (.deferred (some []))).alloc (.loop (rc .ready none)), { target := .fn (.func gf) lb, args := bd ++ #[.func (.yield (w.heap.size + 1)) #[] #[]] }, (w.alloc (.deferred (some []))).alloc (.loop (rc .ready none)), gf,
    bd ++ #[.func (.yield (w.heap.size + 1)) #[] #[]] ++ lb, (w.alloc (.deferred (some []))).alloc (.loop (rc .ready none)), ?_, ?_, ?_, ?_, (fun _ => by decide), ?_⟩
  · rw [hrc]; exact run_enterLoop_outer _ _ _ _ _
  · simp only [resolve, hg]
    simp [go_sem]
  · intro f' _; trivial
  · simp [invoke, go_sem, eg]
  · refine (callsIn_wide.2 hh).mono ?_
    rintro e Y ⟨⟨v, rfl⟩, (⟨hl, hq⟩ | ⟨c, hl, hq⟩)⟩
    · refine ⟨none, _, ?_, hq⟩
      have := run_endLoop (P := P) hl (by rw [hrc]; simp)
      rw [hrc] at this ⊢
      exact this
    · refine ⟨some c, _, ?_, wpIn_wide.2 hq⟩
      have := run_endLoop (P := P) hl (by rw [hrc]; simp)
      rw [hrc] at this ⊢
      exact this
end

/-! ### The next dart -/
theorem ofInt_nat (x : Nat) : BitVec.ofInt 64 (x : Int) = BitVec.ofNat 64 x := by
  apply BitVec.eq_of_toNat_eq
  simp
theorem xor_rev : ∀ d : Nat, d < 1024 → d ^^^ 1 = dRev d := by decide +kernel
theorem bits_xor (d : Nat) (hd : d < 1024) : bits .xor .i64 (d : Int) 1 = ((dRev d : Nat) : Int) := by
  have h : (BitVec.ofNat 64 d ^^^ BitVec.ofNat 64 1).toNat = d ^^^ 1 := by
    rw [BitVec.toNat_xor, BitVec.toNat_ofNat, BitVec.toNat_ofNat, Nat.mod_eq_of_lt (show d < 2 ^ 64 by omega), Nat.mod_eq_of_lt (show 1 < 2 ^ 64 by omega)]
  unfold bits
  show IntKind.i64.wrap ((BitVec.ofInt 64 (d : Int) ^^^ BitVec.ofInt 64 ((1 : Nat) : Int)).toNat : Int) = _
  rw [ofInt_nat, ofInt_nat, h, xor_rev d hd]
  exact IntWalk.i64_in _ (by unfold dRev; split <;> omega)
theorem natL_len (l : List Nat) : (natL l).length = l.length := by unfold natL; simp
theorem natL_mem {l : List Nat} {x : Nat} : (x : Int) ∈ natL l ↔ x ∈ l := by
  unfold natL
  rw [List.mem_map]
  exact ⟨fun ⟨y, hy, e⟩ => by rw [← Int.ofNat.inj e]; exact hy, fun h => ⟨x, h, rfl⟩⟩
theorem natL_idx {l : List Nat} {x : Nat} : (natL l).idxOf (x : Int) = l.idxOf x := by
  unfold natL
  induction l with
  | nil => rfl
  | cons y l ih =>
    rw [List.map_cons, List.idxOf_cons, List.idxOf_cons, ih]
    by_cases h : y = x
    · rw [h]; simp
    · have h2 : ((y : Int) == (x : Int)) = false := by rw [beq_eq_false_iff_ne]; exact fun e => h (Int.ofNat.inj e)
      have h3 : (y == x) = false := by rw [beq_eq_false_iff_ne]; exact h
      rw [h2, h3]
theorem natL_get {l : List Nat} {i : Nat} (h : i < l.length) (h2 : i < (natL l).length) : (natL l)[i] = ((l[i] : Nat) : Int) := by
  simp only [natL, List.getElem_map]
/-- Where the way back lies, and the next one, in memory's numbers. -/
theorem nxt_mem {P : List Pt} {E : List (Nat × Nat)} {d : Nat} (hd : d < 2 * E.length) : ∃ i j, i < (natL (outF P E (dHead E d))).length ∧ j < (natL (outF P E (dHead E d))).length ∧ idxI (natL (outF P E (dHead E d))) ((dRev d : Nat) : Int) = i ∧
    (i + (natL (outF P E (dHead E d))).length - 1) % (natL (outF P E (dHead E d))).length = j ∧ ∀ h : j < (natL (outF P E (dHead E d))).length, (natL (outF P E (dHead E d)))[j] = ((nxtF P E d : Nat) : Int) := by
  obtain ⟨i, hi, r1, h2, e1⟩ := nxt_place (P := P) hd
  have hnd := out_nodup (P := P) (E := E) (dHead E d)
  generalize outF P E (dHead E d) = O at *
  refine ⟨i, _, by rw [natL_len]; exact hi, by rw [natL_len]; exact h2, ?_, by rw [natL_len], fun h => ?_⟩
  · unfold idxI
    rw [if_pos (natL_mem.2 (by rw [← r1]; exact List.getElem_mem hi)), natL_idx]
    have := idxOf_at hi r1 (fun hm => by
      obtain ⟨k, hk, e⟩ := List.mem_iff_getElem.1 hm
      rw [List.length_take] at hk
      rw [List.getElem_take] at e
      have := nodup_inj hnd (i := k) (j := i) (by omega) hi (by rw [e, r1])
      omega)
    rw [this]
  · rw [natL_get h2, e1]
set_option maxHeartbeats 1000000 in
theorem about1_any (g c2 c3 L d : Nat) (P : List Pt) (E : List (Nat × Nat)) (X : World) (h2 : X.cell? ⟨c2, 0, none⟩ = some (.pointer (some ⟨g, 0, none⟩))) (h3 : X.cell? ⟨c3, 0, none⟩ = some (.int .i64 d)) (hW : WebC X g P E) (hd : d < 2 * E.length) (hp : dHead E d < P.length) (hn : E.length ≤ 400)
    (Bad : World → World → Prop) (hy : ∀ Z, Kept X Z → YieldAt Fence.wide 9 Tryz.prog L #[.int .i64 (nxtF P E d)] Z (fun e Y => e = .returned (.bool false) ∧ Bad Z Y)) :
    Calls Tryz.prog 111 #[.func (.yield L) #[] #[], .pointer (some ⟨c2, 0, none⟩), .pointer (some ⟨c3, 0, none⟩)] X (fun e Y => e = .returned (.tuple #[]) ∧ ∃ Z, Kept X Z ∧ Bad Z Y) := by
  have HY := Lib.hid hy
  obtain ⟨b, off, c, a0, -, -, -, a4⟩ := hW.dart hd
  obtain ⟨b', off', c', ao, co, o0, o1, oi⟩ := hW.outs hp
  obtain ⟨i, j, hi, hj, hix, hij, hjx⟩ := nxt_mem (P := P) hd
  have hjx := hjx hj
  have HLN : Hid ((natL (outF P E (dHead E d))).length ≤ 800) := Lib.hid (by
    rw [natL_len]
    have := len_of_sub (l := outF P E (dHead E d)) (m := List.range (2 * E.length)) (out_nodup _) fun x hx => List.mem_range.2 (out_mem.1 hx).1
    simp at this
    omega)
  have hb1 := lt_of_cell a4
  have hb2 := lt_of_cell o1
  have hb3 := lt_of_cell a0
  have hb4 := lt_of_cell h2
  have hb5 := lt_of_cell h3
  have hx1 := bits_xor d (by omega)
  generalize hNX : nxtF P E d = nx at hjx
  have HY : Hid (∀ Z, Kept X Z → YieldAt Fence.wide 9 Tryz.prog L #[.int .i64 (nx : Nat)] Z (fun e Y => e = .returned (.bool false) ∧ Bad Z Y)) := Lib.hid (by rw [← hNX]; exact HY.out)
  clear hNX
  generalize hN : 2 * E.length = N at a0 hd
  generalize hQ : dHead E d = q at a4 o1 hp oi hix hij hi hj hjx HLN
  generalize natL (outF P E q) = M at o1 oi hix hij hi hj hjx HLN
  generalize ((dRev d : Nat) : Int) = r at hix hx1
  have HI := Lib.hid oi
  have HIX := Lib.hid hix
  have HIJ := Lib.hid hij
  have HJX := Lib.hid hjx
  clear hy hW oi hix hij hjx
  have HN : Hid (M.length ≤ 800) := HLN
  refine (callsIn_wide (n := 10)).1 ?_
  refine callsIn_of_wp (n := 10) Tryz.func111 rfl trivial ?_ rfl
  simp only [Tryz.ntmps111, List.size_toArray, List.length_cons, List.length_nil, Nat.reduceAdd, Nat.reduceSub, Array.replicate_succ, Array.replicate_zero, List.push_toArray, List.append_toArray, List.nil_append, List.cons_append]
  have hwf : ∀ f : FuncId, Fence.wide.fn f := fun _ => trivial
  gi_wp2
  refine wpIn_wide.2 ?_
  refine region_tail 13 (by kernel_rfl) (by kernel_rfl) ?_
  simp only [List.take_succ_cons, List.take_zero, List.drop_succ_cons, List.drop_zero]
  repeat still_step
  refine wpStill_nil ?_
  go_wp2
  gi_wp2_with fail
  refine (callsIn_wide.2 (index_any M ao co r _ (by have := HN.out; omega) (HI.out.kept (Kept.refl _).drew))).mono ?_
  rintro e w1 ⟨rfl, rfl⟩
  rw [HIX.out]
  gi_wp2
  clear h2 h3 a0 a4 o0 o1
  gi_loopw [6] (fun iv wr => iv = .int .i64 1 ∧ wr = X.drew) (fun _ _ => 0)
  case atStart => exact ⟨rfl, rfl⟩
  case round =>
    obtain ⟨rfl, rfl⟩ := hrel
    have hn8 := HN.out
    have h1 : (1 : Int) ≤ M.length := by omega
    have hw1 : IntKind.i64.wrap ((i : Int) - 1) = (i : Int) - 1 := IntWalk.i64_in _ (by omega)
    have hw2 : IntKind.i64.wrap ((i : Int) - 1 + M.length) = (i : Int) - 1 + M.length := IntWalk.i64_in _ (by omega)
    have hm : ((i : Int) - 1 + M.length).tmod M.length = (j : Int) := by
      rw [← HIJ.out, show (i : Int) - 1 + M.length = ((i + M.length - 1 : Nat) : Int) by omega]
      exact (Int.ofNat_tmod _ _).symm
    have hne : M ≠ [] := fun h => by rw [h] at hj; simp at hj
    obtain ⟨B, off2, rfl, hc⟩ := (HI.out.kept (Kept.refl _).drew) j hj
    rw [HJX.out] at hc
    obtain ⟨fn, tmps, assign, body, hyy, hR⟩ := HY.out X.drew (Kept.refl _).drew
    have HR := Lib.hid hR
    clear hR
    gi_wp2
    refine HR.out.mono ?_
    rintro e Y ⟨rfl, hB⟩
    have HB := Lib.hid hB
    clear hB hc hyy HR
    gi_wp2
    refine bodyPost_ret (results_none rfl _ _ _) rfl ⟨rfl, _, (Kept.refl X).drew, HB.out⟩
/-- faces.about: a closure over two variables. -/
def AboutPost (g d : Nat) (w : World) (e : Ending) (w' : World) : Prop :=
  ∃ c2 c3, e = .returned (.func (.func 111) #[] #[.pointer (some ⟨c2, 0, none⟩), .pointer (some ⟨c3, 0, none⟩)]) ∧ w'.cell? ⟨c2, 0, none⟩ = some (.pointer (some ⟨g, 0, none⟩)) ∧ w'.cell? ⟨c3, 0, none⟩ = some (.int .i64 d) ∧ Kept w w'
set_option maxHeartbeats 400000 in
theorem about_any (g d : Nat) (w : World) : Calls Tryz.prog 95 #[.pointer (some ⟨g, 0, none⟩), .int .i64 d] w (AboutPost g d w) := by
  go_enter Tryz.func95, Tryz.ntmps95
  go_wp2
  go_ret
  exact ⟨w.heap.size, w.heap.size + 1, rfl, by simp [go_sem], by simp [go_sem], ((Kept.refl w).alloc _).alloc _⟩
theorem load3 {w : World} {k : Nat} {x : Int} (h : w.cell? ⟨k, 0, none⟩ = some (.int .i64 x)) : (loadVar 3 ⟨k, 0, none⟩).run Tryz.prog w = .ok (.int .i64 x) w := by
  simp [go_sem, h]
set_option maxHeartbeats 1000000 in
theorem next_any (g d : Nat) (P : List Pt) (E : List (Nat × Nat)) (w : World) (hW : WebC w g P E) (hd : d < 2 * E.length) (hp : dHead E d < P.length) (hn : E.length ≤ 400) :
    Calls Tryz.prog 74 #[.pointer (some ⟨g, 0, none⟩), .int .i64 d] w (Gives (.int .i64 (nxtF P E d : Nat)) w) := by
  have HW := Lib.hid hW
  clear hW
  obtain ⟨w0, hw0⟩ : ∃ w0, w.alloc (.cells #[.int .i64 0] 3) = w0 := ⟨_, rfl⟩
  have HK0 : Hid (Kept w w0) := Lib.hid (by rw [← hw0]; exact (Kept.refl w).alloc _)
  refine calls_of_wp_marks Tryz.func74 rfl ?_
  simp only [Tryz.ntmps74, List.size_toArray, List.length_cons, List.length_nil, Nat.reduceAdd, Nat.reduceSub, Array.replicate_succ, Array.replicate_zero, List.push_toArray, List.append_toArray, List.nil_append, List.cons_append]
  go_wp2_with fail
  refine (about_any g d w0).mono ?_
  rintro e w1 ⟨c2, c3, rfl, h2, h3, hk⟩
  have HK1 := Lib.hid (HK0.out.trans hk)
  go_wp2
  obtain ⟨g4, hg4⟩ : ∃ g4, w.heap.size = g4 := ⟨_, rfl⟩
  obtain ⟨D, hD⟩ : ∃ D, w1.heap.size = D := ⟨_, rfl⟩
  have hc4 : w1.cell? ⟨g4, 0, none⟩ = some (.int .i64 0) := hk.cell (by rw [← hw0, ← hg4]; simp [go_sem])
  have hf4 : w1.frozen? ⟨g4, 0, none⟩ = false := (hk.cells.2 _ 0 (by rw [← hw0, ← hg4]; simp)).trans (by rw [← hw0, ← hg4]; simp [go_sem])
  have hlt4 : g4 < D := by rw [← hD]; exact lt_of_cell hc4
  have HNX : Hid (∃ nx, nxtF P E d = nx) := Lib.hid ⟨_, rfl⟩
  clear hk hw0
  refine range_wide rfl (fun args w => rfl) ?_
  intro fn rc hrc
  rw [hD, hg4]
  obtain ⟨w2, hw2⟩ : ∃ w2, (w1.alloc (.deferred (some []))).alloc (.loop (rc .ready none)) = w2 := ⟨_, rfl⟩
  rw [hw2]
  have hk2 : Kept w1 w2 := by rw [← hw2]; exact ((Kept.refl w1).alloc _).alloc _
  have hL2 : w2.heap[D + 1]? = some (.loop (rc .ready none)) := by
    have := World.alloc_heap_new (w1.alloc (.deferred (some []))) (.loop (rc .ready none))
    rw [World.size_alloc, hD, hw2] at this
    exact this
  have hD2 : w2.heap[D]? = some (.deferred (some [])) := by
    have := World.alloc_heap_new w1 (.deferred (some []))
    rw [hD] at this
    rw [← hw2]
    exact (Below.heap_alloc _ _ _ (by simp [hD])).trans this
  have hs2 : w2.heap.size = D + 2 := by rw [← hw2]; simp [hD]
  have HRC := Lib.hid hrc
  have HK1' : Hid (Kept w w1) := HK1
  refine (about1_any g c2 c3 (D + 1) d P E w2 (hk2.cell h2) (hk2.cell h3) (HW.out.kept (HK1.out.trans hk2)) hd hp hn (fun _ Y => Y.heap[D + 1]? = some (.loop (rc .done (some .ret))) ∧ Y.heap[D]? = some (.deferred (some [])) ∧ Y.cell? ⟨g4, 0, none⟩ = some (.int .i64 (nxtF P E d : Nat)) ∧ Kept w Y) ?_).mono ?_
  · intro Z hZ
    have hLZ : Z.heap[D + 1]? = some (.loop (rc .ready none)) := (hZ.below.block _ (by omega)).trans hL2
    have hDZ : Z.heap[D]? = some (.deferred (some [])) := (hZ.below.block _ (by omega)).trans hD2
    have hcZ := hZ.cell (hk2.cell hc4)
    have hfZ : Z.frozen? ⟨g4, 0, none⟩ = false := (hZ.cells.2 _ 0 (by omega)).trans ((hk2.cells.2 _ 0 (by omega)).trans hf4)
    have hKZ : Kept w Z := (HK1.out.trans hk2).trans hZ
    generalize nxtF P E d = nx
    refine YieldAt.mono (round_yield (m := 9) (args := #[.int .i64 (nx : Nat)]) rfl rc hrc hLZ ?a1 (fun _ => False)
      (fun cd Y => cd = .ret ∧ Y.heap[D + 1]? = some (.loop (rc .done (some .ret))) ∧ Y.heap[D]? = some (.deferred (some [])) ∧ Y.cell? ⟨g4, 0, none⟩ = some (.int .i64 (nx : Nat)) ∧ Kept w Y) ?assign ?body) ?fin
    case fin =>
      rintro e Y (⟨rfl, h1⟩ | ⟨rfl, cd, -, h1⟩)
      · exact h1.elim
      · exact ⟨rfl, h1⟩
    case assign =>
      intro K hK
      gi_wp2
      exact hK
    case body =>
      have hX4 : (Z.putObj (D + 1) (.loop (rc .busy none))).cell? ⟨g4, 0, none⟩ = some (.int .i64 0) := (World.cell?_of_block (World.putObj_heap_other (by simp; omega))).trans hcZ
      have hX5 : (Z.putObj (D + 1) (.loop (rc .busy none))).frozen? ⟨g4, 0, none⟩ = false := (World.frozen?_of_block (World.putObj_heap_other (by simp; omega))).trans hfZ
      obtain ⟨X0, hX0⟩ : ∃ X0, Z.putObj (D + 1) (.loop (rc .busy none)) = X0 := ⟨_, rfl⟩
      rw [hX0] at hX4 hX5 ⊢
      have HX0 := Lib.hid hX0
      clear hX0 hrc
      gi_wp2
      have hh1 : (X0.setCell ⟨g4, 0, none⟩ (.int .i64 (nx : Nat))).heap[D + 1]? = some (.loop (rc .busy none)) := by
        rw [heap_setCell_other _ _ _ _ (by simp; omega), ← HX0.out]
        exact World.putObj_heap_same (by have := hZ.size; omega)
      have hsz : (X0.setCell ⟨g4, 0, none⟩ (.int .i64 (nx : Nat))).heap.size = Z.heap.size := by rw [← HX0.out]; simp
      refine ⟨hh1, rfl, World.putObj_heap_same (by rw [hsz]; have := hZ.size; omega), ?_, ?_, ?_⟩
      · rw [World.putObj_heap_other (by omega), heap_setCell_other _ _ _ _ (by simp; omega), ← HX0.out, World.putObj_heap_other (by omega)]
        exact hDZ
      · exact (World.cell?_of_block (World.putObj_heap_other (by simp; omega))).trans (cell_set_same hX4)
      · have k1 : Kept w X0 := by rw [← HX0.out]; exact hKZ.grown (grownBy_putObj' Z (D + 1) _) (fun r e => by cases e; omega)
        exact (k1.setCell (p := ⟨g4, 0, none⟩) (Nat.le_of_eq hg4) _).grown (grownBy_putObj' _ (D + 1) _) (fun r e => by cases e; omega)
  · rintro e Y ⟨rfl, Z, hZ, hl, hd0, hc, hk⟩
    refine ⟨⟨_, rfl⟩, .inr ⟨.ret, hl, ?_⟩⟩
    have h1 : (Y.putObj (D + 1) (.loop (rc .exhausted (some .ret)))).heap[D]? = some (.deferred (some [])) := by rw [World.putObj_heap_other (by omega)]; exact hd0
    have h2 : (Y.putObj (D + 1) (.loop (rc .exhausted (some .ret)))).cell? ⟨g4, 0, none⟩ = some (.int .i64 (nxtF P E d : Nat)) := (World.cell?_of_block (World.putObj_heap_other (by simp; omega))).trans hc
    have h3 : Kept w (Y.putObj (D + 1) (.loop (rc .exhausted (some .ret)))) := hk.grown (grownBy_putObj' Y (D + 1) _) (fun r e => by cases e; omega)
    generalize Y.putObj (D + 1) (.loop (rc .exhausted (some .ret))) = Y2 at h1 h2 h3 ⊢
    go_wp2
    refine leaves_marks (B := D) [D] _ (fun D' hD' => by simp at hD'; subst hD'; exact ⟨Nat.le_refl _, h1⟩) (by simp) (fun w' hs => ⟨_, results_cell rfl _ _ ⟨g4, 0, none⟩ rfl _ (load3 (hs.cell h2)), ?_⟩)
    exact ⟨rfl, hs.kept h3 (by omega)⟩
end Go.Proofs.YtlglfcdobbocnaaGreat
