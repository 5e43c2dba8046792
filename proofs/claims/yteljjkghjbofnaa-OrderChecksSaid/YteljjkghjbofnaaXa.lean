/- A range over a function whose iterator hands out slices of its own: one round; the statement. -/
import Derived.Test.YteljjkghjbofnaaWl
set_option maxRecDepth 100000
namespace Go.Proofs.Yteljjkghjbofnaa
open Go Go.Proofs Go.RowKit

section
variable {P : Program}

/-- How the body of a round may be left, said of the world behind the round. -/
def leaves (L : Nat) (rc : LoopState → Option Code → Loop) (Good : World → Prop) (Bad : Code → World → Prop) : Exit → Act → World → Prop
  | .normal, _, Y => Y.heap[L]? = some (.loop (rc .busy none)) ∧ Good (Y.putObj L (.loop (rc .ready none)))
  | .ret, _, Y => Y.heap[L]? = some (.loop (rc .busy none)) ∧ Bad .ret (Y.putObj L (.loop (rc .done (some .ret))))
  | .exit id, _, Y => Y.heap[L]? = some (.loop (rc .busy none)) ∧ Bad (.exit id) (Y.putObj L (.loop (rc .done (some (.exit id)))))
  | .goto t, _, Y => Y.heap[L]? = some (.loop (rc .busy none)) ∧ Bad (.goto t) (Y.putObj L (.loop (rc .done (some (.goto t)))))
  | .panic _, _, _ => False
  | .outgrown, _, _ => False

/-- One round. -/
theorem round_yield {m L D : Nat} {fn : FuncId} {tmps : Array Value} {ps : Array Tmp} {assign body : Code} {args : Array Value} {X : World} (hargs : args.size = ps.size) (rc : LoopState → Option Code → Loop)
    (hrc : rc = fun st pe => { state := st, pending := pe, fn := fn, tmps := tmps, params := ps, assign := assign, body := body, defers := D })
    (hl : X.heap[L]? = some (.loop (rc .ready none))) (a₁ : Act) (Good : World → Prop) (Bad : Code → World → Prop)
    (hassign : ∀ K : Act → World → Prop, K a₁ X → assign.wpIn (Fence.wide.inRound L) m P (Exit.then K (fun _ _ _ => False)) { tmps := (ps.zip args).foldl (fun t (p, v) => t.setIfInBounds p v) tmps, defers := [] } X)
    (hbody : body.wpIn (Fence.wide.inRound L) m P (leaves L rc Good Bad) a₁ (X.putObj L (.loop (rc .busy none)))) :
    YieldAt Fence.wide m P L args X (fun e Y => (e = .returned (.bool true) ∧ Good Y) ∨ (e = .returned (.bool false) ∧ ∃ c, Bad c Y)) := by
  have hy := run_yield (P := P) (args := args) hl (by rw [hrc]; exact hargs)
  rw [hrc] at hy
  refine ⟨fn, _, assign, body, hy, roundIn_of_wpIn trivial (hassign _ ?_)⟩
  refine ⟨_, run_beginRound hl (by rw [hrc]), ?_⟩
  have e : { rc .ready none with state := .busy } = rc .busy none := by rw [hrc]
  rw [e]
  refine Code.wpIn_mono (fun ex a' Y h => ?_) hbody
  have fin : ∀ (jump : Option Code), Y.heap[L]? = some (.loop (rc .busy none)) → (Instr.endRound L jump).run P Y = .ok (.bool jump.isNone) (Y.putObj L (.loop (rc (if jump.isNone then .ready else .done) jump))) := fun jump hl3 => by
    have := run_endRound (P := P) jump hl3
    rw [hrc] at this ⊢
    exact this
  cases ex with
  | normal => exact ⟨_, _, fin none h.1, .inl ⟨rfl, h.2⟩⟩
  | ret => exact ⟨_, _, fin (some .ret) h.1, .inr ⟨rfl, .ret, h.2⟩⟩
  | exit id => exact ⟨_, _, fin (some (.exit id)) h.1, .inr ⟨rfl, .exit id, h.2⟩⟩
  | goto t => exact ⟨_, _, fin (some (.goto t)) h.1, .inr ⟨rfl, .goto t, h.2⟩⟩
  | panic c => exact h.elim
  | outgrown => exact h.elim

/-- The statement. -/
theorem range_wide {g : Operand} {ps : Array Tmp} {assign body : Code} {Q : Exit → Act → World → Prop} {a : Act} {w : World} {gf : Nat} {bd lb : Array Value} (hg : a.eval g = .func (.func gf) bd lb) (eg : ∀ args w, (callFunc gf args).run P w = .ok (.enter gf args) w)
    (h : ∀ (fn : FuncId) (rc : LoopState → Option Code → Loop), rc = (fun st pe => { state := st, pending := pe, fn := fn, tmps := a.tmps, params := ps, assign := assign, body := body, defers := w.heap.size }) →
      Calls P gf (bd ++ #[.func (.yield (w.heap.size + 1)) #[] #[]] ++ lb) ((w.alloc (.deferred (some []))).alloc (.loop (rc .ready none))) fun e Y => (∃ v, e = .returned v) ∧
        ((Y.heap[w.heap.size + 1]? = some (.loop (rc .ready none)) ∧ Q .normal { a with defers := { target := .collected w.heap.size, args := #[] } :: a.defers } (Y.putObj (w.heap.size + 1) (.loop (rc .exhausted none)))) ∨
         (∃ c, Y.heap[w.heap.size + 1]? = some (.loop (rc .done (some c))) ∧ c.wp P Q { a with defers := { target := .collected w.heap.size, args := #[] } :: a.defers } (Y.putObj (w.heap.size + 1) (.loop (rc .exhausted (some c))))))) :
    (Code.rangeFunc g ps assign body).wp P Q a w := by
  refine (wpIn_wide (n := 10)).1 ?_
  refine wpIn_rangeFunc ?_
  intro fn _
  obtain ⟨rc, hrc⟩ : ∃ rc : LoopState → Option Code → Loop, rc = fun st pe => { state := st, pending := pe, fn := fn, tmps := a.tmps, params := ps, assign := assign, body := body, defers := w.heap.size } := ⟨_, rfl⟩
  have hh := h fn rc hrc
  refine ⟨w.heap.size + 1, [{ target := .collected w.heap.size, args := #[] }], (w.alloc (.deferred (some []))).alloc (.loop (rc .ready none)), { target := .fn (.func gf) lb, args := bd ++ #[.func (.yield (w.heap.size + 1)) #[] #[]] }, (w.alloc (.deferred (some []))).alloc (.loop (rc .ready none)), gf,
    bd ++ #[.func (.yield (w.heap.size + 1)) #[] #[]] ++ lb, (w.alloc (.deferred (some []))).alloc (.loop (rc .ready none)), ?_, ?_, ?_, ?_, (fun _ => by decide), ?_⟩
  · rw [hrc]; exact run_enterLoop_outer _ _ _ _ _
  · simp only [resolve, hg]
    simp [go_sem]
  · intro f' _; trivial
  · simp [invoke, go_sem, eg]
  · refine (callsIn_wide.2 hh).mono ?_
    rintro e Y ⟨⟨v, rfl⟩, (⟨hl, hq⟩ | ⟨c, hl, hq⟩)⟩
    · refine ⟨none, _, ?_, hq⟩
      have := run_endLoop (P := P) hl (by rw [hrc]; simp)
      rw [hrc] at this ⊢
      exact this
    · refine ⟨some c, _, ?_, wpIn_wide.2 hq⟩
      have := run_endLoop (P := P) hl (by rw [hrc]; simp)
      rw [hrc] at this ⊢
      exact this
end
end Go.Proofs.Yteljjkghjbofnaa
