/- faces.cut. -/
import Derived.Test.YtlglfcdobbocnaaGreatXw
set_option maxRecDepth 100000
namespace Go.Proofs.YtlglfcdobbocnaaGreat
open Go Go.Proofs Go.RowKit
attribute [local go_sem] Oper.semAt_some
theorem info50 : (Tryz.prog.info? 50).map (fun i => (i.zero, i.size, i.bytes)) = some (some (.agg #[.int .i64 0, .int .i64 0, .int .i64 0, .int .i64 0, .int .i64 0, .int .i64 0]), 6, 48) := by kernel_rfl
def prtC (p : Prt) : List Value := [.int .i64 p.s.1.1, .int .i64 p.s.1.2, .int .i64 p.s.2.1, .int .i64 p.s.2.2, .int .i64 p.line, .int .i64 p.src]
theorem prtC_len (p : Prt) : (prtC p).length = 6 := rfl
theorem prtC_one (p : Prt) : ∀ u ∈ prtC p, u.oneCell' = true := fun u hu => by
  simp [prtC] at hu
  rcases hu with rfl | rfl | rfl | rfl | rfl | rfl <;> rfl
/-- A row of parts of one's own. -/
abbrev OwnR (X : World) (base : Nat) (v : Value) (l : List Prt) : Prop := OwnG X base 50 6 prtC v l
theorem OwnG.prts {X : World} {base : Nat} {v : Value} {l : List Prt} (h : OwnR X base v l) : ∃ ao c, v = .slice ao l.length c ∧ Prts X ao l ∧ ∀ x, ao = some x → base ≤ x.block := by
  rcases h.slice prtC_len with ⟨rfl, rfl⟩ | ⟨g, c, rfl, -, hb, -, -, hc⟩
  · exact ⟨none, 0, rfl, fun i hi => by simp at hi, fun x e => by cases e⟩
  · refine ⟨_, _, rfl, fun i hi => ⟨g, 0, rfl, ?_⟩, fun x e => by cases e; exact hb⟩
    have k := fun j u hu => hc i hi j u hu
    refine ⟨?_, ?_, ?_, ?_, ?_, ?_⟩
    · simpa using k 0 _ rfl
    · simpa using k 1 _ rfl
    · simpa using k 2 _ rfl
    · simpa using k 3 _ rfl
    · simpa using k 4 _ rfl
    · simpa using k 5 _ rfl
/-- What a call hands back that makes a list of parts. -/
def MakesR (l : List Prt) (w : World) (e : Ending) (w' : World) : Prop := ∃ v, e = .returned v ∧ OwnR w' w.heap.size v l ∧ Kept w w'
theorem append_prt {ops : Array Oper} {rest : List Oper} {o : Oper} {a : Act} {Q : Exit → Act → World → Prop} (w : World) (hg : o.guard = none) (s x : Operand)
    (ho : o.op = .call { callee := .builtin .append, args := #[s, x], argTypes := #[48, 48] }) (base : Nat) (v : Value) (l : List Prt) (hs : a.eval s = v) (hown : OwnR w base v l)
    (g : Nat) (y : Prt) (hx : a.eval x = .slice (some ⟨g, 0, none⟩) 1 1) (hc : PrtBox w g y) (hl : l.length + 1 < 1099511627776) (hbase : base ≤ w.heap.size)
    (h : ∀ ra rc w', OwnR w' base (.slice ra (l.length + 1) rc) (l ++ [y]) → w.grownBy w' v.ownBlock → (∀ j, (Value.slice ra (l.length + 1) rc).ownBlock = some j → v.ownBlock = some j ∨ j = w.heap.size) → wpList Tryz.prog ops Q rest (a.put o.dst (.slice ra (l.length + 1) rc)) w') :
    wpList Tryz.prog ops Q (o :: rest) a w :=
  append_one Tryz.underlying48 info50 rfl (by omega) (by omega) prtC_len prtC_one w hg s x ho base v l hs hown g y hx (fun j u hu => by
    match j, hu with
    | 0, hu => simp [prtC] at hu; subst hu; exact hc.c0
    | 1, hu => simp [prtC] at hu; subst hu; exact hc.c1
    | 2, hu => simp [prtC] at hu; subst hu; exact hc.c2
    | 3, hu => simp [prtC] at hu; subst hu; exact hc.c3
    | 4, hu => simp [prtC] at hu; subst hu; exact hc.c4
    | 5, hu => simp [prtC] at hu; subst hu; exact hc.c5
    | j + 6, hu => simp [prtC] at hu) hl hbase h
end Go.Proofs.YtlglfcdobbocnaaGreat
