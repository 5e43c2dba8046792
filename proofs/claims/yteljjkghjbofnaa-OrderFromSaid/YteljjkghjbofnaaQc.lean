/- Maps of pairs: the keys. -/
import Derived.Test.YteljjkghjbofnaaXi
import Derived.Maps.RangeWalk
import Derived.DeepKeys4
set_option maxRecDepth 100000
namespace Go.Proofs.Yteljjkghjbofnaa
open Go Go.ChangeShapes Go.WideShapes Go.ChangeAt Go.RowKit Go.Joins Go.Deep
open Go.Maps (Keyed)

theorem cells83 : Try.prog.cellsOf 83 = 2 := by kernel_rfl
theorem cells3 : Try.prog.cellsOf 3 = 1 := by kernel_rfl
theorem row83 : (83 : TypeId) < Try.prog.types.size := of_decide_eq_true (by kernel_rfl)
theorem wide83 : (match Try.prog.underlying 83 with | some (.array _ _) | some (.struct _) => true | _ => false) = true := by kernel_rfl
theorem law83 : WideMaps.KeyLaw Try.prog 83 := deep_law_laid try_laidOut (m := 2) (by omega) row83 (by kernel_rfl) wide83
theorem keyed83 : Keyed Try.prog 83 := Keyed.of_law law83
theorem keyT83 : Try.prog.keyType 83 = true := by kernel_rfl
theorem fuel83 : ∃ m, Try.prog.types.size + 1 = m + 1 + 1 := ⟨Try.prog.types.size - 1, by have h : (83 : Nat) < Try.prog.types.size := row83; omega⟩
def litP (x : Int × Int) : Lit := .string (keyBytes [.int .i64 x.1, .int .i64 x.2])
def wfI (a : Int) : Prop := (Lit.int .i64 a).wf = true
theorem keyOf_pair {a b : Int} (ha : wfI a) (hb : wfI b) : keyOf Try.prog 83 (.agg #[.int .i64 a, .int .i64 b]) = some (litP (a, b)) := by
  obtain ⟨m, hm⟩ := fuel83
  unfold wfI at ha hb
  unfold keyOf
  rw [hm]
  simp [Try.underlying83, Value.formed, cells83, Program.keyLits, Value.cells, cells3, Try.underlying3, ha, hb, litP, keyT83]
theorem keyOf_pair_inv {v : Value} {kl : Lit} (h : keyOf Try.prog 83 v = some kl) : ∃ x : Int × Int, v = .agg #[.int .i64 x.1, .int .i64 x.2] ∧ wfI x.1 ∧ wfI x.2 := by
  obtain ⟨m, hm⟩ := fuel83
  unfold keyOf at h
  rw [hm] at h
  cases v with
  | agg cs =>
    by_cases hsz : cs.size = 2
    · obtain ⟨l⟩ := cs
      match l, hsz with
      | [u, v], _ =>
        cases u <;> cases v <;> simp [Try.underlying83, Value.formed, cells83, Program.keyLits, Value.cells, cells3, Try.underlying3, keyT83] at h
        rename_i k1 n1 k2 n2 hx
        by_cases h2 : k1 = IntKind.i64 ∧ (Lit.int IntKind.i64 n1).wf = true
        · by_cases h3 : k2 = IntKind.i64 ∧ (Lit.int IntKind.i64 n2).wf = true
          · obtain ⟨rfl, h2⟩ := h2
            obtain ⟨rfl, h3⟩ := h3
            exact ⟨(n1, n2), rfl, h2, h3⟩
          · simp [h2, h3] at h
        · simp [h2] at h
    · simp [Try.underlying83, Value.formed, cells83, hsz] at h
  | _ => simp [Try.underlying83, Value.formed] at h
end Go.Proofs.Yteljjkghjbofnaa
