/- A list of lists of numbers that came in. -/
import Derived.Test.YteljjkghjbofnaaKo
import Derived.Test.YteljjkghjbofnaaYr
import Derived.Test.YteljjkghjbofnaaPd
set_option maxRecDepth 100000
namespace Go.Proofs.Yteljjkghjbofnaa
open Go Go.ChangeShapes Go.WideShapes Go.ChangeAt Go.RowKit Go.Joins Go.Deep

section
variable {H : Type} {enc : TypeId × Value → H} {W W' : World} {sp : Nat → Bool} {held : Bool}
theorem open_lists {b : Nat} {v : Value} {d : DataW H} {p : List MemPlace} (hv : Value.okWide Try.prog W .any b 70 v) (h : DataW.Trod enc Try.prog W 0 sp held 70 v d p) :
    ∃ (chs : List (List Int)) (co : Option Addr) (cc : Nat), v = .slice co chs.length cc ∧ Chs W co chs := by
  obtain ⟨n, h⟩ := h
  obtain ⟨a, len, cap, rfl⟩ := okWide_slice Try.underlying70 hv
  rcases open_slice1 Try.underlying70 (by kernel_rfl) h with ⟨h1, -⟩ | ⟨a, len, cap, m, n, V, D, Pl, h1, -, hl, -, hm, -, hx⟩
  · simp only [Value.cells, List.cons.injEq, and_true] at h1
    have h2 := h1
    simp at h2
    obtain ⟨rfl, rfl, rfl⟩ := h2
    exact ⟨[], none, 0, rfl, fun i hi => by simp at hi⟩
  · have h2 := h1
    simp [Value.cells] at h2
    obtain ⟨rfl, rfl, rfl⟩ := h2
    have hlm : len ≤ m := by rw [hm]; split <;> omega
    have key : ∀ i, i < len → ∃ q : Option Addr × Nat × List Int, W.cell? (a.add i) = some (.slice q.1 q.2.2.length q.2.1) ∧ Ints W q.1 q.2.2 ∧ (q.1 = none → q.2.1 = 0) ∧ q.2.2.length ≤ q.2.1 := fun i hi => by
      obtain ⟨c0, t0⟩ := hx i (by omega)
      obtain ⟨ao, c, l, e, h3, h4, h5⟩ := open_listN t0
      rw [e] at c0
      exact ⟨(ao, c, l), c0, h3, h5, h4⟩
    obtain ⟨q, hq⟩ := choose_lt key
    refine ⟨(List.range len).map fun i => (q i).2.2, some a, cap, by simp, fun i hi => ?_⟩
    have hi' : i < len := by simpa using hi
    obtain ⟨b, o, rfl⟩ := addr_none rfl (hq 0 (by omega)).1
    have e : ((List.range len).map fun i => (q i).2.2)[i] = (q i).2.2 := by simp
    rw [e]
    obtain ⟨g0, g1, g2, g3⟩ := hq i hi'
    rw [add_none] at g0
    exact ⟨b, o, _, _, rfl, g0, g1, g2, g3⟩
end
end Go.Proofs.Yteljjkghjbofnaa
