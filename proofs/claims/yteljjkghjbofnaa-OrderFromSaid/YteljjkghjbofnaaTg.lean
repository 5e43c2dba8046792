/- A problem that came in, and that a nil list has no room. -/
import Derived.Test.YteljjkghjbofnaaYr
set_option maxRecDepth 100000
namespace Go.Proofs.Yteljjkghjbofnaa
open Go Go.ChangeShapes Go.WideShapes Go.ChangeAt Go.RowKit Go.Joins Go.Deep

section
variable {H : Type} {enc : TypeId × Value → H} {W W' : World} {sp : Nat → Bool} {held : Bool}
theorem open_arcsN {m : Nat} {v : Value} {y : DataW H × List MemPlace} (h : DataW.trod enc Try.prog W 0 sp held m 22 [v] = some y) :
    ∃ (ao : Option Addr) (c : Nat) (l : List (Int × Int)), v = .slice ao l.length c ∧ Pairs W ao l ∧ (ao = none → c = 0) := by
  rcases open_slice_pairs Try.underlying22 Try.underlying83 (by kernel_rfl) rfl rfl (by kernel_rfl) (by kernel_rfl) h with ⟨h1, -⟩ | ⟨a, len, cap, mm, n, V0, V1, D0, D1, P0, P1, h1, -, hl, -, hm, -, hx⟩
  · simp only [List.cons.injEq, and_true] at h1
    exact ⟨none, 0, [], h1, Pairs.nil _ _, fun _ => rfl⟩
  · obtain ⟨ao, c, l, e, hp⟩ := open_arcs h
    refine ⟨ao, c, l, e, hp, fun hn => ?_⟩
    simp only [List.cons.injEq, and_true] at h1
    rw [e, hn] at h1
    cases h1
theorem open_probN {b : Nat} {v : Value} {d : DataW H} {p : List MemPlace} (hv : Value.okWide Try.prog W .any b 24 v) (h : DataW.Trod enc Try.prog W 0 sp held 24 v d p) :
    ∃ (o : Prob) (ao bo : Option Addr) (ca cb : Nat), v = probV o ao ca bo cb ∧ Pairs W ao o.arcs ∧ Pairs W bo o.near ∧ (bo = none → cb = 0) := by
  obtain ⟨c0, c1, c2, y0, y1, y2, n, rfl, -, -, h0, h1, h2⟩ := open_agg3 Try.underlying24 (by kernel_rfl) (by kernel_rfl) hv h
  obtain ⟨x, e0, -, -⟩ := DataW.trod_int Try.underlying3 h0
  obtain ⟨ao, ca, la, rfl, ha⟩ := open_arcs h1
  obtain ⟨bo, cb, lb, rfl, hb, hn⟩ := open_arcsN h2
  simp only [List.cons.injEq, and_true] at e0
  subst e0
  exact ⟨⟨x, la, lb⟩, ao, bo, ca, cb, rfl, ha, hb, hn⟩
end
end Go.Proofs.Yteljjkghjbofnaa
