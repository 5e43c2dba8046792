/- A problem and a list of pairs that came in, with the bounds of their lengths. -/
import Derived.Test.YteljjkghjbofnaaTg
set_option maxRecDepth 100000
namespace Go.Proofs.Yteljjkghjbofnaa
open Go Go.ChangeShapes Go.WideShapes Go.ChangeAt Go.RowKit Go.Joins Go.Deep

section
variable {H : Type} {enc : TypeId × Value → H} {W W' : World} {sp : Nat → Bool} {held : Bool}
theorem open_arcsB {m : Nat} {v : Value} {y : DataW H × List MemPlace} (h : DataW.trod enc Try.prog W 0 sp held m 22 [v] = some y) :
    ∃ (ao : Option Addr) (c : Nat) (l : List (Int × Int)), v = .slice ao l.length c ∧ Pairs W ao l ∧ l.length ≤ c ∧ l.length < 9223372036854775808 ∧ (ao = none → c = 0) := by
  obtain ⟨ao, c, l, e, hp, hn⟩ := open_arcsN h
  refine ⟨ao, c, l, e, hp, ?_⟩
  rcases open_slice_pairs Try.underlying22 Try.underlying83 (by kernel_rfl) rfl rfl (by kernel_rfl) (by kernel_rfl) h with ⟨h1, -⟩ | ⟨a, len, cap, mm, n, V0, V1, D0, D1, P0, P1, h1, -, hl, hc, hm, -, hx⟩
  · simp only [List.cons.injEq, and_true] at h1
    rw [e] at h1
    simp only [Value.slice.injEq] at h1
    exact ⟨by omega, by omega, hn⟩
  · simp only [List.cons.injEq, and_true] at h1
    rw [e] at h1
    simp only [Value.slice.injEq] at h1
    unfold maxLen at hc
    exact ⟨by omega, by omega, hn⟩
theorem open_probB {b : Nat} {v : Value} {d : DataW H} {p : List MemPlace} (hv : Value.okWide Try.prog W .any b 24 v) (h : DataW.Trod enc Try.prog W 0 sp held 24 v d p) :
    ∃ (o : Prob) (ao bo : Option Addr) (ca cb : Nat), v = probV o ao ca bo cb ∧ Pairs W ao o.arcs ∧ Pairs W bo o.near ∧ (o.arcs.length < 9223372036854775808 ∧ o.near.length < 9223372036854775808) := by
  obtain ⟨c0, c1, c2, y0, y1, y2, n, rfl, -, -, h0, h1, h2⟩ := open_agg3 Try.underlying24 (by kernel_rfl) (by kernel_rfl) hv h
  obtain ⟨x, e0, -, -⟩ := DataW.trod_int Try.underlying3 h0
  obtain ⟨ao, ca, la, rfl, ha, -, h3, -⟩ := open_arcsB h1
  obtain ⟨bo, cb, lb, rfl, hb, -, h4, -⟩ := open_arcsB h2
  simp only [List.cons.injEq, and_true] at e0
  subst e0
  exact ⟨⟨x, la, lb⟩, ao, bo, ca, cb, rfl, ha, hb, h3, h4⟩
theorem open_pairsB {b : Nat} {v : Value} {d : DataW H} {p : List MemPlace} (hv : Value.okWide Try.prog W .any b 22 v) (h : DataW.Trod enc Try.prog W 0 sp held 22 v d p) :
    ∃ (l : List (Int × Int)) (lo : Option Addr) (c : Nat), v = .slice lo l.length c ∧ Pairs W lo l := by
  obtain ⟨n, h⟩ := h
  obtain ⟨a, len, cap, rfl⟩ := okWide_slice Try.underlying22 hv
  obtain ⟨ao, c, l, e, hi, _⟩ := open_arcsB h
  exact ⟨l, ao, c, e, hi⟩
end
end Go.Proofs.Yteljjkghjbofnaa
