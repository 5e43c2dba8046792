/- A problem that came in: a nil list has no room, for both lists; with bounds of the lengths. -/
import Derived.Test.YteljjkghjbofnaaTg
import Derived.Test.YteljjkghjbofnaaWl
set_option maxRecDepth 100000
namespace Go.Proofs.Yteljjkghjbofnaa
open Go Go.ChangeShapes Go.WideShapes Go.ChangeAt Go.RowKit Go.Joins Go.Deep

section
variable {H : Type} {enc : TypeId × Value → H} {W W' : World} {sp : Nat → Bool} {held : Bool}
theorem open_probNN {b : Nat} {v : Value} {d : DataW H} {p : List MemPlace} (hv : Value.okWide Try.prog W .any b 24 v) (h : DataW.Trod enc Try.prog W 0 sp held 24 v d p) :
    ∃ (o : Prob) (ao bo : Option Addr) (ca cb : Nat), v = probV o ao ca bo cb ∧ Pairs W ao o.arcs ∧ Pairs W bo o.near ∧ (ao = none → ca = 0) ∧ (bo = none → cb = 0) := by
  obtain ⟨c0, c1, c2, y0, y1, y2, n, rfl, -, -, h0, h1, h2⟩ := open_agg3 Try.underlying24 (by kernel_rfl) (by kernel_rfl) hv h
  obtain ⟨x, e0, -, -⟩ := DataW.trod_int Try.underlying3 h0
  obtain ⟨ao, ca, la, rfl, ha, hna⟩ := open_arcsN h1
  obtain ⟨bo, cb, lb, rfl, hb, hn⟩ := open_arcsN h2
  simp only [List.cons.injEq, and_true] at e0
  subst e0
  exact ⟨⟨x, la, lb⟩, ao, bo, ca, cb, rfl, ha, hb, hna, hn⟩
theorem open_probNNB {b : Nat} {v : Value} {d : DataW H} {p : List MemPlace} (hv : Value.okWide Try.prog W .any b 24 v) (h : DataW.Trod enc Try.prog W 0 sp held 24 v d p) :
    ∃ (o : Prob) (ao bo : Option Addr) (ca cb : Nat), v = probV o ao ca bo cb ∧ Pairs W ao o.arcs ∧ Pairs W bo o.near ∧ (ao = none → ca = 0) ∧ (bo = none → cb = 0) ∧ (o.arcs.length < 9223372036854775808 ∧ o.near.length < 9223372036854775808) := by
  obtain ⟨c0, c1, c2, y0, y1, y2, n, rfl, -, -, h0, h1, h2⟩ := open_agg3 Try.underlying24 (by kernel_rfl) (by kernel_rfl) hv h
  obtain ⟨x, e0, -, -⟩ := DataW.trod_int Try.underlying3 h0
  obtain ⟨ao, ca, la, rfl, ha, -, h3, hna⟩ := open_arcsB h1
  obtain ⟨bo, cb, lb, rfl, hb, -, h4, hnb⟩ := open_arcsB h2
  simp only [List.cons.injEq, and_true] at e0
  subst e0
  exact ⟨⟨x, la, lb⟩, ao, bo, ca, cb, rfl, ha, hb, hna, hnb, h3, h4⟩
theorem open_listN {m : Nat} {v : Value} {y : DataW H × List MemPlace} (h : DataW.trod enc Try.prog W 0 sp held m 31 [v] = some y) :
    ∃ (ao : Option Addr) (c : Nat) (l : List Int), v = .slice ao l.length c ∧ Ints W ao l ∧ l.length ≤ c ∧ (ao = none → c = 0) := by
  obtain ⟨ao, c, l, e, hi, hc⟩ := open_listC h
  refine ⟨ao, c, l, e, hi, hc, fun hn => ?_⟩
  rcases ChangeShapes.open_ints Try.underlying31 Try.underlying3 (by kernel_rfl) h with ⟨h1, -⟩ | ⟨a', len', cap', zs, h1, -, hl, -, hz, -, hx, -⟩
  · simp only [List.cons.injEq, and_true] at h1
    rw [e] at h1
    simp only [Value.slice.injEq] at h1
    exact h1.2.2
  · simp only [List.cons.injEq, and_true] at h1
    rw [e, hn] at h1
    cases h1
theorem open_seqN {b : Nat} {v : Value} {d : DataW H} {p : List MemPlace} (hv : Value.okWide Try.prog W .any b 31 v) (h : DataW.Trod enc Try.prog W 0 sp held 31 v d p) :
    ∃ (l : List Int) (lo : Option Addr) (c : Nat), v = .slice lo l.length c ∧ Ints W lo l ∧ l.length ≤ c ∧ (lo = none → c = 0) := by
  obtain ⟨n, h⟩ := h
  obtain ⟨a, len, cap, rfl⟩ := okWide_slice Try.underlying31 hv
  obtain ⟨ao, c, l, e, hi, hc, hn⟩ := open_listN h
  exact ⟨l, ao, c, e, hi, hc, hn⟩
theorem open_pair {b : Nat} {v : Value} {d : DataW H} {p : List MemPlace} (hv : Value.okWide Try.prog W .any b 83 v) (h : DataW.Trod enc Try.prog W 0 sp held 83 v d p) : ∃ x1 x2 : Int, v = .agg #[.int .i64 x1, .int .i64 x2] := by
  obtain ⟨cs, rfl, hsz⟩ := okWide_struct Try.underlying83 hv
  have hsz2 : cs.size = 2 := hsz.trans (by kernel_rfl)
  obtain ⟨c0, c1, rfl⟩ : ∃ c0 c1, cs = #[c0, c1] := by
    obtain ⟨l⟩ := cs
    match l, hsz2 with
    | [c0, c1], _ => exact ⟨c0, c1, rfl⟩
  obtain ⟨fuel, hf⟩ := h
  obtain ⟨y0, y1, n, hx, _, h0, h1⟩ := trod_struct2 Try.underlying83 hf
  obtain ⟨x1, e1, -, -⟩ := DataW.trod_int Try.underlying3 h0
  obtain ⟨x2, e2, -, -⟩ := DataW.trod_int Try.underlying3 h1
  have k3 : Try.prog.cellsOf 3 = 1 := by kernel_rfl
  simp [k3, Value.cells] at e1 e2
  exact ⟨x1, x2, by rw [e1, e2]⟩
end
end Go.Proofs.Yteljjkghjbofnaa
