/- More of the laws' inputs opened: numbers, lists with their room; four arguments. -/
import Derived.Test.YteljjkghjbofnaaXi
set_option maxRecDepth 100000
namespace Go.Proofs.Yteljjkghjbofnaa
open Go Go.ChangeShapes Go.WideShapes Go.ChangeAt Go.RowKit Go.Joins Go.Deep

section
variable {H : Type} {enc : TypeId × Value → H} {W W' : World} {sp : Nat → Bool} {held : Bool} {base : Nat}
theorem open_int {v : Value} (hv : Value.okWide Try.prog W .any base 3 v) : ∃ x, v = .int .i64 x := WideShapes.okWide_int Try.underlying3 hv
theorem open_listC {m : Nat} {v : Value} {y : DataW H × List MemPlace} (h : DataW.trod enc Try.prog W 0 sp held m 31 [v] = some y) :
    ∃ (ao : Option Addr) (c : Nat) (l : List Int), v = .slice ao l.length c ∧ Ints W ao l ∧ l.length ≤ c := by
  rcases ChangeShapes.open_ints Try.underlying31 Try.underlying3 (by kernel_rfl) h with ⟨h1, -⟩ | ⟨a, len, cap, zs, h1, -, hl, -, hz, -, hx, -⟩
  · simp only [List.cons.injEq, and_true] at h1
    exact ⟨none, 0, [], h1, Ints.nil _ _, Nat.le_refl _⟩
  · simp only [List.cons.injEq, and_true] at h1
    have hlm : len ≤ zs.length := by rw [hz]; split <;> omega
    have hlen : (zs.take len).length = len := by simp; omega
    refine ⟨some a, cap, zs.take len, by rw [h1, hlen], fun i hi => ?_, by rw [hlen]; omega⟩
    have hi' : i < zs.length := by omega
    have hc := hx i hi'
    obtain ⟨b, o, rfl⟩ := addr_none rfl (hx 0 (by omega))
    refine ⟨b, o, rfl, ?_⟩
    have e : (zs.take len)[i] = zs.getD i 0 := by rw [List.getElem_take, List.getD_eq_getElem?_getD, List.getElem?_eq_getElem hi']; rfl
    rw [e, ← add_none]
    exact hc
theorem open_seqC {b : Nat} {v : Value} {d : DataW H} {p : List MemPlace} (hv : Value.okWide Try.prog W .any b 31 v) (h : DataW.Trod enc Try.prog W 0 sp held 31 v d p) :
    ∃ (l : List Int) (lo : Option Addr) (c : Nat), v = .slice lo l.length c ∧ Ints W lo l ∧ l.length ≤ c := by
  obtain ⟨n, h⟩ := h
  obtain ⟨a, len, cap, rfl⟩ := okWide_slice Try.underlying31 hv
  obtain ⟨ao, c, l, e, hi⟩ := open_listC h
  exact ⟨l, ao, c, e, hi⟩
theorem trodAll_four' {P : Program} {w : World} {spare : Nat → Bool} {t t' t'' t3 : TypeId} {args : Array Value} {ds : List (DataW H)} {ps : List MemPlace} (h : DataW.TrodAll enc P w base spare held [t, t', t'', t3] args.toList ds ps) :
    ∃ v v' v'' v3 d d' d'' d3 p p' p'' p3, args = #[v, v', v'', v3] ∧ ds = [d, d', d'', d3] ∧ ps = p ++ (p' ++ (p'' ++ p3)) ∧ DataW.Trod enc P w base spare held t v d p ∧ DataW.Trod enc P w base spare held t' v' d' p' ∧ DataW.Trod enc P w base spare held t'' v'' d'' p'' ∧ DataW.Trod enc P w base spare held t3 v3 d3 p3 := by
  obtain ⟨v, vs, d, ds', p, q, hargs, rfl, rfl, hd, hrest⟩ := trodAll_cons h
  obtain ⟨v', vs', d', ds'', p', q', rfl, rfl, rfl, hd', hrest'⟩ := trodAll_cons hrest
  obtain ⟨v'', vs'', d'', ds''', p'', q'', rfl, rfl, rfl, hd'', hrest''⟩ := trodAll_cons hrest'
  obtain ⟨v3, vs3, d3, ds4, p3, q3, rfl, rfl, rfl, hd3, hrest3⟩ := trodAll_cons hrest''
  obtain ⟨rfl, rfl, rfl⟩ := trodAll_nil hrest3
  exact ⟨v, v', v'', v3, d, d', d'', d3, p, p', p'', p3, by cases args; simp_all, rfl, by simp, hd, hd', hd'', hd3⟩
end
end Go.Proofs.Yteljjkghjbofnaa
