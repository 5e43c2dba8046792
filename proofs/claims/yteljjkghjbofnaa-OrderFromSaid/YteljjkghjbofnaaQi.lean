/- A sheet and a division that came in, with the bounds of their lengths. -/
import Derived.Test.YteljjkghjbofnaaPo
import Derived.Test.YteljjkghjbofnaaQh
import Derived.SizedLaws
set_option maxRecDepth 100000
namespace Go.Proofs.Yteljjkghjbofnaa
open Go Go.ChangeShapes Go.WideShapes Go.ChangeAt Go.RowKit Go.Joins Go.Deep

instance : Inhabited Seam := ⟨⟨0, 0, 0, 0⟩⟩
section
variable {H : Type} {enc : TypeId × Value → H} {W W' : World} {sp : Nat → Bool} {held : Bool}
theorem weights_of_all {P : Program} {e : TypeId} : ∀ {l : List (DataW H)} {d : DataW H} {n : Nat}, d ∈ l → n ∈ d.weights P e → n ∈ DataW.weightsAll P e l
  | x :: l, d, n, hd, hn => by
    simp only [DataW.weightsAll, List.mem_append]
    rcases List.mem_cons.1 hd with rfl | hd
    · exact Or.inl hn
    · exact Or.inr (weights_of_all hd hn)

theorem open_listW {m : Nat} {v : Value} {y : DataW H × List MemPlace} (h : DataW.trod enc Try.prog W 0 sp held m 31 [v] = some y) :
    ∃ (ao : Option Addr) (c : Nat) (l : List Int), v = .slice ao l.length c ∧ Ints W ao l ∧ l.length ≤ c ∧ (ao = none → c = 0) ∧ (∀ x ∈ l, wfI x) ∧ ((∀ n ∈ y.1.weights Try.prog 31, n ≤ reachBytes) → l.length ≤ 17592186044416) := by
  obtain ⟨ao, c, l, e, hi, hc, hn⟩ := open_listN h
  refine ⟨ao, c, l, e, hi, hc, hn, ?_⟩
  rcases ChangeShapes.open_ints Try.underlying31 Try.underlying3 (by kernel_rfl) h with ⟨h1, -⟩ | ⟨a, len, cap, zs, h1, -, hl, -, hz, hy, hx, hw⟩
  · simp only [List.cons.injEq, and_true] at h1
    rw [e] at h1
    simp only [Value.slice.injEq] at h1
    have h0 : l = [] := List.length_eq_zero_iff.1 h1.2.1
    subst h0
    exact ⟨fun x hx => absurd hx List.not_mem_nil, fun _ => by simp⟩
  · simp only [List.cons.injEq, and_true] at h1
    rw [e] at h1
    simp only [Value.slice.injEq] at h1
    obtain ⟨e1, e2, e3⟩ := h1
    subst e1
    have hlm : len ≤ zs.length := by rw [hz]; split <;> omega
    have key : ∀ i, (h : i < l.length) → l[i] = zs.getD i 0 := fun i h => by
      obtain ⟨b, o, hb, hc1⟩ := hi i h
      have hc2 := hx i (by omega)
      obtain rfl := Option.some.inj hb
      rw [add_none] at hc2
      rw [hc1] at hc2
      simpa using hc2
    refine ⟨fun x hm => ?_, fun hwt => ?_⟩
    · obtain ⟨i, hi2, rfl⟩ := List.getElem_of_mem hm
      rw [key i hi2, List.getD_eq_getElem?_getD, List.getElem?_eq_getElem (by omega)]
      exact hw _ (List.getElem_mem _)
    · subst hy
      have h8 : Try.prog.bytesOf 3 = 8 := by kernel_rfl
      have := hwt ((lits .i64 (zs.take len)).length * 8 + (lits .i64 (zs.drop len)).length * 8) (by
        simp only [DataW.weights, Try.underlying31, h8, ← Nat.add_mul]
        exact List.mem_cons_self)
      have hln : (lits (H := H) .i64 (zs.take len)).length = len := by simp [lits]; omega
      rw [hln] at this
      unfold reachBytes at this
      omega

theorem open_listsW {m : Nat} {v : Value} {y : DataW H × List MemPlace} (h : DataW.trod enc Try.prog W 0 sp held m 70 [v] = some y) (hw : ∀ n ∈ y.1.weights Try.prog 70, n ≤ reachBytes) :
    ∃ (chs : List (List Int)) (co : Option Addr) (cc : Nat), v = .slice co chs.length cc ∧ Chs W co chs ∧ chs.length < 140737488355328 ∧ (∀ c ∈ chs, c.length ≤ 17592186044416) ∧ ∀ x ∈ chs.flatten, wfI x := by
  rcases open_slice1 Try.underlying70 (by kernel_rfl) h with ⟨h1, -⟩ | ⟨a, len, cap, m, n, V, D, Pl, h1, -, hl, -, hm, hy, hx⟩
  · simp only [List.cons.injEq, and_true] at h1
    subst h1
    exact ⟨[], none, 0, rfl, fun i hi => by simp at hi, by simp, by simp, by simp⟩
  · simp only [List.cons.injEq, and_true] at h1
    subst h1
    subst hy
    have hlm : len ≤ m := by rw [hm]; split <;> omega
    have h24 : Try.prog.bytesOf 31 = 24 := by kernel_rfl
    have key : ∀ i, i < len → ∃ q : Option Addr × Nat × List Int, W.cell? (a.add i) = some (.slice q.1 q.2.2.length q.2.1) ∧ Ints W q.1 q.2.2 ∧ (q.1 = none → q.2.1 = 0) ∧ q.2.2.length ≤ q.2.1 ∧ (∀ x ∈ q.2.2, wfI x) ∧ q.2.2.length ≤ 17592186044416 := fun i hi => by
      obtain ⟨c0, t0⟩ := hx i (by omega)
      obtain ⟨ao, c, l, e, h3, h4, h5, h6, h7⟩ := open_listW t0
      rw [e] at c0
      refine ⟨(ao, c, l), c0, h3, h5, h4, h6, h7 fun n hn => hw n ?_⟩
      simp only [DataW.weights, Try.underlying70, List.mem_cons, List.mem_append]
      exact Or.inr (Or.inl (weights_of_all (List.mem_map.2 ⟨i, by simp [hi], rfl⟩) hn))
    obtain ⟨q, hq⟩ := choose_lt key
    have hlen : len < 140737488355328 := by
      have := hw ((len + (m - len)) * 24) (by
        simp only [DataW.weights, Try.underlying70, h24, List.length_map, List.length_range]
        exact List.mem_cons_self)
      unfold reachBytes at this
      omega
    refine ⟨(List.range len).map fun i => (q i).2.2, some a, cap, by simp, fun i hi => ?_, by simpa using hlen, fun c hc => ?_, fun x hx => ?_⟩
    · have hi' : i < len := by simpa using hi
      obtain ⟨b, o, rfl⟩ := addr_none rfl (hq 0 (by omega)).1
      have e : ((List.range len).map fun i => (q i).2.2)[i] = (q i).2.2 := by simp
      rw [e]
      obtain ⟨g0, g1, g2, g3, -⟩ := hq i hi'
      rw [add_none] at g0
      exact ⟨b, o, _, _, rfl, g0, g1, g2, g3⟩
    · obtain ⟨i, hi, rfl⟩ := List.mem_map.1 hc
      exact (hq i (by simpa using hi)).2.2.2.2.2
    · obtain ⟨c, hc, hxc⟩ := List.mem_flatten.1 hx
      obtain ⟨i, hi, rfl⟩ := List.mem_map.1 hc
      exact (hq i (by simpa using hi)).2.2.2.2.1 x hxc

theorem open_division {b : Nat} {v : Value} {d : DataW H} {p : List MemPlace} (hv : Value.okWide Try.prog W .any b 77 v) (h : DataW.Trod enc Try.prog W 0 sp held 77 v d p) (hw : ∀ n ∈ d.weights Try.prog 77, n ≤ reachBytes) :
    ∃ (chs : List (List Int)) (co : Option Addr) (cc : Nat), v = .agg #[.slice co chs.length cc] ∧ Chs W co chs ∧ chs.length < 140737488355328 ∧ (∀ c ∈ chs, c.length ≤ 17592186044416) ∧ ∀ x ∈ chs.flatten, wfI x := by
  obtain ⟨cs, rfl, hsz⟩ := okWide_struct Try.underlying77 hv
  have hsz1 : cs.size = 1 := hsz.trans (by kernel_rfl)
  obtain ⟨c0, rfl⟩ : ∃ c0, cs = #[c0] := by
    obtain ⟨l⟩ := cs
    match l, hsz1 with
    | [c0], _ => exact ⟨c0, rfl⟩
  obtain ⟨fuel, hf⟩ := h
  obtain ⟨y0, n, hx, _, h0⟩ := trod_struct1 Try.underlying77 hf
  have k3 : Try.prog.cellsOf 70 = 1 := by kernel_rfl
  simp [k3, Value.cells] at h0
  obtain ⟨rfl, rfl⟩ := Prod.mk.inj hx
  obtain ⟨chs, co, cc, rfl, h1, h2, h3, h4⟩ := open_listsW h0 (fun n hn => hw n (by
    simp only [DataW.weights, Try.underlying77]
    simp [DataW.weightsEach, hn]))
  exact ⟨chs, co, cc, rfl, h1, h2, h3, h4⟩

theorem open_seams {m : Nat} {v : Value} {y : DataW H × List MemPlace} (h : DataW.trod enc Try.prog W 0 sp held m 73 [v] = some y) :
    ∃ (l : List Seam) (so : Option Addr) (sc : Nat), v = .slice so l.length sc ∧ Seams W so l ∧ ∀ x ∈ l, wfI x.a ∧ wfI x.b ∧ 0 ≤ x.up ∧ x.up < 256 := by
  rcases open_slice Try.underlying73 h with ⟨h1, -⟩ | ⟨a, len, cap, m, n, D, Pl, h1, -, hl, -, hm, -, hx⟩
  · simp only [List.cons.injEq, and_true] at h1
    subst h1
    exact ⟨[], none, 0, rfl, fun i hi => by simp at hi, by simp⟩
  · simp only [List.cons.injEq, and_true] at h1
    subst h1
    have hlm : len ≤ m := by rw [hm]; split <;> omega
    have c4 : Try.prog.cellsOf 141 = 4 := by kernel_rfl
    have k3 : Try.prog.cellsOf 3 = 1 := by kernel_rfl
    have k5 : Try.prog.cellsOf 5 = 1 := by kernel_rfl
    have key : ∀ i, i < len → ∃ q : Seam, W.cell? (a.add (i * 4)) = some (.int .i64 q.a) ∧ W.cell? (a.add (i * 4 + 1)) = some (.int .i64 q.b) ∧ W.cell? (a.add (i * 4 + 2)) = some (.int .i64 q.pr) ∧ W.cell? (a.add (i * 4 + 3)) = some (.int .u8 q.up) ∧ wfI q.a ∧ wfI q.b ∧ 0 ≤ q.up ∧ q.up < 256 := fun i hi => by
      obtain ⟨cs, hc, ht⟩ := hx i (by omega)
      rw [c4] at hc
      obtain ⟨-, hl4, hcs⟩ := World.cells?_some hc
      match cs, hl4 with
      | [w0, w1, w2, w3], _ =>
        obtain ⟨y0, y1, y2, y3, n, -, -, t0, t1, t2, t3⟩ := trod_struct4 Try.underlying141 ht
        simp [k3, k5] at t0 t1 t2 t3
        obtain ⟨x0, e0, -, f0⟩ := DataW.trod_int Try.underlying3 t0
        obtain ⟨x1, e1, -, f1⟩ := DataW.trod_int Try.underlying3 t1
        obtain ⟨x2, e2, -, -⟩ := DataW.trod_int Try.underlying3 t2
        obtain ⟨x3, e3, -, f3⟩ := DataW.trod_int Try.underlying5 t3
        simp only [List.cons.injEq, and_true] at e0 e1 e2 e3
        subst e0 e1 e2 e3
        have g0 := hcs 0 (by omega)
        have g1 := hcs 1 (by omega)
        have g2 := hcs 2 (by omega)
        have g3 := hcs 3 (by omega)
        rw [add_add] at g0 g1 g2 g3
        have f4 : 0 ≤ x3 ∧ x3 ≤ 255 := by
          simp only [Lit.wf, Bool.and_eq_true, decide_eq_true_eq] at f3
          exact f3
        exact ⟨⟨x0, x1, x2, x3⟩, by simpa using g0, by simpa using g1, by simpa using g2, by simpa using g3, f0, f1, by show 0 ≤ x3; omega, by show x3 < 256; omega⟩
    obtain ⟨q, hq⟩ := choose_lt (α := Seam) key
    refine ⟨(List.range len).map q, some a, cap, by simp, fun i hi => ?_, fun x hx => ?_⟩
    · have hi' : i < len := by simpa using hi
      obtain ⟨b, o, rfl⟩ := addr_none (Nat.zero_mul 4) (hq 0 (by omega)).1
      have e : ((List.range len).map q)[i] = q i := by simp
      rw [e]
      obtain ⟨g0, g1, g2, g3, -⟩ := hq i hi'
      rw [add_none] at g0 g1 g2 g3
      exact ⟨b, o, rfl, g0, g1, g2, g3⟩
    · obtain ⟨i, hi, rfl⟩ := List.mem_map.1 hx
      exact (hq i (by simpa using hi)).2.2.2.2
theorem open_sheet {b : Nat} {v : Value} {d : DataW H} {p : List MemPlace} (hv : Value.okWide Try.prog W .any b 75 v) (h : DataW.Trod enc Try.prog W 0 sp held 75 v d p) :
    ∃ (l : List Seam) (so : Option Addr) (sc : Nat) (xo : Option Addr) (xn xc : Nat), v = .agg #[.slice xo xn xc, .slice so l.length sc] ∧ Seams W so l ∧ ∀ x ∈ l, wfI x.a ∧ wfI x.b ∧ 0 ≤ x.up ∧ x.up < 256 := by
  obtain ⟨c0, c1, y0, y1, n, rfl, -, -, h0, h1⟩ := open_agg2 Try.underlying75 (by kernel_rfl) (by kernel_rfl) hv h
  obtain ⟨l, so, sc, rfl, hs, hw⟩ := open_seams h1
  have : ∃ (xo : Option Addr) (xn xc : Nat), c0 = .slice xo xn xc := by
    rcases open_slice Try.underlying72 h0 with ⟨h1, -⟩ | ⟨a, len, cap, m, n, D, Pl, h1, -⟩
    · simp only [List.cons.injEq, and_true] at h1
      exact ⟨_, _, _, h1⟩
    · simp only [List.cons.injEq, and_true] at h1
      exact ⟨_, _, _, h1⟩
  obtain ⟨xo, xn, xc, rfl⟩ := this
  exact ⟨l, so, sc, xo, xn, xc, rfl, hs, hw⟩
end
end Go.Proofs.Yteljjkghjbofnaa
