/- The laws' inputs opened: problems, lists, bytes, numbers; how a law's row is shut; five and six arguments. -/
import Derived.Test.YtgmodcipbklejaaV
import Derived.Test.YtgmodcipbklejaaRows
import Derived.ProofKit
import Derived.Deep.SlicePairs
import Derived.Lib.SmallJoins
import Derived.WideKeyArgs
set_option maxRecDepth 100000
namespace Go.Proofs.Ytgmodcipbklejaa
open Go Go.ChangeShapes Go.WideShapes Go.ChangeAt Go.RowKit Go.Joins Go.Deep

theorem try_own : ownKnob Try.prog.godebug = none := by kernel_rfl
theorem try_laidOut : laidOutB Try.prog = true := by kernel_rfl

section
variable {H : Type} {enc : TypeId × Value → H} {W W' : World} {sp : Nat → Bool} {held : Bool}

theorem addr_none {a : Addr} {i : Nat} {v : Value} (hi : i = 0) (h : W.cell? (a.add i) = some v) : ∃ b o, a = ⟨b, o, none⟩ := by
  obtain ⟨b, off, spot⟩ := a
  subst hi
  have hspot : spot = none := by
    have := World.cell?_spot h
    unfold Addr.add at this
    rw [if_pos rfl] at this
    exact this
  exact ⟨b, off, by rw [hspot]⟩
theorem add_none (b o i : Nat) : (⟨b, o, none⟩ : Addr).add i = ⟨b, o + i, none⟩ := by
  unfold Addr.add
  split
  · rename_i h; rw [h]; rfl
  · rfl

theorem open_arcsB {m : Nat} {v : Value} {y : DataW H × List MemPlace} (h : DataW.trod enc Try.prog W 0 sp held m 22 [v] = some y) :
    ∃ (ao : Option Addr) (c : Nat) (l : List (Int × Int)), v = .slice ao l.length c ∧ Pairs W ao l ∧ l.length < 9223372036854775808 := by
  rcases open_slice_pairs Try.underlying22 Try.underlying47 (by kernel_rfl) rfl rfl (by kernel_rfl) (by kernel_rfl) h with ⟨h1, -⟩ | ⟨a, len, cap, mm, n, V0, V1, D0, D1, P0, P1, h1, -, hl, hc, hm, -, hx⟩
  · simp only [List.cons.injEq, and_true] at h1
    exact ⟨none, 0, [], h1, Pairs.nil _ _, by simp⟩
  · simp only [List.cons.injEq, and_true] at h1
    unfold maxLen at hc
    have hlm : len ≤ mm := by rw [hm]; split <;> omega
    have key : ∀ i, i < len → ∃ q : Int × Int, W.cell? (a.add (i * 2)) = some (.int .i64 q.1) ∧ W.cell? (a.add (i * 2 + 1)) = some (.int .i64 q.2) := fun i hi => by
      obtain ⟨c0, c1, t0, t1⟩ := hx i (by omega)
      obtain ⟨x, e0, -, -⟩ := DataW.trod_int Try.underlying3 t0
      obtain ⟨z, e1, -, -⟩ := DataW.trod_int Try.underlying3 t1
      simp only [List.cons.injEq, and_true] at e0 e1
      rw [e0] at c0
      rw [e1] at c1
      exact ⟨(x, z), c0, c1⟩
    obtain ⟨q, hq⟩ := choose_lt key
    refine ⟨some a, cap, (List.range len).map q, by rw [h1]; simp, fun i hi => ?_, by simp; omega⟩
    have hi' : i < len := by simpa using hi
    obtain ⟨b, o, rfl⟩ := addr_none (Nat.zero_mul 2) (hq 0 (by omega)).1
    have e : ((List.range len).map q)[i] = q i := by simp
    rw [e]
    obtain ⟨g0, g1⟩ := hq i hi'
    rw [add_none] at g0 g1
    exact ⟨b, o, rfl, g0, g1⟩
theorem open_prob {b : Nat} {v : Value} {d : DataW H} {p : List MemPlace} (hv : Value.okWide Try.prog W .any b 24 v) (h : DataW.Trod enc Try.prog W 0 sp held 24 v d p) :
    ∃ (o : Prob) (ao bo : Option Addr) (ca cb : Nat), v = probV o ao ca bo cb ∧ Pairs W ao o.arcs ∧ Pairs W bo o.near ∧ o.arcs.length < 9223372036854775808 ∧ o.near.length < 9223372036854775808 := by
  obtain ⟨c0, c1, c2, y0, y1, y2, n, rfl, -, -, h0, h1, h2⟩ := open_agg3 Try.underlying24 (by kernel_rfl) (by kernel_rfl) hv h
  obtain ⟨x, e0, -, -⟩ := DataW.trod_int Try.underlying3 h0
  obtain ⟨ao, ca, la, rfl, ha, h3⟩ := open_arcsB h1
  obtain ⟨bo, cb, lb, rfl, hb, h4⟩ := open_arcsB h2
  simp only [List.cons.injEq, and_true] at e0
  subst e0
  exact ⟨⟨x, la, lb⟩, ao, bo, ca, cb, rfl, ha, hb, h3, h4⟩
theorem open_int {base : Nat} {v : Value} (hv : Value.okWide Try.prog W .any base 3 v) : ∃ x, v = .int .i64 x := WideShapes.okWide_int Try.underlying3 hv
theorem open_listC {m : Nat} {v : Value} {y : DataW H × List MemPlace} (h : DataW.trod enc Try.prog W 0 sp held m 25 [v] = some y) :
    ∃ (ao : Option Addr) (c : Nat) (l : List Int), v = .slice ao l.length c ∧ Ints W ao l ∧ l.length ≤ c ∧ l.length < 9223372036854775808 := by
  rcases ChangeShapes.open_ints Try.underlying25 Try.underlying3 (by kernel_rfl) h with ⟨h1, -⟩ | ⟨a, len, cap, zs, h1, -, hl, hm, hz, -, hx, -⟩
  · simp only [List.cons.injEq, and_true] at h1
    exact ⟨none, 0, [], h1, Ints.nil _ _, Nat.le_refl _, by simp⟩
  · simp only [List.cons.injEq, and_true] at h1
    unfold maxLen at hm
    have hlm : len ≤ zs.length := by rw [hz]; split <;> omega
    have hlen : (zs.take len).length = len := by simp; omega
    refine ⟨some a, cap, zs.take len, by rw [h1, hlen], fun i hi => ?_, by rw [hlen]; omega, by rw [hlen]; omega⟩
    have hi' : i < zs.length := by omega
    have hc := hx i hi'
    obtain ⟨b, o, rfl⟩ := addr_none rfl (hx 0 (by omega))
    refine ⟨b, o, rfl, ?_⟩
    have e : (zs.take len)[i] = zs.getD i 0 := by rw [List.getElem_take, List.getD_eq_getElem?_getD, List.getElem?_eq_getElem hi']; rfl
    rw [e, ← add_none]
    exact hc
theorem open_seqC {b : Nat} {v : Value} {d : DataW H} {p : List MemPlace} (hv : Value.okWide Try.prog W .any b 25 v) (h : DataW.Trod enc Try.prog W 0 sp held 25 v d p) :
    ∃ (l : List Int) (lo : Option Addr) (c : Nat), v = .slice lo l.length c ∧ Ints W lo l ∧ l.length ≤ c ∧ l.length < 9223372036854775808 := by
  obtain ⟨n, h⟩ := h
  obtain ⟨a, len, cap, rfl⟩ := okWide_slice Try.underlying25 hv
  obtain ⟨ao, c, l, e, hi⟩ := open_listC h
  exact ⟨l, ao, c, e, hi⟩
theorem open_listU {m : Nat} {v : Value} {y : DataW H × List MemPlace} (h : DataW.trod enc Try.prog W 0 sp held m 26 [v] = some y) :
    ∃ (l : List Int) (lo : Option Addr) (c : Nat), v = .slice lo l.length c ∧ U8s W lo l ∧ l.length < 9223372036854775808 := by
  rcases ChangeShapes.open_ints Try.underlying26 Try.underlying5 (by kernel_rfl) h with ⟨h1, -⟩ | ⟨a, len, cap, zs, h1, -, hl, hm, hz, -, hx, hw⟩
  · simp only [List.cons.injEq, and_true] at h1
    exact ⟨[], none, 0, h1, fun i hi => by simp at hi, by simp⟩
  · simp only [List.cons.injEq, and_true] at h1
    unfold maxLen at hm
    have hlm : len ≤ zs.length := by rw [hz]; split <;> omega
    have hlen : (zs.take len).length = len := by simp; omega
    refine ⟨zs.take len, some a, cap, by rw [h1, hlen], fun i hi => ?_, by rw [hlen]; omega⟩
    have hi' : i < zs.length := by omega
    have hc := hx i hi'
    obtain ⟨b, o, rfl⟩ := addr_none rfl (hx 0 (by omega))
    have e : (zs.take len)[i] = zs.getD i 0 := by rw [List.getElem_take, List.getD_eq_getElem?_getD, List.getElem?_eq_getElem hi']; rfl
    have f3 := hw zs[i] (List.getElem_mem _)
    simp only [Lit.wf, Bool.and_eq_true, decide_eq_true_eq] at f3
    have f4 : 0 ≤ zs[i] ∧ zs[i] ≤ 255 := f3
    have e2 : (zs.take len)[i] = zs[i] := List.getElem_take
    refine ⟨b, o, rfl, ?_, by rw [e2]; omega, by rw [e2]; omega⟩
    rw [e, ← add_none]
    exact hc

theorem open_bytes {b : Nat} {v : Value} {d : DataW H} {p : List MemPlace} (hv : Value.okWide Try.prog W .any b 26 v) (h : DataW.Trod enc Try.prog W 0 sp held 26 v d p) :
    ∃ (l : List Int) (lo : Option Addr) (c : Nat), v = .slice lo l.length c ∧ U8s W lo l ∧ l.length < 9223372036854775808 := by
  obtain ⟨n, h⟩ := h
  obtain ⟨a, len, cap, rfl⟩ := okWide_slice Try.underlying26 hv
  obtain ⟨l, lo, c, e, hi⟩ := open_listU h
  exact ⟨l, lo, c, e, hi⟩

/-- What came in reads behind a call that turned nothing as it read before. -/
theorem args_stay (hk : Kept W W') : ∀ {ts : List TypeId} {vs : List Value} {ds : List (DataW H)} {ps : List MemPlace},
    (∀ t ∈ ts, Try.prog.readableRec t = true ∧ t < Try.prog.types.size) → DataW.TrodAll enc Try.prog W 0 (fun _ => true) true ts vs ds ps → (∀ x ∈ ps, x.block < W.heap.size) → (∀ x ∈ ps, sp x.block = true) →
      DataW.TrodAll enc Try.prog W' 0 sp true ts vs ds ps
  | [], [], [], _, _, h, _, _ => h
  | t :: _, _ :: _, _ :: _, _, ht, ⟨p, q, h1, h2, e⟩, hl, hs => by
    refine ⟨p, q, WideElems.Trod_stays try_laidOut (ht t List.mem_cons_self).1 (ht t List.mem_cons_self).2 h1 (fun x hx => (show Below W.heap.size W W' from hk).same (hl x ?_)) (fun x hx => hs x ?_),
      args_stay hk (fun t h => ht t (List.mem_cons_of_mem _ h)) h2 (fun x hx => hl x ?_) (fun x hx => hs x ?_), e⟩
    all_goals (rw [e]; first | exact List.mem_append_left _ hx | exact List.mem_append_right _ hx)

/-- The row of a law: it returned true, and turned nothing that lay there. -/
theorem law_post {fn : Func} {s : ChangeSpec} {apart fresh handsOn again : Bool} {args : Array Value} {ds gs : List (DataW H)} {before : List MemPlace}
    (hW : DataW.Whole enc Try.prog fn.params.toList s.vars apart W args.toList ds gs before) (hv : s.vars = [])
    (hts : ∀ t ∈ fn.params.toList, Try.prog.readableRec t = true ∧ t < Try.prog.types.size) (hr : fn.resultTypes = #[4])
    (h1 : (s.fn H (ds ++ gs)).results = [.lit (.bool true)]) (h2 : (s.fn H (ds ++ gs)).args = ds) (h3 : (s.fn H (ds ++ gs)).vars = []) (hk : Kept W W') : s.post enc Try.prog fn apart fresh handsOn again W args (.bool true) W' := by
  have hlt : ∀ x ∈ before, x.block < W.heap.size := fun x hx => hW.lt x hx
  obtain ⟨p, q, hA, hV, e, hz, hn⟩ := id hW
  rw [hv] at hV
  obtain ⟨rfl, rfl⟩ := trodVars_none hV
  have hb : before = p := by rw [e, List.append_nil]
  subst hb
  have hres : ∀ (b : Nat) (sp : Nat → Bool) (hd : Bool), DataW.TrodAll enc Try.prog W' b sp hd fn.resultTypes.toList ((Value.bool true).resultList fn.resultTypes.size) (s.fn H (ds ++ [])).results [] := fun b sp hd => by
    rw [hr, h1]
    exact trodAll_mk1 (shut_bool Try.underlying4 _)
  have hargs : ∀ sp : Nat → Bool, (∀ x ∈ before, sp x.block = true) → DataW.TrodAll enc Try.prog W' 0 sp true fn.params.toList args.toList (s.fn H (ds ++ [])).args before := fun sp hs => by
    rw [h2]
    exact args_stay hk hts hA hlt hs
  have hvars : ∀ sp : Nat → Bool, DataW.TrodVars enc Try.prog W' sp s.vars (s.fn H (ds ++ [])).vars [] := fun sp => by
    rw [hv, h3]
    rfl
  refine ⟨ds, [], before, [], before, [], hW, hres _ _ _, hargs _ (fun x hx => by simpa using hlt x hx), hvars _, (show Below W.heap.size W W' from hk).frame _, fun _ => ⟨?_, _, _, ([] ++ before) ++ [], ⟨[] ++ before, [], trodAll_append (hargs _ (fun _ _ => rfl)) (hres _ _ _), hvars _, rfl, ?_, ?_⟩, ?_⟩⟩
  · exact ok_one hr rfl (by simp [Value.okWide, Try.underlying4, Cell.okWide, Cell.ok])
  · intro b off hp
    have hin : MemPlace.cell b off ∈ before := by simpa using hp
    rw [(show Below W.heap.size W W' from hk).frozen (hlt _ hin)]
    exact hz b off hin
  · intro ha
    simpa using hn ha
  · intro x hx _
    simpa using hx
theorem trodAll_5 {P : Program} {w : World} {base : Nat} {spare : Nat → Bool} {t0 t1 t2 t3 t4 : TypeId} {args : Array Value} {ds : List (DataW H)} {ps : List MemPlace} (h : DataW.TrodAll enc P w base spare held [t0, t1, t2, t3, t4] args.toList ds ps) :
    ∃ v0 v1 v2 v3 v4 d0 d1 d2 d3 d4 p0 p1 p2 p3 p4, args = #[v0, v1, v2, v3, v4] ∧ ds = [d0, d1, d2, d3, d4] ∧ ps = p0 ++ (p1 ++ (p2 ++ (p3 ++ (p4)))) ∧ DataW.Trod enc P w base spare held t0 v0 d0 p0 ∧ DataW.Trod enc P w base spare held t1 v1 d1 p1 ∧ DataW.Trod enc P w base spare held t2 v2 d2 p2 ∧ DataW.Trod enc P w base spare held t3 v3 d3 p3 ∧ DataW.Trod enc P w base spare held t4 v4 d4 p4 := by
  obtain ⟨v0, vs0, d0, ds0, p0, q0, hargs, rfl, rfl, hd0, hr0⟩ := trodAll_cons h
  obtain ⟨v1, vs1, d1, ds1, p1, q1, rfl, rfl, rfl, hd1, hr1⟩ := trodAll_cons hr0
  obtain ⟨v2, vs2, d2, ds2, p2, q2, rfl, rfl, rfl, hd2, hr2⟩ := trodAll_cons hr1
  obtain ⟨v3, vs3, d3, ds3, p3, q3, rfl, rfl, rfl, hd3, hr3⟩ := trodAll_cons hr2
  obtain ⟨v4, vs4, d4, ds4, p4, q4, rfl, rfl, rfl, hd4, hr4⟩ := trodAll_cons hr3
  obtain ⟨rfl, rfl, rfl⟩ := trodAll_nil hr4
  exact ⟨v0, v1, v2, v3, v4, d0, d1, d2, d3, d4, p0, p1, p2, p3, p4, by cases args; simp_all, rfl, by simp, hd0, hd1, hd2, hd3, hd4⟩
theorem trodAll_6 {P : Program} {w : World} {base : Nat} {spare : Nat → Bool} {t0 t1 t2 t3 t4 t5 : TypeId} {args : Array Value} {ds : List (DataW H)} {ps : List MemPlace} (h : DataW.TrodAll enc P w base spare held [t0, t1, t2, t3, t4, t5] args.toList ds ps) :
    ∃ v0 v1 v2 v3 v4 v5 d0 d1 d2 d3 d4 d5 p0 p1 p2 p3 p4 p5, args = #[v0, v1, v2, v3, v4, v5] ∧ ds = [d0, d1, d2, d3, d4, d5] ∧ ps = p0 ++ (p1 ++ (p2 ++ (p3 ++ (p4 ++ (p5))))) ∧ DataW.Trod enc P w base spare held t0 v0 d0 p0 ∧ DataW.Trod enc P w base spare held t1 v1 d1 p1 ∧ DataW.Trod enc P w base spare held t2 v2 d2 p2 ∧ DataW.Trod enc P w base spare held t3 v3 d3 p3 ∧ DataW.Trod enc P w base spare held t4 v4 d4 p4 ∧ DataW.Trod enc P w base spare held t5 v5 d5 p5 := by
  obtain ⟨v0, vs0, d0, ds0, p0, q0, hargs, rfl, rfl, hd0, hr0⟩ := trodAll_cons h
  obtain ⟨v1, vs1, d1, ds1, p1, q1, rfl, rfl, rfl, hd1, hr1⟩ := trodAll_cons hr0
  obtain ⟨v2, vs2, d2, ds2, p2, q2, rfl, rfl, rfl, hd2, hr2⟩ := trodAll_cons hr1
  obtain ⟨v3, vs3, d3, ds3, p3, q3, rfl, rfl, rfl, hd3, hr3⟩ := trodAll_cons hr2
  obtain ⟨v4, vs4, d4, ds4, p4, q4, rfl, rfl, rfl, hd4, hr4⟩ := trodAll_cons hr3
  obtain ⟨v5, vs5, d5, ds5, p5, q5, rfl, rfl, rfl, hd5, hr5⟩ := trodAll_cons hr4
  obtain ⟨rfl, rfl, rfl⟩ := trodAll_nil hr5
  exact ⟨v0, v1, v2, v3, v4, v5, d0, d1, d2, d3, d4, d5, p0, p1, p2, p3, p4, p5, by cases args; simp_all, rfl, by simp, hd0, hd1, hd2, hd3, hd4, hd5⟩
end
end Go.Proofs.Ytgmodcipbklejaa
