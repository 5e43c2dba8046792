/- giornatatop.TopInside returns true of every wall, all lines and every point, and its arguments read behind it as they read before. Conditions: none. -/
import Derived.Test.YtlglfcdobbocnaaGreatYg
import Derived.Test.YtlglfcdobbocnaaGreatRows
import Derived.ProofKit
import Derived.Deep.SlicePairs
import Derived.Lib.SmallJoins
import Derived.WideKeyArgs
set_option maxRecDepth 100000
namespace Go.Proofs.YtlglfcdobbocnaaGreat
open Go Go.ChangeShapes Go.WideShapes Go.ChangeAt Go.RowKit Go.Joins Go.Deep

theorem try_own : ownKnob Tryz.prog.godebug = none := by kernel_rfl
theorem try_laidOut : laidOutB Tryz.prog = true := by kernel_rfl

section
variable {H : Type} {enc : TypeId × Value → H} {W W' : World} {sp : Nat → Bool} {held : Bool}

theorem addr_none {a : Addr} {i : Nat} {v : Value} (hi : i = 0) (h : W.cell? (a.add i) = some v) : ∃ b o, a = ⟨b, o, none⟩ := by
  obtain ⟨b, off, spot⟩ := a
  subst hi
  have hspot : spot = none := by
    have := World.cell?_spot h
    unfold Addr.add at this
    rw [if_pos rfl] at this
    exact this
  exact ⟨b, off, by rw [hspot]⟩
theorem add_none (b o i : Nat) : (⟨b, o, none⟩ : Addr).add i = ⟨b, o + i, none⟩ := by
  unfold Addr.add
  split
  · rename_i h; rw [h]; rfl
  · rfl

theorem open_arcsB {m : Nat} {v : Value} {y : DataW H × List MemPlace} (h : DataW.trod enc Tryz.prog W 0 sp held m 22 [v] = some y) :
    ∃ (ao : Option Addr) (c : Nat) (l : List (Int × Int)), v = .slice ao l.length c ∧ Pairs W ao l ∧ l.length < 9223372036854775808 := by
  rcases open_slice_pairs Tryz.underlying22 Tryz.underlying25 (by kernel_rfl) rfl rfl (by kernel_rfl) (by kernel_rfl) h with ⟨h1, -⟩ | ⟨a, len, cap, mm, n, V0, V1, D0, D1, P0, P1, h1, -, hl, hc, hm, -, hx⟩
  · simp only [List.cons.injEq, and_true] at h1
    exact ⟨none, 0, [], h1, Pairs.nil _ _, by simp⟩
  · simp only [List.cons.injEq, and_true] at h1
    unfold maxLen at hc
    have hlm : len ≤ mm := by rw [hm]; split <;> omega
    have key : ∀ i, i < len → ∃ q : Int × Int, W.cell? (a.add (i * 2)) = some (.int .i64 q.1) ∧ W.cell? (a.add (i * 2 + 1)) = some (.int .i64 q.2) := fun i hi => by
      obtain ⟨c0, c1, t0, t1⟩ := hx i (by omega)
      obtain ⟨x, e0, -, -⟩ := DataW.trod_int Tryz.underlying3 t0
      obtain ⟨z, e1, -, -⟩ := DataW.trod_int Tryz.underlying3 t1
      simp only [List.cons.injEq, and_true] at e0 e1
      rw [e0] at c0
      rw [e1] at c1
      exact ⟨(x, z), c0, c1⟩
    obtain ⟨q, hq⟩ := choose_lt key
    refine ⟨some a, cap, (List.range len).map q, by rw [h1]; simp, fun i hi => ?_, by simp; omega⟩
    have hi' : i < len := by simpa using hi
    obtain ⟨b, o, rfl⟩ := addr_none (Nat.zero_mul 2) (hq 0 (by omega)).1
    have e : ((List.range len).map q)[i] = q i := by simp
    rw [e]
    obtain ⟨g0, g1⟩ := hq i hi'
    rw [add_none] at g0 g1
    exact ⟨b, o, rfl, g0, g1⟩
theorem open_pts {b : Nat} {v : Value} {d : DataW H} {p : List MemPlace} (h : DataW.Trod enc Tryz.prog W 0 sp held 22 v d p) (hv : Value.okWide Tryz.prog W .any b 22 v) :
    ∃ (l : List Pt) (ao : Option Addr) (c : Nat), v = .slice ao l.length c ∧ Pairs W ao l := by
  obtain ⟨n, h⟩ := h
  obtain ⟨a, len, cap, rfl⟩ := okWide_slice Tryz.underlying22 hv
  obtain ⟨ao, c, l, e, hi, -⟩ := open_arcsB h
  exact ⟨l, ao, c, e, hi⟩
theorem open_pt {b : Nat} {v : Value} {d : DataW H} {p : List MemPlace} (h : DataW.Trod enc Tryz.prog W 0 sp held 25 v d p) (hv : Value.okWide Tryz.prog W .any b 25 v) : ∃ x : Pt, v = ptV x := by
  obtain ⟨c0, c1, y0, y1, n, rfl, -, -, h0, h1⟩ := open_agg2 Tryz.underlying25 (by kernel_rfl) (by kernel_rfl) hv h
  obtain ⟨x, e0, -, -⟩ := DataW.trod_int Tryz.underlying3 h0
  obtain ⟨y, e1, -, -⟩ := DataW.trod_int Tryz.underlying3 h1
  simp only [List.cons.injEq, and_true] at e0 e1
  subst e0 e1
  exact ⟨(x, y), rfl⟩
theorem open_two {m : Nat} {v0 v1 : Value} {y : DataW H × List MemPlace} (h : DataW.trod enc Tryz.prog W 0 sp held m 25 [v0, v1] = some y) : ∃ x : Pt, v0 = .int .i64 x.1 ∧ v1 = .int .i64 x.2 := by
  have k3 : Tryz.prog.cellsOf 3 = 1 := by kernel_rfl
  obtain ⟨y0, y1, n, -, -, t0, t1⟩ := trod_struct2 Tryz.underlying25 h
  simp [k3] at t0 t1
  obtain ⟨x0, e0, -, -⟩ := DataW.trod_int Tryz.underlying3 t0
  obtain ⟨x1, e1, -, -⟩ := DataW.trod_int Tryz.underlying3 t1
  simp only [List.cons.injEq, and_true] at e0 e1
  exact ⟨(x0, x1), e0, e1⟩
theorem open_sgs {b : Nat} {v : Value} {d : DataW H} {p : List MemPlace} (h : DataW.Trod enc Tryz.prog W 0 sp held 23 v d p) (hv : Value.okWide Tryz.prog W .any b 23 v) :
    ∃ (l : List Sg) (so : Option Addr) (sc : Nat), v = .slice so l.length sc ∧ Sgs W so l := by
  obtain ⟨fuel, h⟩ := h
  obtain ⟨a0, len0, cap0, rfl⟩ := okWide_slice Tryz.underlying23 hv
  rcases open_slice Tryz.underlying23 h with ⟨h1, -⟩ | ⟨a, len, cap, m, n, D, Pl, h1, -, hl, -, hm, -, hx⟩
  · simp only [Value.cells, List.cons.injEq, and_true] at h1
    rw [h1]
    exact ⟨[], none, 0, rfl, fun i hi => by simp at hi⟩
  · simp only [Value.cells, List.cons.injEq, and_true] at h1
    rw [h1]
    have hlm : len ≤ m := by rw [hm]; split <;> omega
    have c4 : Tryz.prog.cellsOf 45 = 4 := by kernel_rfl
    have k2 : Tryz.prog.cellsOf 25 = 2 := by kernel_rfl
    have key : ∀ i, i < len → ∃ q : Sg, W.cell? (a.add (i * 4)) = some (.int .i64 q.1.1) ∧ W.cell? (a.add (i * 4 + 1)) = some (.int .i64 q.1.2) ∧ W.cell? (a.add (i * 4 + 2)) = some (.int .i64 q.2.1) ∧ W.cell? (a.add (i * 4 + 3)) = some (.int .i64 q.2.2) := fun i hi => by
      obtain ⟨cs, hc, ht⟩ := hx i (by omega)
      rw [c4] at hc
      obtain ⟨-, hl4, hcs⟩ := World.cells?_some hc
      match cs, hl4 with
      | [w0, w1, w2, w3], _ =>
        obtain ⟨y0, y1, n, -, -, t0, t1⟩ := trod_struct2 Tryz.underlying45 ht
        simp [k2] at t0 t1
        obtain ⟨x0, rfl, rfl⟩ := open_two t0
        obtain ⟨x1, rfl, rfl⟩ := open_two t1
        have g0 := hcs 0 (by omega)
        have g1 := hcs 1 (by omega)
        have g2 := hcs 2 (by omega)
        have g3 := hcs 3 (by omega)
        rw [add_add] at g0 g1 g2 g3
        exact ⟨(x0, x1), by simpa using g0, by simpa using g1, by simpa using g2, by simpa using g3⟩
    obtain ⟨q, hq⟩ := choose_lt (α := Sg) key
    refine ⟨(List.range len).map q, some a, cap, by simp, fun i hi => ?_⟩
    have hi' : i < len := by simpa using hi
    obtain ⟨b, o, rfl⟩ := addr_none (Nat.zero_mul 4) (hq 0 (by omega)).1
    have e : ((List.range len).map q)[i] = q i := by simp
    rw [e]
    obtain ⟨g0, g1, g2, g3⟩ := hq i hi'
    rw [add_none] at g0 g1 g2 g3
    exact ⟨b, o, rfl, g0, g1, g2, g3⟩
/-- What came in reads behind a call that turned nothing as it read before. -/
theorem args_stay (hk : Kept W W') : ∀ {ts : List TypeId} {vs : List Value} {ds : List (DataW H)} {ps : List MemPlace},
    (∀ t ∈ ts, Tryz.prog.readableRec t = true ∧ t < Tryz.prog.types.size) → DataW.TrodAll enc Tryz.prog W 0 (fun _ => true) true ts vs ds ps → (∀ x ∈ ps, x.block < W.heap.size) → (∀ x ∈ ps, sp x.block = true) →
      DataW.TrodAll enc Tryz.prog W' 0 sp true ts vs ds ps
  | [], [], [], _, _, h, _, _ => h
  | t :: _, _ :: _, _ :: _, _, ht, ⟨p, q, h1, h2, e⟩, hl, hs => by
    refine ⟨p, q, WideElems.Trod_stays try_laidOut (ht t List.mem_cons_self).1 (ht t List.mem_cons_self).2 h1 (fun x hx => (show Below W.heap.size W W' from hk).same (hl x ?_)) (fun x hx => hs x ?_),
      args_stay hk (fun t h => ht t (List.mem_cons_of_mem _ h)) h2 (fun x hx => hl x ?_) (fun x hx => hs x ?_), e⟩
    all_goals (rw [e]; first | exact List.mem_append_left _ hx | exact List.mem_append_right _ hx)

/-- The row of a law: it returned true, and turned nothing that lay there. -/
theorem law_post {fn : Func} {s : ChangeSpec} {apart fresh handsOn again : Bool} {args : Array Value} {ds gs : List (DataW H)} {before : List MemPlace}
    (hW : DataW.Whole enc Tryz.prog fn.params.toList s.vars apart W args.toList ds gs before) (hv : s.vars = [])
    (hts : ∀ t ∈ fn.params.toList, Tryz.prog.readableRec t = true ∧ t < Tryz.prog.types.size) (hr : fn.resultTypes = #[4])
    (h1 : (s.fn H (ds ++ gs)).results = [.lit (.bool true)]) (h2 : (s.fn H (ds ++ gs)).args = ds) (h3 : (s.fn H (ds ++ gs)).vars = []) (hk : Kept W W') : s.post enc Tryz.prog fn apart fresh handsOn again W args (.bool true) W' := by
  have hlt : ∀ x ∈ before, x.block < W.heap.size := fun x hx => hW.lt x hx
  obtain ⟨p, q, hA, hV, e, hz, hn⟩ := id hW
  rw [hv] at hV
  obtain ⟨rfl, rfl⟩ := trodVars_none hV
  have hb : before = p := by rw [e, List.append_nil]
  subst hb
  have hres : ∀ (b : Nat) (sp : Nat → Bool) (hd : Bool), DataW.TrodAll enc Tryz.prog W' b sp hd fn.resultTypes.toList ((Value.bool true).resultList fn.resultTypes.size) (s.fn H (ds ++ [])).results [] := fun b sp hd => by
    rw [hr, h1]
    exact trodAll_mk1 (shut_bool Tryz.underlying4 _)
  have hargs : ∀ sp : Nat → Bool, (∀ x ∈ before, sp x.block = true) → DataW.TrodAll enc Tryz.prog W' 0 sp true fn.params.toList args.toList (s.fn H (ds ++ [])).args before := fun sp hs => by
    rw [h2]
    exact args_stay hk hts hA hlt hs
  have hvars : ∀ sp : Nat → Bool, DataW.TrodVars enc Tryz.prog W' sp s.vars (s.fn H (ds ++ [])).vars [] := fun sp => by
    rw [hv, h3]
    rfl
  refine ⟨ds, [], before, [], before, [], hW, hres _ _ _, hargs _ (fun x hx => by simpa using hlt x hx), hvars _, (show Below W.heap.size W W' from hk).frame _, fun _ => ⟨?_, _, _, ([] ++ before) ++ [], ⟨[] ++ before, [], trodAll_append (hargs _ (fun _ _ => rfl)) (hres _ _ _), hvars _, rfl, ?_, ?_⟩, ?_⟩⟩
  · exact ok_one hr rfl (by simp [Value.okWide, Tryz.underlying4, Cell.okWide, Cell.ok])
  · intro b off hp
    have hin : MemPlace.cell b off ∈ before := by simpa using hp
    rw [(show Below W.heap.size W W' from hk).frozen (hlt _ hin)]
    exact hz b off hin
  · intro ha
    simpa using hn ha
  · intro x hx _
    simpa using hx
theorem trodAll_3 {P : Program} {w : World} {base : Nat} {spare : Nat → Bool} {t0 t1 t2 : TypeId} {args : Array Value} {ds : List (DataW H)} {ps : List MemPlace} (h : DataW.TrodAll enc P w base spare held [t0, t1, t2] args.toList ds ps) :
    ∃ v0 v1 v2 d0 d1 d2 p0 p1 p2, args = #[v0, v1, v2] ∧ ds = [d0, d1, d2] ∧ ps = p0 ++ (p1 ++ p2) ∧ DataW.Trod enc P w base spare held t0 v0 d0 p0 ∧ DataW.Trod enc P w base spare held t1 v1 d1 p1 ∧ DataW.Trod enc P w base spare held t2 v2 d2 p2 := by
  obtain ⟨v0, vs0, d0, ds0, p0, q0, hargs, rfl, rfl, hd0, hr0⟩ := trodAll_cons h
  obtain ⟨v1, vs1, d1, ds1, p1, q1, rfl, rfl, rfl, hd1, hr1⟩ := trodAll_cons hr0
  obtain ⟨v2, vs2, d2, ds2, p2, q2, rfl, rfl, rfl, hd2, hr2⟩ := trodAll_cons hr1
  obtain ⟨rfl, rfl, rfl⟩ := trodAll_nil hr2
  exact ⟨v0, v1, v2, d0, d1, d2, p0, p1, p2, by cases args; simp_all, rfl, by simp, hd0, hd1, hd2⟩
end
theorem pf_rowed : mapsRowed Tryz.prog = true := by kernel_rfl
theorem pf_stops : (Tryz.prog.stops == []) = true := by kernel_rfl
theorem pf_knobs : (Tryz.prog.stopKnobs == []) = true := by kernel_rfl
theorem pf_keys : (Rows.topInsideRow.plainKeys == Tryz.prog.plainKeys) = true := by kernel_rfl
theorem pf_heard : Tryz.prog.stopsHeard = true := by kernel_rfl
theorem pf_make : (Tryz.prog.make == some Rows.topInsideRow.make) = true := by kernel_rfl
theorem pf_lifts : (Rows.topInsideRow.lifted == Tryz.prog.liftsFinal) = true := by kernel_rfl
theorem pf_enter : Tryz.prog.mayEnter = true := by kernel_rfl

theorem topInside_lifted (os : Os) (started : os.Started) (H : Type) (enc : TypeId × Value → H) :
    ReturnsInHanded {} Tryz.checked os 3 .any (Rows.topInsideSpec.pre6 enc Tryz.prog Tryz.f3 Rows.topInsideRow.domain false) (Rows.topInsideSpec.post enc Tryz.prog Tryz.f3 false true false false) := by
  refine returnsInHanded_of_change (C := Tryz.checked) try_own started (by kernel_rfl) Tryz.func3
    (ChangeSpec.witness6 (enc := enc) (C := Tryz.checked) false ⟨#[], #[.slice none 0 0, .slice none 0 0, .agg #[.int .i64 0, .int .i64 0]], []⟩ 8 (by kernel_rfl) (by kernel_rfl) (by kernel_rfl) (by kernel_rfl)) ?_
  intro W base args ds gs before hval0 hW hcnd _
  have hval : ∀ (j : Nat) t v, Tryz.f3.params[j]? = some t → args[j]? = some v → Value.okWide Tryz.prog W .any base t v := hval0
  have hW' := hW
  obtain ⟨p, q, hA0, hV, rfl, hfz, hnd⟩ := hW
  have hA : DataW.TrodAll enc Tryz.prog W 0 (fun _ => true) true Tryz.f3.params.toList args.toList ds p := hA0
  rw [Tryz.params3] at hA hval
  obtain ⟨v0, v1, v2, d0, d1, d2, p0, p1, p2, rfl, rfl, rfl, h0, h1, h2⟩ := trodAll_3 hA
  obtain ⟨l0, ao0, c0, rfl, hl0⟩ := open_pts h0 (hval 0 22 v0 rfl rfl)
  obtain ⟨l1, ao1, c1, rfl, hl1⟩ := open_sgs h1 (hval 1 23 v1 rfl rfl)
  obtain ⟨x2, rfl⟩ := open_pt h2 (hval 2 25 v2 rfl rfl)
  refine (topInside_any l0 l1 x2 ao0 ao1 c0 c1 W hl0 hl1).mono fun e W' ⟨he, hk⟩ => ⟨_, he, ?_⟩
  refine law_post hW' rfl ?_ (by kernel_rfl) ?_ ?_ ?_ hk
  · rw [Tryz.params3]
    intro t ht
    simp only [List.mem_cons, List.not_mem_nil, or_false] at ht
    rcases ht with rfl | rfl | rfl
    all_goals exact ⟨by kernel_rfl, of_decide_eq_true (by kernel_rfl)⟩
  all_goals
    obtain ⟨rfl, rfl⟩ := trodVars_none hV
    rfl

theorem topInside_wf : Rows.topInsideRow.wf (OpenSpec.ofChange Rows.topInsideSpec) = true := by kernel_rfl
theorem topInside_inPlace : (Rows.topInsideRow.inPlace == Tryz.prog.inPlace 3) = true := by kernel_rfl
theorem topInside_unfollowed : (Rows.topInsideRow.unfollowed == Tryz.prog.unfollowed 3) = true := by kernel_rfl
theorem topInside_recurses : (Rows.topInsideRow.recurses == Tryz.prog.recurses 3) = true := by kernel_rfl
theorem topInside_named : (Rows.topInsideRow.named == Tryz.prog.varsNamed 3) = true := by kernel_rfl
theorem topInside_closed : joinedFacts Tryz.prog 3 Tryz.f3 Rows.topInsideSpec Rows.topInsideRow = true := by
  unfold joinedFacts
  simp only [Bool.and_eq_true]
  exact ⟨⟨⟨⟨⟨⟨⟨⟨⟨⟨⟨⟨⟨⟨⟨⟨⟨⟨⟨⟨⟨⟨⟨⟨⟨⟨⟨⟨⟨⟨⟨topInside_wf, try_laidOut⟩, pf_rowed⟩, by kernel_rfl⟩, by kernel_rfl⟩, by kernel_rfl⟩, pf_stops⟩, by kernel_rfl⟩, pf_knobs⟩, topInside_inPlace⟩, topInside_unfollowed⟩, topInside_recurses⟩, topInside_named⟩, by kernel_rfl⟩, by kernel_rfl⟩, by kernel_rfl⟩, by kernel_rfl⟩, by kernel_rfl⟩, by kernel_rfl⟩, by kernel_rfl⟩, by kernel_rfl⟩, by kernel_rfl⟩, pf_keys⟩, by kernel_rfl⟩, pf_heard⟩, pf_enter⟩, pf_lifts⟩, pf_make⟩, by kernel_rfl⟩, by kernel_rfl⟩, by kernel_rfl⟩, by kernel_rfl⟩
theorem topInside_inst : Tryz.f3.isInstance Tryz.prog Rows.topInsideRow.origin Rows.topInsideRow.targs := of_decide_eq_true (by kernel_rfl)
theorem topInside_wrap : Tryz.f3.isWrapper Tryz.prog Rows.topInsideRow.wrapper Rows.topInsideRow.mainSum := by
  unfold Func.isWrapper; rw [if_neg (by decide +kernel)]; exact ⟨rfl, rfl⟩
theorem topInside_func : Tryz.prog.funcNamed Rows.topInsideRow.func = some 3 := by kernel_rfl
theorem topInside_holds : Rows.TopInsideSaid :=
  OpenClaim.holds_of_wide (p := Tryz.pinned) (s := Rows.topInsideSpec) (c := Rows.topInsideRow) 3 Tryz.f3 rfl rfl rfl rfl rfl rfl rfl ⟨rfl, rfl, rfl, rfl, rfl⟩ rfl rfl rfl rfl rfl topInside_func Tryz.func3
    topInside_closed topInside_inst topInside_wrap
    (fun os started H enc _ => topInside_lifted os started H enc)
#print axioms topInside_holds
end Go.Proofs.YtlglfcdobbocnaaGreat
