/- TopOrders: the row. -/
import Derived.Test.YtgmodcipbklejaaY
import Derived.Test.YtgmodcipbklejaaW
set_option maxRecDepth 100000
namespace Go.Proofs.Ytgmodcipbklejaa
open Go Go.ChangeShapes Go.WideShapes Go.ChangeAt Go.RowKit Go.Joins

theorem pf_rowed : mapsRowed Try.prog = true := by kernel_rfl
theorem pf_stops : (Try.prog.stops == []) = true := by kernel_rfl
theorem pf_knobs : (Try.prog.stopKnobs == []) = true := by kernel_rfl
theorem pf_keys : (Rows.topOrdersRow.plainKeys == Try.prog.plainKeys) = true := by kernel_rfl
theorem pf_heard : Try.prog.stopsHeard = true := by kernel_rfl
theorem pf_make : (Try.prog.make == some Rows.topOrdersRow.make) = true := by kernel_rfl
theorem pf_lifts : (Rows.topOrdersRow.lifted == Try.prog.liftsFinal) = true := by kernel_rfl
theorem pf_enter : Try.prog.mayEnter = true := by kernel_rfl

theorem topOrders_lifted (os : Os) (started : os.Started) (H : Type) (enc : TypeId × Value → H) :
    ReturnsInHanded {} Try.checked os 4 .any (Rows.topOrdersSpec.pre6 enc Try.prog Try.f4 Rows.topOrdersRow.domain false) (Rows.topOrdersSpec.post enc Try.prog Try.f4 false true false false) := by
  refine returnsInHanded_of_change (C := Try.checked) try_own started (by kernel_rfl) Try.func4
    (ChangeSpec.witness6 (enc := enc) (C := Try.checked) false ⟨#[], #[.agg #[.int .i64 0, .slice none 0 0, .slice none 0 0], .int .i64 0, .slice none 0 0, .slice none 0 0, .slice none 0 0, .int .i64 0], []⟩ 8 (by kernel_rfl) (by kernel_rfl) (by kernel_rfl) (by kernel_rfl)) ?_
  intro W base args ds gs before hval0 hW hcnd _
  have hval : ∀ (j : Nat) t v, Try.f4.params[j]? = some t → args[j]? = some v → Value.okWide Try.prog W .any base t v := hval0
  have hW' := hW
  obtain ⟨p, q, hA0, hV, rfl, hfz, hnd⟩ := hW
  have hA : DataW.TrodAll enc Try.prog W 0 (fun _ => true) true Try.f4.params.toList args.toList ds p := hA0
  rw [Try.params4] at hA hval
  obtain ⟨v0, v1, v2, v3, v4, v5, d0, d1, d2, d3, d4, d5, p0, p1, p2, p3, p4, p5, rfl, rfl, rfl, h0, h1, h2, h3, h4, h5⟩ := trodAll_6 hA
  obtain ⟨o0, ao0, bo0, ca0, cb0, rfl, hpa0, hpb0, hla0, hlb0⟩ := open_prob (hval 0 24 v0 rfl rfl) h0
  obtain ⟨x1, rfl⟩ := open_int (hval 1 3 v1 rfl rfl)
  obtain ⟨l2, lo2, c2, rfl, hl2, hc2, hn2⟩ := open_seqC (hval 2 25 v2 rfl rfl) h2
  obtain ⟨l3, lo3, c3, rfl, hl3, hc3, hn3⟩ := open_seqC (hval 3 25 v3 rfl rfl) h3
  obtain ⟨l4, lo4, c4, rfl, hl4, hn4⟩ := open_bytes (hval 4 26 v4 rfl rfl) h4
  obtain ⟨x5, rfl⟩ := open_int (hval 5 3 v5 rfl rfl)
  refine (TopOrders_any o0 ao0 bo0 ca0 cb0 x1 l2 lo2 c2 l3 lo3 c3 l4 lo4 c4 x5 W hpa0 hpb0 hla0 hlb0 hl2 hc2 hn2 hl3 hc3 hn3 hl4 hn4).mono fun e W' ⟨he, hk⟩ => ⟨_, he, ?_⟩
  refine law_post hW' rfl ?_ (by kernel_rfl) ?_ ?_ ?_ hk
  · rw [Try.params4]
    intro t ht
    simp only [List.mem_cons, List.not_mem_nil, or_false] at ht
    rcases ht with rfl | rfl | rfl | rfl | rfl | rfl
    all_goals exact ⟨by kernel_rfl, of_decide_eq_true (by kernel_rfl)⟩
  all_goals
    obtain ⟨rfl, rfl⟩ := trodVars_none hV
    rfl

theorem topOrders_wf : Rows.topOrdersRow.wf (OpenSpec.ofChange Rows.topOrdersSpec) = true := by kernel_rfl
theorem topOrders_inPlace : (Rows.topOrdersRow.inPlace == Try.prog.inPlace 4) = true := by kernel_rfl
theorem topOrders_unfollowed : (Rows.topOrdersRow.unfollowed == Try.prog.unfollowed 4) = true := by kernel_rfl
theorem topOrders_recurses : (Rows.topOrdersRow.recurses == Try.prog.recurses 4) = true := by kernel_rfl
theorem topOrders_named : (Rows.topOrdersRow.named == Try.prog.varsNamed 4) = true := by kernel_rfl
theorem topOrders_closed : joinedFacts Try.prog 4 Try.f4 Rows.topOrdersSpec Rows.topOrdersRow = true := by
  unfold joinedFacts
  simp only [Bool.and_eq_true]
  exact ⟨⟨⟨⟨⟨⟨⟨⟨⟨⟨⟨⟨⟨⟨⟨⟨⟨⟨⟨⟨⟨⟨⟨⟨⟨⟨⟨⟨⟨⟨⟨topOrders_wf, try_laidOut⟩, pf_rowed⟩, by kernel_rfl⟩, by kernel_rfl⟩, by kernel_rfl⟩, pf_stops⟩, by kernel_rfl⟩, pf_knobs⟩, topOrders_inPlace⟩, topOrders_unfollowed⟩, topOrders_recurses⟩, topOrders_named⟩, by kernel_rfl⟩, by kernel_rfl⟩, by kernel_rfl⟩, by kernel_rfl⟩, by kernel_rfl⟩, by kernel_rfl⟩, by kernel_rfl⟩, by kernel_rfl⟩, by kernel_rfl⟩, pf_keys⟩, by kernel_rfl⟩, pf_heard⟩, pf_enter⟩, pf_lifts⟩, pf_make⟩, by kernel_rfl⟩, by kernel_rfl⟩, by kernel_rfl⟩, by kernel_rfl⟩
theorem topOrders_inst : Try.f4.isInstance Try.prog Rows.topOrdersRow.origin Rows.topOrdersRow.targs := of_decide_eq_true (by kernel_rfl)
theorem topOrders_wrap : Try.f4.isWrapper Try.prog Rows.topOrdersRow.wrapper Rows.topOrdersRow.mainSum := by
  unfold Func.isWrapper; rw [if_neg (by decide +kernel)]; exact ⟨rfl, rfl⟩
theorem topOrders_func : Try.prog.funcNamed Rows.topOrdersRow.func = some 4 := by kernel_rfl
theorem topOrders_holds : Rows.TopOrdersSaid :=
  OpenClaim.holds_of_wide (p := Try.pinned) (s := Rows.topOrdersSpec) (c := Rows.topOrdersRow) 4 Try.f4 rfl rfl rfl rfl rfl rfl rfl ⟨rfl, rfl, rfl, rfl, rfl⟩ rfl rfl rfl rfl rfl topOrders_func Try.func4
    topOrders_closed topOrders_inst topOrders_wrap
    (fun os started H enc _ => topOrders_lifted os started H enc)
#print axioms topOrders_holds
end Go.Proofs.Ytgmodcipbklejaa
