/- TopTrue: the row. -/
import Derived.Test.YtgmodcipbklejaaV
import Derived.Test.YtgmodcipbklejaaW
set_option maxRecDepth 100000
namespace Go.Proofs.Ytgmodcipbklejaa
open Go Go.ChangeShapes Go.WideShapes Go.ChangeAt Go.RowKit Go.Joins

theorem pf_rowed : mapsRowed Try.prog = true := by kernel_rfl
theorem pf_stops : (Try.prog.stops == []) = true := by kernel_rfl
theorem pf_knobs : (Try.prog.stopKnobs == []) = true := by kernel_rfl
theorem pf_keys : (Rows.topTrueRow.plainKeys == Try.prog.plainKeys) = true := by kernel_rfl
theorem pf_heard : Try.prog.stopsHeard = true := by kernel_rfl
theorem pf_make : (Try.prog.make == some Rows.topTrueRow.make) = true := by kernel_rfl
theorem pf_lifts : (Rows.topTrueRow.lifted == Try.prog.liftsFinal) = true := by kernel_rfl
theorem pf_enter : Try.prog.mayEnter = true := by kernel_rfl

theorem topTrue_lifted (os : Os) (started : os.Started) (H : Type) (enc : TypeId × Value → H) :
    ReturnsInHanded {} Try.checked os 3 .any (Rows.topTrueSpec.pre6 enc Try.prog Try.f3 Rows.topTrueRow.domain false) (Rows.topTrueSpec.post enc Try.prog Try.f3 false true false false) := by
  refine returnsInHanded_of_change (C := Try.checked) try_own started (by kernel_rfl) Try.func3
    (ChangeSpec.witness6 (enc := enc) (C := Try.checked) false ⟨#[], #[.agg #[.int .i64 0, .slice none 0 0, .slice none 0 0], .int .i64 0, .slice none 0 0, .slice none 0 0, .int .i64 0], []⟩ 8 (by kernel_rfl) (by kernel_rfl) (by kernel_rfl) (by kernel_rfl)) ?_
  intro W base args ds gs before hval0 hW hcnd _
  have hval : ∀ (j : Nat) t v, Try.f3.params[j]? = some t → args[j]? = some v → Value.okWide Try.prog W .any base t v := hval0
  have hW' := hW
  obtain ⟨p, q, hA0, hV, rfl, hfz, hnd⟩ := hW
  have hA : DataW.TrodAll enc Try.prog W 0 (fun _ => true) true Try.f3.params.toList args.toList ds p := hA0
  rw [Try.params3] at hA hval
  obtain ⟨v0, v1, v2, v3, v4, d0, d1, d2, d3, d4, p0, p1, p2, p3, p4, rfl, rfl, rfl, h0, h1, h2, h3, h4⟩ := trodAll_5 hA
  obtain ⟨o0, ao0, bo0, ca0, cb0, rfl, hpa0, hpb0, hla0, hlb0⟩ := open_prob (hval 0 24 v0 rfl rfl) h0
  obtain ⟨x1, rfl⟩ := open_int (hval 1 3 v1 rfl rfl)
  obtain ⟨l2, lo2, c2, rfl, hl2, hc2, hn2⟩ := open_seqC (hval 2 25 v2 rfl rfl) h2
  obtain ⟨l3, lo3, c3, rfl, hl3, hn3⟩ := open_bytes (hval 3 26 v3 rfl rfl) h3
  obtain ⟨x4, rfl⟩ := open_int (hval 4 3 v4 rfl rfl)
  refine (TopTrue_any o0 ao0 bo0 ca0 cb0 x1 l2 lo2 c2 l3 lo3 c3 x4 W hpa0 hpb0 hla0 hlb0 hl2 hc2 hn2 hl3 hn3).mono fun e W' ⟨he, hk⟩ => ⟨_, he, ?_⟩
  refine law_post hW' rfl ?_ (by kernel_rfl) ?_ ?_ ?_ hk
  · rw [Try.params3]
    intro t ht
    simp only [List.mem_cons, List.not_mem_nil, or_false] at ht
    rcases ht with rfl | rfl | rfl | rfl | rfl
    all_goals exact ⟨by kernel_rfl, of_decide_eq_true (by kernel_rfl)⟩
  all_goals
    obtain ⟨rfl, rfl⟩ := trodVars_none hV
    rfl

theorem topTrue_wf : Rows.topTrueRow.wf (OpenSpec.ofChange Rows.topTrueSpec) = true := by kernel_rfl
theorem topTrue_inPlace : (Rows.topTrueRow.inPlace == Try.prog.inPlace 3) = true := by kernel_rfl
theorem topTrue_unfollowed : (Rows.topTrueRow.unfollowed == Try.prog.unfollowed 3) = true := by kernel_rfl
theorem topTrue_recurses : (Rows.topTrueRow.recurses == Try.prog.recurses 3) = true := by kernel_rfl
theorem topTrue_named : (Rows.topTrueRow.named == Try.prog.varsNamed 3) = true := by kernel_rfl
theorem topTrue_closed : joinedFacts Try.prog 3 Try.f3 Rows.topTrueSpec Rows.topTrueRow = true := by
  unfold joinedFacts
  simp only [Bool.and_eq_true]
  exact ⟨⟨⟨⟨⟨⟨⟨⟨⟨⟨⟨⟨⟨⟨⟨⟨⟨⟨⟨⟨⟨⟨⟨⟨⟨⟨⟨⟨⟨⟨⟨topTrue_wf, try_laidOut⟩, pf_rowed⟩, by kernel_rfl⟩, by kernel_rfl⟩, by kernel_rfl⟩, pf_stops⟩, by kernel_rfl⟩, pf_knobs⟩, topTrue_inPlace⟩, topTrue_unfollowed⟩, topTrue_recurses⟩, topTrue_named⟩, by kernel_rfl⟩, by kernel_rfl⟩, by kernel_rfl⟩, by kernel_rfl⟩, by kernel_rfl⟩, by kernel_rfl⟩, by kernel_rfl⟩, by kernel_rfl⟩, by kernel_rfl⟩, pf_keys⟩, by kernel_rfl⟩, pf_heard⟩, pf_enter⟩, pf_lifts⟩, pf_make⟩, by kernel_rfl⟩, by kernel_rfl⟩, by kernel_rfl⟩, by kernel_rfl⟩
theorem topTrue_inst : Try.f3.isInstance Try.prog Rows.topTrueRow.origin Rows.topTrueRow.targs := of_decide_eq_true (by kernel_rfl)
theorem topTrue_wrap : Try.f3.isWrapper Try.prog Rows.topTrueRow.wrapper Rows.topTrueRow.mainSum := by
  unfold Func.isWrapper; rw [if_neg (by decide +kernel)]; exact ⟨rfl, rfl⟩
theorem topTrue_func : Try.prog.funcNamed Rows.topTrueRow.func = some 3 := by kernel_rfl
theorem topTrue_holds : Rows.TopTrueSaid :=
  OpenClaim.holds_of_wide (p := Try.pinned) (s := Rows.topTrueSpec) (c := Rows.topTrueRow) 3 Try.f3 rfl rfl rfl rfl rfl rfl rfl ⟨rfl, rfl, rfl, rfl, rfl⟩ rfl rfl rfl rfl rfl topTrue_func Try.func3
    topTrue_closed topTrue_inst topTrue_wrap
    (fun os started H enc _ => topTrue_lifted os started H enc)
#print axioms topTrue_holds
end Go.Proofs.Ytgmodcipbklejaa
