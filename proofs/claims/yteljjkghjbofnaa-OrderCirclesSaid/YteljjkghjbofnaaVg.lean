/- OrderCircles: the row. -/
import Derived.Test.YteljjkghjbofnaaVf
import Derived.Test.YteljjkghjbofnaaXk
import Derived.Test.YteljjkghjbofnaaYr
set_option maxRecDepth 100000
namespace Go.Proofs.Yteljjkghjbofnaa
open Go Go.ChangeShapes Go.WideShapes Go.ChangeAt Go.RowKit Go.Joins

theorem orderCircles_lifted (os : Os) (started : os.Started) (H : Type) (enc : TypeId × Value → H) :
    ReturnsInHanded {} Try.checked os 6 .any (Rows.orderCirclesSpec.pre6 enc Try.prog Try.f6 Rows.orderCirclesRow.domain false) (Rows.orderCirclesSpec.post enc Try.prog Try.f6 false true false false) := by
  refine returnsInHanded_of_change (C := Try.checked) try_own started (by kernel_rfl) Try.func6
    (ChangeSpec.witness6 (enc := enc) (C := Try.checked) false ⟨#[], #[.agg #[.int .i64 0, .slice none 0 0, .slice none 0 0], .slice none 0 0], []⟩ 8 (by kernel_rfl) (by kernel_rfl) (by kernel_rfl) (by kernel_rfl)) ?_
  intro W base args ds gs before hval0 hW hcnd _
  have hval : ∀ (j : Nat) t v, Try.f6.params[j]? = some t → args[j]? = some v → Value.okWide Try.prog W .any base t v := hval0
  have hW' := hW
  obtain ⟨p, q, hA0, hV, rfl, hfz, hnd⟩ := hW
  have hA : DataW.TrodAll enc Try.prog W 0 (fun _ => true) true Try.f6.params.toList args.toList ds p := hA0
  rw [Try.params6] at hA hval
  obtain ⟨v0, v1, d0, d1, p0, p1, rfl, rfl, rfl, h0, h1⟩ := trodAll_two hA
  obtain ⟨o0, ao0, bo0, ca0, cb0, rfl, hpa0, hpb0⟩ := open_prob (hval 0 24 v0 rfl rfl) h0
  obtain ⟨l1, lo1, c1, rfl, hl1, hc1⟩ := open_seqC (hval 1 31 v1 rfl rfl) h1
  refine (OrderCircles_any o0 ao0 bo0 ca0 cb0 l1 lo1 c1 W hpa0 hpb0 hl1 hc1).mono fun e W' ⟨he, hk⟩ => ⟨_, he, ?_⟩
  refine law_post hW' rfl ?_ (by kernel_rfl) ?_ ?_ ?_ hk
  · rw [Try.params6]
    intro t ht
    simp only [List.mem_cons, List.not_mem_nil, or_false] at ht
    rcases ht with rfl | rfl
    all_goals exact ⟨by kernel_rfl, of_decide_eq_true (by kernel_rfl)⟩
  all_goals
    obtain ⟨rfl, rfl⟩ := trodVars_none hV
    rfl

theorem orderCircles_wf : Rows.orderCirclesRow.wf (OpenSpec.ofChange Rows.orderCirclesSpec) = true := by kernel_rfl
theorem orderCircles_inPlace : (Rows.orderCirclesRow.inPlace == Try.prog.inPlace 6) = true := by kernel_rfl
theorem orderCircles_unfollowed : (Rows.orderCirclesRow.unfollowed == Try.prog.unfollowed 6) = true := by kernel_rfl
theorem orderCircles_recurses : (Rows.orderCirclesRow.recurses == Try.prog.recurses 6) = true := by kernel_rfl
theorem orderCircles_named : (Rows.orderCirclesRow.named == Try.prog.varsNamed 6) = true := by kernel_rfl
theorem orderCircles_closed : joinedFacts Try.prog 6 Try.f6 Rows.orderCirclesSpec Rows.orderCirclesRow = true := by
  unfold joinedFacts
  simp only [Bool.and_eq_true]
  exact ⟨⟨⟨⟨⟨⟨⟨⟨⟨⟨⟨⟨⟨⟨⟨⟨⟨⟨⟨⟨⟨⟨⟨⟨⟨⟨⟨⟨⟨⟨⟨orderCircles_wf, try_laidOut⟩, pf_rowed⟩, by kernel_rfl⟩, by kernel_rfl⟩, by kernel_rfl⟩, pf_stops⟩, by kernel_rfl⟩, pf_knobs⟩, orderCircles_inPlace⟩, orderCircles_unfollowed⟩, orderCircles_recurses⟩, orderCircles_named⟩, by kernel_rfl⟩, by kernel_rfl⟩, by kernel_rfl⟩, by kernel_rfl⟩, by kernel_rfl⟩, by kernel_rfl⟩, by kernel_rfl⟩, by kernel_rfl⟩, by kernel_rfl⟩, pf_keys⟩, by kernel_rfl⟩, pf_heard⟩, pf_enter⟩, pf_lifts⟩, pf_make⟩, by kernel_rfl⟩, by kernel_rfl⟩, by kernel_rfl⟩, by kernel_rfl⟩
theorem orderCircles_inst : Try.f6.isInstance Try.prog Rows.orderCirclesRow.origin Rows.orderCirclesRow.targs := of_decide_eq_true (by kernel_rfl)
theorem orderCircles_wrap : Try.f6.isWrapper Try.prog Rows.orderCirclesRow.wrapper Rows.orderCirclesRow.mainSum := by
  unfold Func.isWrapper; rw [if_neg (by decide +kernel)]; exact ⟨rfl, rfl⟩
theorem orderCircles_func : Try.prog.funcNamed Rows.orderCirclesRow.func = some 6 := by kernel_rfl
theorem orderCircles_holds : Rows.OrderCirclesSaid :=
  OpenClaim.holds_of_wide (p := Try.pinned) (s := Rows.orderCirclesSpec) (c := Rows.orderCirclesRow) 6 Try.f6 rfl rfl rfl rfl rfl rfl rfl ⟨rfl, rfl, rfl, rfl, rfl⟩ rfl rfl rfl rfl rfl orderCircles_func Try.func6
    orderCircles_closed orderCircles_inst orderCircles_wrap
    (fun os started H enc _ => orderCircles_lifted os started H enc)
#print axioms orderCircles_holds
end Go.Proofs.Yteljjkghjbofnaa
