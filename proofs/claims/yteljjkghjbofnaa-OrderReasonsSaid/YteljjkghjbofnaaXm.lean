/- OrderReasons: the row. -/
import Derived.Test.YteljjkghjbofnaaXl
import Derived.Test.YteljjkghjbofnaaXk
import Derived.Test.YteljjkghjbofnaaYr
set_option maxRecDepth 100000
namespace Go.Proofs.Yteljjkghjbofnaa
open Go Go.ChangeShapes Go.WideShapes Go.ChangeAt Go.RowKit Go.Joins

theorem orderReasons_lifted (os : Os) (started : os.Started) (H : Type) (enc : TypeId × Value → H) :
    ReturnsInHanded {} Try.checked os 5 .any (Rows.orderReasonsSpec.pre6 enc Try.prog Try.f5 Rows.orderReasonsRow.domain false) (Rows.orderReasonsSpec.post enc Try.prog Try.f5 false true false false) := by
  refine returnsInHanded_of_change (C := Try.checked) try_own started (by kernel_rfl) Try.func5
    (ChangeSpec.witness6 (enc := enc) (C := Try.checked) false ⟨#[], #[.agg #[.int .i64 0, .slice none 0 0, .slice none 0 0], .int .i64 0, .slice none 0 0], []⟩ 8 (by kernel_rfl) (by kernel_rfl) (by kernel_rfl) (by kernel_rfl)) ?_
  intro W base args ds gs before hval0 hW hcnd _
  have hval : ∀ (j : Nat) t v, Try.f5.params[j]? = some t → args[j]? = some v → Value.okWide Try.prog W .any base t v := hval0
  have hW' := hW
  obtain ⟨p, q, hA0, hV, rfl, hfz, hnd⟩ := hW
  have hA : DataW.TrodAll enc Try.prog W 0 (fun _ => true) true Try.f5.params.toList args.toList ds p := hA0
  rw [Try.params5] at hA hval
  obtain ⟨v0, v1, v2, d0, d1, d2, p0, p1, p2, rfl, rfl, rfl, h0, h1, h2⟩ := trodAll_three hA
  obtain ⟨o0, ao0, bo0, ca0, cb0, rfl, hpa0, hpb0⟩ := open_prob (hval 0 24 v0 rfl rfl) h0
  obtain ⟨x1, rfl⟩ := open_int (hval 1 3 v1 rfl rfl)
  obtain ⟨l2, lo2, c2, rfl, hl2, hc2⟩ := open_seqC (hval 2 31 v2 rfl rfl) h2
  refine (OrderReasons_any o0 ao0 bo0 ca0 cb0 x1 l2 lo2 c2 W hpa0 hpb0 hl2 hc2).mono fun e W' ⟨he, hk⟩ => ⟨_, he, ?_⟩
  refine law_post hW' rfl ?_ (by kernel_rfl) ?_ ?_ ?_ hk
  · rw [Try.params5]
    intro t ht
    simp only [List.mem_cons, List.not_mem_nil, or_false] at ht
    rcases ht with rfl | rfl | rfl
    all_goals exact ⟨by kernel_rfl, of_decide_eq_true (by kernel_rfl)⟩
  all_goals
    obtain ⟨rfl, rfl⟩ := trodVars_none hV
    rfl

theorem orderReasons_wf : Rows.orderReasonsRow.wf (OpenSpec.ofChange Rows.orderReasonsSpec) = true := by kernel_rfl
theorem orderReasons_inPlace : (Rows.orderReasonsRow.inPlace == Try.prog.inPlace 5) = true := by kernel_rfl
theorem orderReasons_unfollowed : (Rows.orderReasonsRow.unfollowed == Try.prog.unfollowed 5) = true := by kernel_rfl
theorem orderReasons_recurses : (Rows.orderReasonsRow.recurses == Try.prog.recurses 5) = true := by kernel_rfl
theorem orderReasons_named : (Rows.orderReasonsRow.named == Try.prog.varsNamed 5) = true := by kernel_rfl
theorem orderReasons_closed : joinedFacts Try.prog 5 Try.f5 Rows.orderReasonsSpec Rows.orderReasonsRow = true := by
  unfold joinedFacts
  simp only [Bool.and_eq_true]
  exact ⟨⟨⟨⟨⟨⟨⟨⟨⟨⟨⟨⟨⟨⟨⟨⟨⟨⟨⟨⟨⟨⟨⟨⟨⟨⟨⟨⟨⟨⟨⟨orderReasons_wf, try_laidOut⟩, pf_rowed⟩, by kernel_rfl⟩, by kernel_rfl⟩, by kernel_rfl⟩, pf_stops⟩, by kernel_rfl⟩, pf_knobs⟩, orderReasons_inPlace⟩, orderReasons_unfollowed⟩, orderReasons_recurses⟩, orderReasons_named⟩, by kernel_rfl⟩, by kernel_rfl⟩, by kernel_rfl⟩, by kernel_rfl⟩, by kernel_rfl⟩, by kernel_rfl⟩, by kernel_rfl⟩, by kernel_rfl⟩, by kernel_rfl⟩, pf_keys⟩, by kernel_rfl⟩, pf_heard⟩, pf_enter⟩, pf_lifts⟩, pf_make⟩, by kernel_rfl⟩, by kernel_rfl⟩, by kernel_rfl⟩, by kernel_rfl⟩
theorem orderReasons_inst : Try.f5.isInstance Try.prog Rows.orderReasonsRow.origin Rows.orderReasonsRow.targs := of_decide_eq_true (by kernel_rfl)
theorem orderReasons_wrap : Try.f5.isWrapper Try.prog Rows.orderReasonsRow.wrapper Rows.orderReasonsRow.mainSum := by
  unfold Func.isWrapper; rw [if_neg (by decide +kernel)]; exact ⟨rfl, rfl⟩
theorem orderReasons_func : Try.prog.funcNamed Rows.orderReasonsRow.func = some 5 := by kernel_rfl
theorem orderReasons_holds : Rows.OrderReasonsSaid :=
  OpenClaim.holds_of_wide (p := Try.pinned) (s := Rows.orderReasonsSpec) (c := Rows.orderReasonsRow) 5 Try.f5 rfl rfl rfl rfl rfl rfl rfl ⟨rfl, rfl, rfl, rfl, rfl⟩ rfl rfl rfl rfl rfl orderReasons_func Try.func5
    orderReasons_closed orderReasons_inst orderReasons_wrap
    (fun os started H enc _ => orderReasons_lifted os started H enc)
#print axioms orderReasons_holds
end Go.Proofs.Yteljjkghjbofnaa
