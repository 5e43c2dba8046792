/- OrderLeasts: the row. -/
import Derived.Test.YteljjkghjbofnaaWg
import Derived.Test.YteljjkghjbofnaaXk
import Derived.Test.YteljjkghjbofnaaYr
set_option maxRecDepth 100000
namespace Go.Proofs.Yteljjkghjbofnaa
open Go Go.ChangeShapes Go.WideShapes Go.ChangeAt Go.RowKit Go.Joins

theorem orderLeasts_lifted (os : Os) (started : os.Started) (H : Type) (enc : TypeId × Value → H) :
    ReturnsInHanded {} Try.checked os 14 .any (Rows.orderLeastsSpec.pre6 enc Try.prog Try.f14 Rows.orderLeastsRow.domain false) (Rows.orderLeastsSpec.post enc Try.prog Try.f14 false true false false) := by
  refine returnsInHanded_of_change (C := Try.checked) try_own started (by kernel_rfl) Try.func14
    (ChangeSpec.witness6 (enc := enc) (C := Try.checked) false ⟨#[], #[.agg #[.int .i64 0, .slice none 0 0, .slice none 0 0]], []⟩ 8 (by kernel_rfl) (by kernel_rfl) (by kernel_rfl) (by kernel_rfl)) ?_
  intro W base args ds gs before hval0 hW hcnd _
  have hval : ∀ (j : Nat) t v, Try.f14.params[j]? = some t → args[j]? = some v → Value.okWide Try.prog W .any base t v := hval0
  have hW' := hW
  obtain ⟨p, q, hA0, hV, rfl, hfz, hnd⟩ := hW
  have hA : DataW.TrodAll enc Try.prog W 0 (fun _ => true) true Try.f14.params.toList args.toList ds p := hA0
  rw [Try.params14] at hA hval
  obtain ⟨v0, d0, rfl, rfl, h0⟩ := trodAll_one hA
  obtain ⟨o0, ao0, bo0, ca0, cb0, rfl, hpa0, hpb0⟩ := open_prob (hval 0 24 v0 rfl rfl) h0
  refine (OrderLeasts_any o0 ao0 bo0 ca0 cb0 W hpa0 hpb0).mono fun e W' ⟨he, hk⟩ => ⟨_, he, ?_⟩
  refine law_post hW' rfl ?_ (by kernel_rfl) ?_ ?_ ?_ hk
  · rw [Try.params14]
    intro t ht
    simp only [List.mem_cons, List.not_mem_nil, or_false] at ht
    obtain rfl := ht
    exact ⟨by kernel_rfl, of_decide_eq_true (by kernel_rfl)⟩
  all_goals
    obtain ⟨rfl, rfl⟩ := trodVars_none hV
    rfl

theorem orderLeasts_wf : Rows.orderLeastsRow.wf (OpenSpec.ofChange Rows.orderLeastsSpec) = true := by kernel_rfl
theorem orderLeasts_inPlace : (Rows.orderLeastsRow.inPlace == Try.prog.inPlace 14) = true := by kernel_rfl
theorem orderLeasts_unfollowed : (Rows.orderLeastsRow.unfollowed == Try.prog.unfollowed 14) = true := by kernel_rfl
theorem orderLeasts_recurses : (Rows.orderLeastsRow.recurses == Try.prog.recurses 14) = true := by kernel_rfl
theorem orderLeasts_named : (Rows.orderLeastsRow.named == Try.prog.varsNamed 14) = true := by kernel_rfl
theorem orderLeasts_closed : joinedFacts Try.prog 14 Try.f14 Rows.orderLeastsSpec Rows.orderLeastsRow = true := by
  unfold joinedFacts
  simp only [Bool.and_eq_true]
  exact ⟨⟨⟨⟨⟨⟨⟨⟨⟨⟨⟨⟨⟨⟨⟨⟨⟨⟨⟨⟨⟨⟨⟨⟨⟨⟨⟨⟨⟨⟨⟨orderLeasts_wf, try_laidOut⟩, pf_rowed⟩, by kernel_rfl⟩, by kernel_rfl⟩, by kernel_rfl⟩, pf_stops⟩, by kernel_rfl⟩, pf_knobs⟩, orderLeasts_inPlace⟩, orderLeasts_unfollowed⟩, orderLeasts_recurses⟩, orderLeasts_named⟩, by kernel_rfl⟩, by kernel_rfl⟩, by kernel_rfl⟩, by kernel_rfl⟩, by kernel_rfl⟩, by kernel_rfl⟩, by kernel_rfl⟩, by kernel_rfl⟩, by kernel_rfl⟩, pf_keys⟩, by kernel_rfl⟩, pf_heard⟩, pf_enter⟩, pf_lifts⟩, pf_make⟩, by kernel_rfl⟩, by kernel_rfl⟩, by kernel_rfl⟩, by kernel_rfl⟩
theorem orderLeasts_inst : Try.f14.isInstance Try.prog Rows.orderLeastsRow.origin Rows.orderLeastsRow.targs := of_decide_eq_true (by kernel_rfl)
theorem orderLeasts_wrap : Try.f14.isWrapper Try.prog Rows.orderLeastsRow.wrapper Rows.orderLeastsRow.mainSum := by
  unfold Func.isWrapper; rw [if_neg (by decide +kernel)]; exact ⟨rfl, rfl⟩
theorem orderLeasts_func : Try.prog.funcNamed Rows.orderLeastsRow.func = some 14 := by kernel_rfl
theorem orderLeasts_holds : Rows.OrderLeastsSaid :=
  OpenClaim.holds_of_wide (p := Try.pinned) (s := Rows.orderLeastsSpec) (c := Rows.orderLeastsRow) 14 Try.f14 rfl rfl rfl rfl rfl rfl rfl ⟨rfl, rfl, rfl, rfl, rfl⟩ rfl rfl rfl rfl rfl orderLeasts_func Try.func14
    orderLeasts_closed orderLeasts_inst orderLeasts_wrap
    (fun os started H enc _ => orderLeasts_lifted os started H enc)
#print axioms orderLeasts_holds
end Go.Proofs.Yteljjkghjbofnaa
