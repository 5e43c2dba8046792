/- OrderWaits: the row. -/
import Derived.Test.YteljjkghjbofnaaTu
import Derived.Test.YteljjkghjbofnaaXk
import Derived.Test.YteljjkghjbofnaaYr
set_option maxRecDepth 100000
namespace Go.Proofs.Yteljjkghjbofnaa
open Go Go.ChangeShapes Go.WideShapes Go.ChangeAt Go.RowKit Go.Joins

theorem orderWaits_lifted (os : Os) (started : os.Started) (H : Type) (enc : TypeId × Value → H) :
    ReturnsInHanded {} Try.checked os 4 .any (Rows.orderWaitsSpec.pre6 enc Try.prog Try.f4 Rows.orderWaitsRow.domain false) (Rows.orderWaitsSpec.post enc Try.prog Try.f4 false true false false) := by
  refine returnsInHanded_of_change (C := Try.checked) try_own started (by kernel_rfl) Try.func4
    (ChangeSpec.witness6 (enc := enc) (C := Try.checked) false ⟨#[], #[.agg #[.int .i64 0, .slice none 0 0, .slice none 0 0], .int .i64 0], []⟩ 8 (by kernel_rfl) (by kernel_rfl) (by kernel_rfl) (by kernel_rfl)) ?_
  intro W base args ds gs before hval0 hW hcnd _
  have hval : ∀ (j : Nat) t v, Try.f4.params[j]? = some t → args[j]? = some v → Value.okWide Try.prog W .any base t v := hval0
  have hW' := hW
  obtain ⟨p, q, hA0, hV, rfl, hfz, hnd⟩ := hW
  have hA : DataW.TrodAll enc Try.prog W 0 (fun _ => true) true Try.f4.params.toList args.toList ds p := hA0
  rw [Try.params4] at hA hval
  obtain ⟨v0, v1, d0, d1, p0, p1, rfl, rfl, rfl, h0, h1⟩ := trodAll_two hA
  obtain ⟨o0, ao0, bo0, ca0, cb0, rfl, hpa0, hpb0⟩ := open_prob (hval 0 24 v0 rfl rfl) h0
  obtain ⟨x1, rfl⟩ := open_int (hval 1 3 v1 rfl rfl)
  refine (OrderWaits_any o0 ao0 bo0 ca0 cb0 x1 W hpa0 hpb0).mono fun e W' ⟨he, hk⟩ => ⟨_, he, ?_⟩
  refine law_post hW' rfl ?_ (by kernel_rfl) ?_ ?_ ?_ hk
  · rw [Try.params4]
    intro t ht
    simp only [List.mem_cons, List.not_mem_nil, or_false] at ht
    rcases ht with rfl | rfl
    all_goals exact ⟨by kernel_rfl, of_decide_eq_true (by kernel_rfl)⟩
  all_goals
    obtain ⟨rfl, rfl⟩ := trodVars_none hV
    rfl

theorem orderWaits_wf : Rows.orderWaitsRow.wf (OpenSpec.ofChange Rows.orderWaitsSpec) = true := by kernel_rfl
theorem orderWaits_inPlace : (Rows.orderWaitsRow.inPlace == Try.prog.inPlace 4) = true := by kernel_rfl
theorem orderWaits_unfollowed : (Rows.orderWaitsRow.unfollowed == Try.prog.unfollowed 4) = true := by kernel_rfl
theorem orderWaits_recurses : (Rows.orderWaitsRow.recurses == Try.prog.recurses 4) = true := by kernel_rfl
theorem orderWaits_named : (Rows.orderWaitsRow.named == Try.prog.varsNamed 4) = true := by kernel_rfl
theorem orderWaits_closed : joinedFacts Try.prog 4 Try.f4 Rows.orderWaitsSpec Rows.orderWaitsRow = true := by
  unfold joinedFacts
  simp only [Bool.and_eq_true]
  exact ⟨⟨⟨⟨⟨⟨⟨⟨⟨⟨⟨⟨⟨⟨⟨⟨⟨⟨⟨⟨⟨⟨⟨⟨⟨⟨⟨⟨⟨⟨⟨orderWaits_wf, try_laidOut⟩, pf_rowed⟩, by kernel_rfl⟩, by kernel_rfl⟩, by kernel_rfl⟩, pf_stops⟩, by kernel_rfl⟩, pf_knobs⟩, orderWaits_inPlace⟩, orderWaits_unfollowed⟩, orderWaits_recurses⟩, orderWaits_named⟩, by kernel_rfl⟩, by kernel_rfl⟩, by kernel_rfl⟩, by kernel_rfl⟩, by kernel_rfl⟩, by kernel_rfl⟩, by kernel_rfl⟩, by kernel_rfl⟩, by kernel_rfl⟩, pf_keys⟩, by kernel_rfl⟩, pf_heard⟩, pf_enter⟩, pf_lifts⟩, pf_make⟩, by kernel_rfl⟩, by kernel_rfl⟩, by kernel_rfl⟩, by kernel_rfl⟩
theorem orderWaits_inst : Try.f4.isInstance Try.prog Rows.orderWaitsRow.origin Rows.orderWaitsRow.targs := of_decide_eq_true (by kernel_rfl)
theorem orderWaits_wrap : Try.f4.isWrapper Try.prog Rows.orderWaitsRow.wrapper Rows.orderWaitsRow.mainSum := by
  unfold Func.isWrapper; rw [if_neg (by decide +kernel)]; exact ⟨rfl, rfl⟩
theorem orderWaits_func : Try.prog.funcNamed Rows.orderWaitsRow.func = some 4 := by kernel_rfl
theorem orderWaits_holds : Rows.OrderWaitsSaid :=
  OpenClaim.holds_of_wide (p := Try.pinned) (s := Rows.orderWaitsSpec) (c := Rows.orderWaitsRow) 4 Try.f4 rfl rfl rfl rfl rfl rfl rfl ⟨rfl, rfl, rfl, rfl, rfl⟩ rfl rfl rfl rfl rfl orderWaits_func Try.func4
    orderWaits_closed orderWaits_inst orderWaits_wrap
    (fun os started H enc _ => orderWaits_lifted os started H enc)
#print axioms orderWaits_holds
end Go.Proofs.Yteljjkghjbofnaa
