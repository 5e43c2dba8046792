/- OrderCloses: the row. -/
import Derived.Test.YteljjkghjbofnaaTh
import Derived.Test.YteljjkghjbofnaaXk
import Derived.Test.YteljjkghjbofnaaTg
set_option maxRecDepth 100000
namespace Go.Proofs.Yteljjkghjbofnaa
open Go Go.ChangeShapes Go.WideShapes Go.ChangeAt Go.RowKit Go.Joins

theorem orderCloses_lifted (os : Os) (started : os.Started) (H : Type) (enc : TypeId × Value → H) :
    ReturnsInHanded {} Try.checked os 12 .any (Rows.orderClosesSpec.pre6 enc Try.prog Try.f12 Rows.orderClosesRow.domain false) (Rows.orderClosesSpec.post enc Try.prog Try.f12 false true false false) := by
  refine returnsInHanded_of_change (C := Try.checked) try_own started (by kernel_rfl) Try.func12
    (ChangeSpec.witness6 (enc := enc) (C := Try.checked) false ⟨#[], #[.agg #[.int .i64 0, .slice none 0 0, .slice none 0 0]], []⟩ 8 (by kernel_rfl) (by kernel_rfl) (by kernel_rfl) (by kernel_rfl)) ?_
  intro W base args ds gs before hval0 hW hcnd _
  have hval : ∀ (j : Nat) t v, Try.f12.params[j]? = some t → args[j]? = some v → Value.okWide Try.prog W .any base t v := hval0
  have hW' := hW
  obtain ⟨p, q, hA0, hV, rfl, hfz, hnd⟩ := hW
  have hA : DataW.TrodAll enc Try.prog W 0 (fun _ => true) true Try.f12.params.toList args.toList ds p := hA0
  rw [Try.params12] at hA hval
  obtain ⟨v0, d0, rfl, rfl, h0⟩ := trodAll_one hA
  obtain ⟨o0, ao0, bo0, ca0, cb0, rfl, hpa0, hpb0, hnb0⟩ := open_probN (hval 0 24 v0 rfl rfl) h0
  refine (OrderCloses_any o0 ao0 bo0 ca0 cb0 W hpa0 hpb0 hnb0).mono fun e W' ⟨he, hk⟩ => ⟨_, he, ?_⟩
  refine law_post hW' rfl ?_ (by kernel_rfl) ?_ ?_ ?_ hk
  · rw [Try.params12]
    intro t ht
    simp only [List.mem_cons, List.not_mem_nil, or_false] at ht
    obtain rfl := ht
    exact ⟨by kernel_rfl, of_decide_eq_true (by kernel_rfl)⟩
  all_goals
    obtain ⟨rfl, rfl⟩ := trodVars_none hV
    rfl

theorem orderCloses_wf : Rows.orderClosesRow.wf (OpenSpec.ofChange Rows.orderClosesSpec) = true := by kernel_rfl
theorem orderCloses_inPlace : (Rows.orderClosesRow.inPlace == Try.prog.inPlace 12) = true := by kernel_rfl
theorem orderCloses_unfollowed : (Rows.orderClosesRow.unfollowed == Try.prog.unfollowed 12) = true := by kernel_rfl
theorem orderCloses_recurses : (Rows.orderClosesRow.recurses == Try.prog.recurses 12) = true := by kernel_rfl
theorem orderCloses_named : (Rows.orderClosesRow.named == Try.prog.varsNamed 12) = true := by kernel_rfl
theorem orderCloses_closed : joinedFacts Try.prog 12 Try.f12 Rows.orderClosesSpec Rows.orderClosesRow = true := by
  unfold joinedFacts
  simp only [Bool.and_eq_true]
  exact ⟨⟨⟨⟨⟨⟨⟨⟨⟨⟨⟨⟨⟨⟨⟨⟨⟨⟨⟨⟨⟨⟨⟨⟨⟨⟨⟨⟨⟨⟨⟨orderCloses_wf, try_laidOut⟩, pf_rowed⟩, by kernel_rfl⟩, by kernel_rfl⟩, by kernel_rfl⟩, pf_stops⟩, by kernel_rfl⟩, pf_knobs⟩, orderCloses_inPlace⟩, orderCloses_unfollowed⟩, orderCloses_recurses⟩, orderCloses_named⟩, by kernel_rfl⟩, by kernel_rfl⟩, by kernel_rfl⟩, by kernel_rfl⟩, by kernel_rfl⟩, by kernel_rfl⟩, by kernel_rfl⟩, by kernel_rfl⟩, by kernel_rfl⟩, pf_keys⟩, by kernel_rfl⟩, pf_heard⟩, pf_enter⟩, pf_lifts⟩, pf_make⟩, by kernel_rfl⟩, by kernel_rfl⟩, by kernel_rfl⟩, by kernel_rfl⟩
theorem orderCloses_inst : Try.f12.isInstance Try.prog Rows.orderClosesRow.origin Rows.orderClosesRow.targs := of_decide_eq_true (by kernel_rfl)
theorem orderCloses_wrap : Try.f12.isWrapper Try.prog Rows.orderClosesRow.wrapper Rows.orderClosesRow.mainSum := by
  unfold Func.isWrapper; rw [if_neg (by decide +kernel)]; exact ⟨rfl, rfl⟩
theorem orderCloses_func : Try.prog.funcNamed Rows.orderClosesRow.func = some 12 := by kernel_rfl
theorem orderCloses_holds : Rows.OrderClosesSaid :=
  OpenClaim.holds_of_wide (p := Try.pinned) (s := Rows.orderClosesSpec) (c := Rows.orderClosesRow) 12 Try.f12 rfl rfl rfl rfl rfl rfl rfl ⟨rfl, rfl, rfl, rfl, rfl⟩ rfl rfl rfl rfl rfl orderCloses_func Try.func12
    orderCloses_closed orderCloses_inst orderCloses_wrap
    (fun os started H enc _ => orderCloses_lifted os started H enc)
#print axioms orderCloses_holds
end Go.Proofs.Yteljjkghjbofnaa
