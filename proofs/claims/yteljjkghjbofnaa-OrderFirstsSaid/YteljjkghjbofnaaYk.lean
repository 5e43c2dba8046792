/- OrderFirsts: the row. -/
import Derived.Test.YteljjkghjbofnaaYj
import Derived.Test.YteljjkghjbofnaaXk
import Derived.Test.YteljjkghjbofnaaYr
set_option maxRecDepth 100000
namespace Go.Proofs.Yteljjkghjbofnaa
open Go Go.ChangeShapes Go.WideShapes Go.ChangeAt Go.RowKit Go.Joins

theorem orderFirsts_lifted (os : Os) (started : os.Started) (H : Type) (enc : TypeId × Value → H) :
    ReturnsInHanded {} Try.checked os 10 .any (Rows.orderFirstsSpec.pre6 enc Try.prog Try.f10 Rows.orderFirstsRow.domain false) (Rows.orderFirstsSpec.post enc Try.prog Try.f10 false true false false) := by
  refine returnsInHanded_of_change (C := Try.checked) try_own started (by kernel_rfl) Try.func10
    (ChangeSpec.witness6 (enc := enc) (C := Try.checked) false ⟨#[], #[.agg #[.int .i64 0, .slice none 0 0, .slice none 0 0], .slice none 0 0], []⟩ 8 (by kernel_rfl) (by kernel_rfl) (by kernel_rfl) (by kernel_rfl)) ?_
  intro W base args ds gs before hval0 hW hcnd _
  have hval : ∀ (j : Nat) t v, Try.f10.params[j]? = some t → args[j]? = some v → Value.okWide Try.prog W .any base t v := hval0
  have hW' := hW
  obtain ⟨p, q, hA0, hV, rfl, hfz, hnd⟩ := hW
  have hA : DataW.TrodAll enc Try.prog W 0 (fun _ => true) true Try.f10.params.toList args.toList ds p := hA0
  rw [Try.params10] at hA hval
  obtain ⟨v0, v1, d0, d1, p0, p1, rfl, rfl, rfl, h0, h1⟩ := trodAll_two hA
  obtain ⟨o0, ao0, bo0, ca0, cb0, rfl, hpa0, hpb0⟩ := open_prob (hval 0 24 v0 rfl rfl) h0
  obtain ⟨l1, lo1, c1, rfl, hl1, hc1⟩ := open_seqC (hval 1 31 v1 rfl rfl) h1
  refine (OrderFirsts_any o0 ao0 bo0 ca0 cb0 l1 lo1 c1 W hpa0 hpb0 hl1 hc1).mono fun e W' ⟨he, hk⟩ => ⟨_, he, ?_⟩
  refine law_post hW' rfl ?_ (by kernel_rfl) ?_ ?_ ?_ hk
  · rw [Try.params10]
    intro t ht
    simp only [List.mem_cons, List.not_mem_nil, or_false] at ht
    rcases ht with rfl | rfl
    all_goals exact ⟨by kernel_rfl, of_decide_eq_true (by kernel_rfl)⟩
  all_goals
    obtain ⟨rfl, rfl⟩ := trodVars_none hV
    rfl

theorem orderFirsts_wf : Rows.orderFirstsRow.wf (OpenSpec.ofChange Rows.orderFirstsSpec) = true := by kernel_rfl
theorem orderFirsts_inPlace : (Rows.orderFirstsRow.inPlace == Try.prog.inPlace 10) = true := by kernel_rfl
theorem orderFirsts_unfollowed : (Rows.orderFirstsRow.unfollowed == Try.prog.unfollowed 10) = true := by kernel_rfl
theorem orderFirsts_recurses : (Rows.orderFirstsRow.recurses == Try.prog.recurses 10) = true := by kernel_rfl
theorem orderFirsts_named : (Rows.orderFirstsRow.named == Try.prog.varsNamed 10) = true := by kernel_rfl
theorem orderFirsts_closed : joinedFacts Try.prog 10 Try.f10 Rows.orderFirstsSpec Rows.orderFirstsRow = true := by
  unfold joinedFacts
  simp only [Bool.and_eq_true]
  exact ⟨⟨⟨⟨⟨⟨⟨⟨⟨⟨⟨⟨⟨⟨⟨⟨⟨⟨⟨⟨⟨⟨⟨⟨⟨⟨⟨⟨⟨⟨⟨orderFirsts_wf, try_laidOut⟩, pf_rowed⟩, by kernel_rfl⟩, by kernel_rfl⟩, by kernel_rfl⟩, pf_stops⟩, by kernel_rfl⟩, pf_knobs⟩, orderFirsts_inPlace⟩, orderFirsts_unfollowed⟩, orderFirsts_recurses⟩, orderFirsts_named⟩, by kernel_rfl⟩, by kernel_rfl⟩, by kernel_rfl⟩, by kernel_rfl⟩, by kernel_rfl⟩, by kernel_rfl⟩, by kernel_rfl⟩, by kernel_rfl⟩, by kernel_rfl⟩, pf_keys⟩, by kernel_rfl⟩, pf_heard⟩, pf_enter⟩, pf_lifts⟩, pf_make⟩, by kernel_rfl⟩, by kernel_rfl⟩, by kernel_rfl⟩, by kernel_rfl⟩
theorem orderFirsts_inst : Try.f10.isInstance Try.prog Rows.orderFirstsRow.origin Rows.orderFirstsRow.targs := of_decide_eq_true (by kernel_rfl)
theorem orderFirsts_wrap : Try.f10.isWrapper Try.prog Rows.orderFirstsRow.wrapper Rows.orderFirstsRow.mainSum := by
  unfold Func.isWrapper; rw [if_neg (by decide +kernel)]; exact ⟨rfl, rfl⟩
theorem orderFirsts_func : Try.prog.funcNamed Rows.orderFirstsRow.func = some 10 := by kernel_rfl
theorem orderFirsts_holds : Rows.OrderFirstsSaid :=
  OpenClaim.holds_of_wide (p := Try.pinned) (s := Rows.orderFirstsSpec) (c := Rows.orderFirstsRow) 10 Try.f10 rfl rfl rfl rfl rfl rfl rfl ⟨rfl, rfl, rfl, rfl, rfl⟩ rfl rfl rfl rfl rfl orderFirsts_func Try.func10
    orderFirsts_closed orderFirsts_inst orderFirsts_wrap
    (fun os started H enc _ => orderFirsts_lifted os started H enc)
#print axioms orderFirsts_holds
end Go.Proofs.Yteljjkghjbofnaa
