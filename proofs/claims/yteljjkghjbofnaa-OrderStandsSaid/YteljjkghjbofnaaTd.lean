/- OrderStands: the row. -/
import Derived.Test.YteljjkghjbofnaaTc
import Derived.Test.YteljjkghjbofnaaXk
import Derived.Test.YteljjkghjbofnaaYr
set_option maxRecDepth 100000
namespace Go.Proofs.Yteljjkghjbofnaa
open Go Go.ChangeShapes Go.WideShapes Go.ChangeAt Go.RowKit Go.Joins

theorem orderStands_lifted (os : Os) (started : os.Started) (H : Type) (enc : TypeId × Value → H) :
    ReturnsInHanded {} Try.checked os 13 .any (Rows.orderStandsSpec.pre6 enc Try.prog Try.f13 Rows.orderStandsRow.domain false) (Rows.orderStandsSpec.post enc Try.prog Try.f13 false true false false) := by
  refine returnsInHanded_of_change (C := Try.checked) try_own started (by kernel_rfl) Try.func13
    (ChangeSpec.witness6 (enc := enc) (C := Try.checked) false ⟨#[], #[.agg #[.int .i64 0, .slice none 0 0, .slice none 0 0], .slice none 0 0, .int .i64 0, .int .i64 0], []⟩ 8 (by kernel_rfl) (by kernel_rfl) (by kernel_rfl) (by kernel_rfl)) ?_
  intro W base args ds gs before hval0 hW hcnd _
  have hval : ∀ (j : Nat) t v, Try.f13.params[j]? = some t → args[j]? = some v → Value.okWide Try.prog W .any base t v := hval0
  have hW' := hW
  obtain ⟨p, q, hA0, hV, rfl, hfz, hnd⟩ := hW
  have hA : DataW.TrodAll enc Try.prog W 0 (fun _ => true) true Try.f13.params.toList args.toList ds p := hA0
  rw [Try.params13] at hA hval
  obtain ⟨v0, v1, v2, v3, d0, d1, d2, d3, p0, p1, p2, p3, rfl, rfl, rfl, h0, h1, h2, h3⟩ := trodAll_four' hA
  obtain ⟨o0, ao0, bo0, ca0, cb0, rfl, hpa0, hpb0⟩ := open_prob (hval 0 24 v0 rfl rfl) h0
  obtain ⟨l1, lo1, c1, rfl, hl1, hc1⟩ := open_seqC (hval 1 31 v1 rfl rfl) h1
  obtain ⟨x2, rfl⟩ := open_int (hval 2 3 v2 rfl rfl)
  obtain ⟨x3, rfl⟩ := open_int (hval 3 3 v3 rfl rfl)
  refine (OrderStands_any o0 ao0 bo0 ca0 cb0 l1 lo1 c1 x2 x3 W hpa0 hpb0 hl1).mono fun e W' ⟨he, hk⟩ => ⟨_, he, ?_⟩
  refine law_post hW' rfl ?_ (by kernel_rfl) ?_ ?_ ?_ hk
  · rw [Try.params13]
    intro t ht
    simp only [List.mem_cons, List.not_mem_nil, or_false] at ht
    rcases ht with rfl | rfl | rfl | rfl
    all_goals exact ⟨by kernel_rfl, of_decide_eq_true (by kernel_rfl)⟩
  all_goals
    obtain ⟨rfl, rfl⟩ := trodVars_none hV
    rfl

theorem orderStands_wf : Rows.orderStandsRow.wf (OpenSpec.ofChange Rows.orderStandsSpec) = true := by kernel_rfl
theorem orderStands_inPlace : (Rows.orderStandsRow.inPlace == Try.prog.inPlace 13) = true := by kernel_rfl
theorem orderStands_unfollowed : (Rows.orderStandsRow.unfollowed == Try.prog.unfollowed 13) = true := by kernel_rfl
theorem orderStands_recurses : (Rows.orderStandsRow.recurses == Try.prog.recurses 13) = true := by kernel_rfl
theorem orderStands_named : (Rows.orderStandsRow.named == Try.prog.varsNamed 13) = true := by kernel_rfl
theorem orderStands_closed : joinedFacts Try.prog 13 Try.f13 Rows.orderStandsSpec Rows.orderStandsRow = true := by
  unfold joinedFacts
  simp only [Bool.and_eq_true]
  exact ⟨⟨⟨⟨⟨⟨⟨⟨⟨⟨⟨⟨⟨⟨⟨⟨⟨⟨⟨⟨⟨⟨⟨⟨⟨⟨⟨⟨⟨⟨⟨orderStands_wf, try_laidOut⟩, pf_rowed⟩, by kernel_rfl⟩, by kernel_rfl⟩, by kernel_rfl⟩, pf_stops⟩, by kernel_rfl⟩, pf_knobs⟩, orderStands_inPlace⟩, orderStands_unfollowed⟩, orderStands_recurses⟩, orderStands_named⟩, by kernel_rfl⟩, by kernel_rfl⟩, by kernel_rfl⟩, by kernel_rfl⟩, by kernel_rfl⟩, by kernel_rfl⟩, by kernel_rfl⟩, by kernel_rfl⟩, by kernel_rfl⟩, pf_keys⟩, by kernel_rfl⟩, pf_heard⟩, pf_enter⟩, pf_lifts⟩, pf_make⟩, by kernel_rfl⟩, by kernel_rfl⟩, by kernel_rfl⟩, by kernel_rfl⟩
theorem orderStands_inst : Try.f13.isInstance Try.prog Rows.orderStandsRow.origin Rows.orderStandsRow.targs := of_decide_eq_true (by kernel_rfl)
theorem orderStands_wrap : Try.f13.isWrapper Try.prog Rows.orderStandsRow.wrapper Rows.orderStandsRow.mainSum := by
  unfold Func.isWrapper; rw [if_neg (by decide +kernel)]; exact ⟨rfl, rfl⟩
theorem orderStands_func : Try.prog.funcNamed Rows.orderStandsRow.func = some 13 := by kernel_rfl
theorem orderStands_holds : Rows.OrderStandsSaid :=
  OpenClaim.holds_of_wide (p := Try.pinned) (s := Rows.orderStandsSpec) (c := Rows.orderStandsRow) 13 Try.f13 rfl rfl rfl rfl rfl rfl rfl ⟨rfl, rfl, rfl, rfl, rfl⟩ rfl rfl rfl rfl rfl orderStands_func Try.func13
    orderStands_closed orderStands_inst orderStands_wrap
    (fun os started H enc _ => orderStands_lifted os started H enc)
#print axioms orderStands_holds
end Go.Proofs.Yteljjkghjbofnaa
