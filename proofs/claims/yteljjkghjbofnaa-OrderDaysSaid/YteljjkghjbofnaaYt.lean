/- OrderDays: the row. -/
import Derived.Test.YteljjkghjbofnaaYs
import Derived.Test.YteljjkghjbofnaaXk
import Derived.Test.YteljjkghjbofnaaYr
set_option maxRecDepth 100000
namespace Go.Proofs.Yteljjkghjbofnaa
open Go Go.ChangeShapes Go.WideShapes Go.ChangeAt Go.RowKit Go.Joins

theorem orderDays_lifted (os : Os) (started : os.Started) (H : Type) (enc : TypeId × Value → H) :
    ReturnsInHanded {} Try.checked os 8 .any (Rows.orderDaysSpec.pre6 enc Try.prog Try.f8 Rows.orderDaysRow.domain false) (Rows.orderDaysSpec.post enc Try.prog Try.f8 false true false false) := by
  refine returnsInHanded_of_change (C := Try.checked) try_own started (by kernel_rfl) Try.func8
    (ChangeSpec.witness6 (enc := enc) (C := Try.checked) false ⟨#[], #[.agg #[.int .i64 0, .slice none 0 0, .slice none 0 0], .int .i64 0, .slice none 0 0, .slice none 0 0], []⟩ 8 (by kernel_rfl) (by kernel_rfl) (by kernel_rfl) (by kernel_rfl)) ?_
  intro W base args ds gs before hval0 hW hcnd _
  have hval : ∀ (j : Nat) t v, Try.f8.params[j]? = some t → args[j]? = some v → Value.okWide Try.prog W .any base t v := hval0
  have hW' := hW
  obtain ⟨p, q, hA0, hV, rfl, hfz, hnd⟩ := hW
  have hA : DataW.TrodAll enc Try.prog W 0 (fun _ => true) true Try.f8.params.toList args.toList ds p := hA0
  rw [Try.params8] at hA hval
  obtain ⟨v0, v1, v2, v3, d0, d1, d2, d3, p0, p1, p2, p3, rfl, rfl, rfl, h0, h1, h2, h3⟩ := trodAll_four' hA
  obtain ⟨o0, ao0, bo0, ca0, cb0, rfl, hpa0, hpb0⟩ := open_prob (hval 0 24 v0 rfl rfl) h0
  obtain ⟨x1, rfl⟩ := open_int (hval 1 3 v1 rfl rfl)
  obtain ⟨l2, lo2, c2, rfl, hl2, hc2⟩ := open_seqC (hval 2 31 v2 rfl rfl) h2
  obtain ⟨l3, lo3, c3, rfl, hl3, hc3⟩ := open_seqC (hval 3 31 v3 rfl rfl) h3
  refine (OrderDays_any o0 ao0 bo0 ca0 cb0 x1 l2 lo2 c2 l3 lo3 c3 W hpa0 hpb0 hl2 hc2 hl3).mono fun e W' ⟨he, hk⟩ => ⟨_, he, ?_⟩
  refine law_post hW' rfl ?_ (by kernel_rfl) ?_ ?_ ?_ hk
  · rw [Try.params8]
    intro t ht
    simp only [List.mem_cons, List.not_mem_nil, or_false] at ht
    rcases ht with rfl | rfl | rfl | rfl
    all_goals exact ⟨by kernel_rfl, of_decide_eq_true (by kernel_rfl)⟩
  all_goals
    obtain ⟨rfl, rfl⟩ := trodVars_none hV
    rfl

theorem orderDays_wf : Rows.orderDaysRow.wf (OpenSpec.ofChange Rows.orderDaysSpec) = true := by kernel_rfl
theorem orderDays_inPlace : (Rows.orderDaysRow.inPlace == Try.prog.inPlace 8) = true := by kernel_rfl
theorem orderDays_unfollowed : (Rows.orderDaysRow.unfollowed == Try.prog.unfollowed 8) = true := by kernel_rfl
theorem orderDays_recurses : (Rows.orderDaysRow.recurses == Try.prog.recurses 8) = true := by kernel_rfl
theorem orderDays_named : (Rows.orderDaysRow.named == Try.prog.varsNamed 8) = true := by kernel_rfl
theorem orderDays_closed : joinedFacts Try.prog 8 Try.f8 Rows.orderDaysSpec Rows.orderDaysRow = true := by
  unfold joinedFacts
  simp only [Bool.and_eq_true]
  exact ⟨⟨⟨⟨⟨⟨⟨⟨⟨⟨⟨⟨⟨⟨⟨⟨⟨⟨⟨⟨⟨⟨⟨⟨⟨⟨⟨⟨⟨⟨⟨orderDays_wf, try_laidOut⟩, pf_rowed⟩, by kernel_rfl⟩, by kernel_rfl⟩, by kernel_rfl⟩, pf_stops⟩, by kernel_rfl⟩, pf_knobs⟩, orderDays_inPlace⟩, orderDays_unfollowed⟩, orderDays_recurses⟩, orderDays_named⟩, by kernel_rfl⟩, by kernel_rfl⟩, by kernel_rfl⟩, by kernel_rfl⟩, by kernel_rfl⟩, by kernel_rfl⟩, by kernel_rfl⟩, by kernel_rfl⟩, by kernel_rfl⟩, pf_keys⟩, by kernel_rfl⟩, pf_heard⟩, pf_enter⟩, pf_lifts⟩, pf_make⟩, by kernel_rfl⟩, by kernel_rfl⟩, by kernel_rfl⟩, by kernel_rfl⟩
theorem orderDays_inst : Try.f8.isInstance Try.prog Rows.orderDaysRow.origin Rows.orderDaysRow.targs := of_decide_eq_true (by kernel_rfl)
theorem orderDays_wrap : Try.f8.isWrapper Try.prog Rows.orderDaysRow.wrapper Rows.orderDaysRow.mainSum := by
  unfold Func.isWrapper; rw [if_neg (by decide +kernel)]; exact ⟨rfl, rfl⟩
theorem orderDays_func : Try.prog.funcNamed Rows.orderDaysRow.func = some 8 := by kernel_rfl
theorem orderDays_holds : Rows.OrderDaysSaid :=
  OpenClaim.holds_of_wide (p := Try.pinned) (s := Rows.orderDaysSpec) (c := Rows.orderDaysRow) 8 Try.f8 rfl rfl rfl rfl rfl rfl rfl ⟨rfl, rfl, rfl, rfl, rfl⟩ rfl rfl rfl rfl rfl orderDays_func Try.func8
    orderDays_closed orderDays_inst orderDays_wrap
    (fun os started H enc _ => orderDays_lifted os started H enc)
#print axioms orderDays_holds
end Go.Proofs.Yteljjkghjbofnaa
