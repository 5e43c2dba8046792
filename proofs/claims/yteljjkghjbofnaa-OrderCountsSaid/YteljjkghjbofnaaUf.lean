/- OrderCounts: the row. -/
import Derived.Test.YteljjkghjbofnaaUe
import Derived.Test.YteljjkghjbofnaaXk
import Derived.Test.YteljjkghjbofnaaYr
set_option maxRecDepth 100000
namespace Go.Proofs.Yteljjkghjbofnaa
open Go Go.ChangeShapes Go.WideShapes Go.ChangeAt Go.RowKit Go.Joins

theorem orderCounts_lifted (os : Os) (started : os.Started) (H : Type) (enc : TypeId × Value → H) :
    ReturnsInHanded {} Try.checked os 11 .any (Rows.orderCountsSpec.pre6 enc Try.prog Try.f11 Rows.orderCountsRow.domain false) (Rows.orderCountsSpec.post enc Try.prog Try.f11 false true false false) := by
  refine returnsInHanded_of_change (C := Try.checked) try_own started (by kernel_rfl) Try.func11
    (ChangeSpec.witness6 (enc := enc) (C := Try.checked) false ⟨#[], #[.agg #[.int .i64 0, .slice none 0 0, .slice none 0 0], .slice none 0 0, .int .i64 0], []⟩ 8 (by kernel_rfl) (by kernel_rfl) (by kernel_rfl) (by kernel_rfl)) ?_
  intro W base args ds gs before hval0 hW hcnd _
  have hval : ∀ (j : Nat) t v, Try.f11.params[j]? = some t → args[j]? = some v → Value.okWide Try.prog W .any base t v := hval0
  have hW' := hW
  obtain ⟨p, q, hA0, hV, rfl, hfz, hnd⟩ := hW
  have hA : DataW.TrodAll enc Try.prog W 0 (fun _ => true) true Try.f11.params.toList args.toList ds p := hA0
  rw [Try.params11] at hA hval
  obtain ⟨v0, v1, v2, d0, d1, d2, p0, p1, p2, rfl, rfl, rfl, h0, h1, h2⟩ := trodAll_three hA
  obtain ⟨o0, ao0, bo0, ca0, cb0, rfl, hpa0, hpb0⟩ := open_prob (hval 0 24 v0 rfl rfl) h0
  obtain ⟨l1, lo1, c1, rfl, hl1, hc1⟩ := open_seqC (hval 1 31 v1 rfl rfl) h1
  obtain ⟨x2, rfl⟩ := open_int (hval 2 3 v2 rfl rfl)
  refine (OrderCounts_any o0 ao0 bo0 ca0 cb0 l1 lo1 c1 x2 W hpa0 hpb0 hl1 hc1).mono fun e W' ⟨he, hk⟩ => ⟨_, he, ?_⟩
  refine law_post hW' rfl ?_ (by kernel_rfl) ?_ ?_ ?_ hk
  · rw [Try.params11]
    intro t ht
    simp only [List.mem_cons, List.not_mem_nil, or_false] at ht
    rcases ht with rfl | rfl | rfl
    all_goals exact ⟨by kernel_rfl, of_decide_eq_true (by kernel_rfl)⟩
  all_goals
    obtain ⟨rfl, rfl⟩ := trodVars_none hV
    rfl

theorem orderCounts_wf : Rows.orderCountsRow.wf (OpenSpec.ofChange Rows.orderCountsSpec) = true := by kernel_rfl
theorem orderCounts_inPlace : (Rows.orderCountsRow.inPlace == Try.prog.inPlace 11) = true := by kernel_rfl
theorem orderCounts_unfollowed : (Rows.orderCountsRow.unfollowed == Try.prog.unfollowed 11) = true := by kernel_rfl
theorem orderCounts_recurses : (Rows.orderCountsRow.recurses == Try.prog.recurses 11) = true := by kernel_rfl
theorem orderCounts_named : (Rows.orderCountsRow.named == Try.prog.varsNamed 11) = true := by kernel_rfl
theorem orderCounts_closed : joinedFacts Try.prog 11 Try.f11 Rows.orderCountsSpec Rows.orderCountsRow = true := by
  unfold joinedFacts
  simp only [Bool.and_eq_true]
  exact ⟨⟨⟨⟨⟨⟨⟨⟨⟨⟨⟨⟨⟨⟨⟨⟨⟨⟨⟨⟨⟨⟨⟨⟨⟨⟨⟨⟨⟨⟨⟨orderCounts_wf, try_laidOut⟩, pf_rowed⟩, by kernel_rfl⟩, by kernel_rfl⟩, by kernel_rfl⟩, pf_stops⟩, by kernel_rfl⟩, pf_knobs⟩, orderCounts_inPlace⟩, orderCounts_unfollowed⟩, orderCounts_recurses⟩, orderCounts_named⟩, by kernel_rfl⟩, by kernel_rfl⟩, by kernel_rfl⟩, by kernel_rfl⟩, by kernel_rfl⟩, by kernel_rfl⟩, by kernel_rfl⟩, by kernel_rfl⟩, by kernel_rfl⟩, pf_keys⟩, by kernel_rfl⟩, pf_heard⟩, pf_enter⟩, pf_lifts⟩, pf_make⟩, by kernel_rfl⟩, by kernel_rfl⟩, by kernel_rfl⟩, by kernel_rfl⟩
theorem orderCounts_inst : Try.f11.isInstance Try.prog Rows.orderCountsRow.origin Rows.orderCountsRow.targs := of_decide_eq_true (by kernel_rfl)
theorem orderCounts_wrap : Try.f11.isWrapper Try.prog Rows.orderCountsRow.wrapper Rows.orderCountsRow.mainSum := by
  unfold Func.isWrapper; rw [if_neg (by decide +kernel)]; exact ⟨rfl, rfl⟩
theorem orderCounts_func : Try.prog.funcNamed Rows.orderCountsRow.func = some 11 := by kernel_rfl
theorem orderCounts_holds : Rows.OrderCountsSaid :=
  OpenClaim.holds_of_wide (p := Try.pinned) (s := Rows.orderCountsSpec) (c := Rows.orderCountsRow) 11 Try.f11 rfl rfl rfl rfl rfl rfl rfl ⟨rfl, rfl, rfl, rfl, rfl⟩ rfl rfl rfl rfl rfl orderCounts_func Try.func11
    orderCounts_closed orderCounts_inst orderCounts_wrap
    (fun os started H enc _ => orderCounts_lifted os started H enc)
#print axioms orderCounts_holds
end Go.Proofs.Yteljjkghjbofnaa
