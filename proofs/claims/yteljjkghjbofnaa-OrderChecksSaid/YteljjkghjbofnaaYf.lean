/- OrderChecks: the row. -/
import Derived.Test.YteljjkghjbofnaaYe
import Derived.Test.YteljjkghjbofnaaXk
import Derived.Test.YteljjkghjbofnaaYr
set_option maxRecDepth 100000
namespace Go.Proofs.Yteljjkghjbofnaa
open Go Go.ChangeShapes Go.WideShapes Go.ChangeAt Go.RowKit Go.Joins

theorem orderChecks_lifted (os : Os) (started : os.Started) (H : Type) (enc : TypeId × Value → H) :
    ReturnsInHanded {} Try.checked os 3 .any (Rows.orderChecksSpec.pre6 enc Try.prog Try.f3 Rows.orderChecksRow.domain false) (Rows.orderChecksSpec.post enc Try.prog Try.f3 false true false false) := by
  refine returnsInHanded_of_change (C := Try.checked) try_own started (by kernel_rfl) Try.func3
    (ChangeSpec.witness6 (enc := enc) (C := Try.checked) false ⟨#[], #[.agg #[.int .i64 0, .slice none 0 0, .slice none 0 0], .int .i64 0, .int .i64 0], []⟩ 8 (by kernel_rfl) (by kernel_rfl) (by kernel_rfl) (by kernel_rfl)) ?_
  intro W base args ds gs before hval0 hW hcnd _
  have hval : ∀ (j : Nat) t v, Try.f3.params[j]? = some t → args[j]? = some v → Value.okWide Try.prog W .any base t v := hval0
  have hW' := hW
  obtain ⟨p, q, hA0, hV, rfl, hfz, hnd⟩ := hW
  have hA : DataW.TrodAll enc Try.prog W 0 (fun _ => true) true Try.f3.params.toList args.toList ds p := hA0
  rw [Try.params3] at hA hval
  obtain ⟨v0, v1, v2, d0, d1, d2, p0, p1, p2, rfl, rfl, rfl, h0, h1, h2⟩ := trodAll_three hA
  obtain ⟨o0, ao0, bo0, ca0, cb0, rfl, hpa0, hpb0⟩ := open_prob (hval 0 24 v0 rfl rfl) h0
  obtain ⟨x1, rfl⟩ := open_int (hval 1 3 v1 rfl rfl)
  obtain ⟨x2, rfl⟩ := open_int (hval 2 3 v2 rfl rfl)
  refine (OrderChecks_any o0 ao0 bo0 ca0 cb0 x1 x2 W hpa0 hpb0).mono fun e W' ⟨he, hk⟩ => ⟨_, he, ?_⟩
  refine law_post hW' rfl ?_ (by kernel_rfl) ?_ ?_ ?_ hk
  · rw [Try.params3]
    intro t ht
    simp only [List.mem_cons, List.not_mem_nil, or_false] at ht
    rcases ht with rfl | rfl | rfl
    all_goals exact ⟨by kernel_rfl, of_decide_eq_true (by kernel_rfl)⟩
  all_goals
    obtain ⟨rfl, rfl⟩ := trodVars_none hV
    rfl

theorem orderChecks_wf : Rows.orderChecksRow.wf (OpenSpec.ofChange Rows.orderChecksSpec) = true := by kernel_rfl
theorem orderChecks_inPlace : (Rows.orderChecksRow.inPlace == Try.prog.inPlace 3) = true := by kernel_rfl
theorem orderChecks_unfollowed : (Rows.orderChecksRow.unfollowed == Try.prog.unfollowed 3) = true := by kernel_rfl
theorem orderChecks_recurses : (Rows.orderChecksRow.recurses == Try.prog.recurses 3) = true := by kernel_rfl
theorem orderChecks_named : (Rows.orderChecksRow.named == Try.prog.varsNamed 3) = true := by kernel_rfl
theorem orderChecks_closed : joinedFacts Try.prog 3 Try.f3 Rows.orderChecksSpec Rows.orderChecksRow = true := by
  unfold joinedFacts
  simp only [Bool.and_eq_true]
  exact ⟨⟨⟨⟨⟨⟨⟨⟨⟨⟨⟨⟨⟨⟨⟨⟨⟨⟨⟨⟨⟨⟨⟨⟨⟨⟨⟨⟨⟨⟨⟨orderChecks_wf, try_laidOut⟩, pf_rowed⟩, by kernel_rfl⟩, by kernel_rfl⟩, by kernel_rfl⟩, pf_stops⟩, by kernel_rfl⟩, pf_knobs⟩, orderChecks_inPlace⟩, orderChecks_unfollowed⟩, orderChecks_recurses⟩, orderChecks_named⟩, by kernel_rfl⟩, by kernel_rfl⟩, by kernel_rfl⟩, by kernel_rfl⟩, by kernel_rfl⟩, by kernel_rfl⟩, by kernel_rfl⟩, by kernel_rfl⟩, by kernel_rfl⟩, pf_keys⟩, by kernel_rfl⟩, pf_heard⟩, pf_enter⟩, pf_lifts⟩, pf_make⟩, by kernel_rfl⟩, by kernel_rfl⟩, by kernel_rfl⟩, by kernel_rfl⟩
theorem orderChecks_inst : Try.f3.isInstance Try.prog Rows.orderChecksRow.origin Rows.orderChecksRow.targs := of_decide_eq_true (by kernel_rfl)
theorem orderChecks_wrap : Try.f3.isWrapper Try.prog Rows.orderChecksRow.wrapper Rows.orderChecksRow.mainSum := by
  unfold Func.isWrapper; rw [if_neg (by decide +kernel)]; exact ⟨rfl, rfl⟩
theorem orderChecks_func : Try.prog.funcNamed Rows.orderChecksRow.func = some 3 := by kernel_rfl
theorem orderChecks_holds : Rows.OrderChecksSaid :=
  OpenClaim.holds_of_wide (p := Try.pinned) (s := Rows.orderChecksSpec) (c := Rows.orderChecksRow) 3 Try.f3 rfl rfl rfl rfl rfl rfl rfl ⟨rfl, rfl, rfl, rfl, rfl⟩ rfl rfl rfl rfl rfl orderChecks_func Try.func3
    orderChecks_closed orderChecks_inst orderChecks_wrap
    (fun os started H enc _ => orderChecks_lifted os started H enc)
#print axioms orderChecks_holds
end Go.Proofs.Yteljjkghjbofnaa
