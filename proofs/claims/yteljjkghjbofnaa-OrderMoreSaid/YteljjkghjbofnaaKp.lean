/- OrderMore: the row. -/
import Derived.Test.YteljjkghjbofnaaKg
import Derived.Test.YteljjkghjbofnaaXk
import Derived.Test.YteljjkghjbofnaaKo
set_option maxRecDepth 100000
namespace Go.Proofs.Yteljjkghjbofnaa
open Go Go.ChangeShapes Go.WideShapes Go.ChangeAt Go.RowKit Go.Joins

theorem orderMore_lifted (os : Os) (started : os.Started) (H : Type) (enc : TypeId × Value → H) :
    ReturnsInHanded {} Try.checked os 18 .any (Rows.orderMoreSpec.pre6 enc Try.prog Try.f18 Rows.orderMoreRow.domain false) (Rows.orderMoreSpec.post enc Try.prog Try.f18 false true false false) := by
  refine returnsInHanded_of_change (C := Try.checked) try_own started (by kernel_rfl) Try.func18
    (ChangeSpec.witness6 (enc := enc) (C := Try.checked) false ⟨#[], #[.agg #[.int .i64 0, .slice none 0 0, .slice none 0 0], .agg #[.int .i64 0, .slice none 0 0, .slice none 0 0], .int .i64 0, .int .i64 0], []⟩ 8 (by kernel_rfl) (by kernel_rfl) (by kernel_rfl) (by kernel_rfl)) ?_
  intro W base args ds gs before hval0 hW hcnd _
  have hval : ∀ (j : Nat) t v, Try.f18.params[j]? = some t → args[j]? = some v → Value.okWide Try.prog W .any base t v := hval0
  have hW' := hW
  obtain ⟨p, q, hA0, hV, rfl, hfz, hnd⟩ := hW
  have hA : DataW.TrodAll enc Try.prog W 0 (fun _ => true) true Try.f18.params.toList args.toList ds p := hA0
  rw [Try.params18] at hA hval
  obtain ⟨v0, v1, v2, v3, d0, d1, d2, d3, p0, p1, p2, p3, rfl, rfl, rfl, h0, h1, h2, h3⟩ := trodAll_four' hA
  obtain ⟨o0, ao0, bo0, ca0, cb0, rfl, hpa0, hpb0, hna0, hnb0⟩ := open_probNN (hval 0 24 v0 rfl rfl) h0
  obtain ⟨o1, ao1, bo1, ca1, cb1, rfl, hpa1, hpb1, hna1, hnb1⟩ := open_probNN (hval 1 24 v1 rfl rfl) h1
  obtain ⟨x2, rfl⟩ := open_int (hval 2 3 v2 rfl rfl)
  obtain ⟨x3, rfl⟩ := open_int (hval 3 3 v3 rfl rfl)
  refine (OrderMore_any o0 o1 ao0 bo0 ao1 bo1 ca0 cb0 ca1 cb1 x2 x3 W hpa0 hpb0 hpa1 hpb1 hna0 hnb0 hna1 hnb1).mono fun e W' ⟨he, hk⟩ => ⟨_, he, ?_⟩
  refine law_post hW' rfl ?_ (by kernel_rfl) ?_ ?_ ?_ hk
  · rw [Try.params18]
    intro t ht
    simp only [List.mem_cons, List.not_mem_nil, or_false] at ht
    rcases ht with rfl | rfl | rfl | rfl
    all_goals exact ⟨by kernel_rfl, of_decide_eq_true (by kernel_rfl)⟩
  all_goals
    obtain ⟨rfl, rfl⟩ := trodVars_none hV
    rfl

theorem orderMore_wf : Rows.orderMoreRow.wf (OpenSpec.ofChange Rows.orderMoreSpec) = true := by kernel_rfl
theorem orderMore_inPlace : (Rows.orderMoreRow.inPlace == Try.prog.inPlace 18) = true := by kernel_rfl
theorem orderMore_unfollowed : (Rows.orderMoreRow.unfollowed == Try.prog.unfollowed 18) = true := by kernel_rfl
theorem orderMore_recurses : (Rows.orderMoreRow.recurses == Try.prog.recurses 18) = true := by kernel_rfl
theorem orderMore_named : (Rows.orderMoreRow.named == Try.prog.varsNamed 18) = true := by kernel_rfl
theorem orderMore_closed : joinedFacts Try.prog 18 Try.f18 Rows.orderMoreSpec Rows.orderMoreRow = true := by
  unfold joinedFacts
  simp only [Bool.and_eq_true]
  exact ⟨⟨⟨⟨⟨⟨⟨⟨⟨⟨⟨⟨⟨⟨⟨⟨⟨⟨⟨⟨⟨⟨⟨⟨⟨⟨⟨⟨⟨⟨⟨orderMore_wf, try_laidOut⟩, pf_rowed⟩, by kernel_rfl⟩, by kernel_rfl⟩, by kernel_rfl⟩, pf_stops⟩, by kernel_rfl⟩, pf_knobs⟩, orderMore_inPlace⟩, orderMore_unfollowed⟩, orderMore_recurses⟩, orderMore_named⟩, by kernel_rfl⟩, by kernel_rfl⟩, by kernel_rfl⟩, by kernel_rfl⟩, by kernel_rfl⟩, by kernel_rfl⟩, by kernel_rfl⟩, by kernel_rfl⟩, by kernel_rfl⟩, pf_keys⟩, by kernel_rfl⟩, pf_heard⟩, pf_enter⟩, pf_lifts⟩, pf_make⟩, by kernel_rfl⟩, by kernel_rfl⟩, by kernel_rfl⟩, by kernel_rfl⟩
theorem orderMore_inst : Try.f18.isInstance Try.prog Rows.orderMoreRow.origin Rows.orderMoreRow.targs := of_decide_eq_true (by kernel_rfl)
theorem orderMore_wrap : Try.f18.isWrapper Try.prog Rows.orderMoreRow.wrapper Rows.orderMoreRow.mainSum := by
  unfold Func.isWrapper; rw [if_neg (by decide +kernel)]; exact ⟨rfl, rfl⟩
theorem orderMore_func : Try.prog.funcNamed Rows.orderMoreRow.func = some 18 := by kernel_rfl
theorem orderMore_holds : Rows.OrderMoreSaid :=
  OpenClaim.holds_of_wide (p := Try.pinned) (s := Rows.orderMoreSpec) (c := Rows.orderMoreRow) 18 Try.f18 rfl rfl rfl rfl rfl rfl rfl ⟨rfl, rfl, rfl, rfl, rfl⟩ rfl rfl rfl rfl rfl orderMore_func Try.func18
    orderMore_closed orderMore_inst orderMore_wrap
    (fun os started H enc _ => orderMore_lifted os started H enc)
#print axioms orderMore_holds
end Go.Proofs.Yteljjkghjbofnaa
