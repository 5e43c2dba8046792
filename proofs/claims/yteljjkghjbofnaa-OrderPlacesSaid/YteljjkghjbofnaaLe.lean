/- OrderPlaces: the row. -/
import Derived.Test.YteljjkghjbofnaaLd
import Derived.Test.YteljjkghjbofnaaXk
import Derived.Test.YteljjkghjbofnaaKo
set_option maxRecDepth 100000
namespace Go.Proofs.Yteljjkghjbofnaa
open Go Go.ChangeShapes Go.WideShapes Go.ChangeAt Go.RowKit Go.Joins

theorem orderPlaces_lifted (os : Os) (started : os.Started) (H : Type) (enc : TypeId × Value → H) :
    ReturnsInHanded {} Try.checked os 21 .any (Rows.orderPlacesSpec.pre6 enc Try.prog Try.f21 Rows.orderPlacesRow.domain false) (Rows.orderPlacesSpec.post enc Try.prog Try.f21 false true false false) := by
  refine returnsInHanded_of_change (C := Try.checked) try_own started (by kernel_rfl) Try.func21
    (ChangeSpec.witness6 (enc := enc) (C := Try.checked) false ⟨#[], #[.agg #[.int .i64 0, .slice none 0 0, .slice none 0 0], .int .i64 0, .agg #[.int .i64 0, .int .i64 0]], []⟩ 8 (by kernel_rfl) (by kernel_rfl) (by kernel_rfl) (by kernel_rfl)) ?_
  intro W base args ds gs before hval0 hW hcnd _
  have hval : ∀ (j : Nat) t v, Try.f21.params[j]? = some t → args[j]? = some v → Value.okWide Try.prog W .any base t v := hval0
  have hW' := hW
  obtain ⟨p, q, hA0, hV, rfl, hfz, hnd⟩ := hW
  have hA : DataW.TrodAll enc Try.prog W 0 (fun _ => true) true Try.f21.params.toList args.toList ds p := hA0
  rw [Try.params21] at hA hval
  obtain ⟨v0, v1, v2, d0, d1, d2, p0, p1, p2, rfl, rfl, rfl, h0, h1, h2⟩ := trodAll_three hA
  obtain ⟨o0, ao0, bo0, ca0, cb0, rfl, hpa0, hpb0, hna0, hnb0, hlb0⟩ := open_probNNB (hval 0 24 v0 rfl rfl) h0
  obtain ⟨x1, rfl⟩ := open_int (hval 1 3 v1 rfl rfl)
  obtain ⟨x2, y2, rfl⟩ := open_pair (hval 2 83 v2 rfl rfl) h2
  refine (OrderPlaces_any o0 ao0 bo0 ca0 cb0 x1 x2 y2 W hpa0 hpb0 hna0 hnb0 hlb0).mono fun e W' ⟨he, hk⟩ => ⟨_, he, ?_⟩
  refine law_post hW' rfl ?_ (by kernel_rfl) ?_ ?_ ?_ hk
  · rw [Try.params21]
    intro t ht
    simp only [List.mem_cons, List.not_mem_nil, or_false] at ht
    rcases ht with rfl | rfl | rfl
    all_goals exact ⟨by kernel_rfl, of_decide_eq_true (by kernel_rfl)⟩
  all_goals
    obtain ⟨rfl, rfl⟩ := trodVars_none hV
    rfl

theorem orderPlaces_wf : Rows.orderPlacesRow.wf (OpenSpec.ofChange Rows.orderPlacesSpec) = true := by kernel_rfl
theorem orderPlaces_inPlace : (Rows.orderPlacesRow.inPlace == Try.prog.inPlace 21) = true := by kernel_rfl
theorem orderPlaces_unfollowed : (Rows.orderPlacesRow.unfollowed == Try.prog.unfollowed 21) = true := by kernel_rfl
theorem orderPlaces_recurses : (Rows.orderPlacesRow.recurses == Try.prog.recurses 21) = true := by kernel_rfl
theorem orderPlaces_named : (Rows.orderPlacesRow.named == Try.prog.varsNamed 21) = true := by kernel_rfl
theorem orderPlaces_closed : joinedFacts Try.prog 21 Try.f21 Rows.orderPlacesSpec Rows.orderPlacesRow = true := by
  unfold joinedFacts
  simp only [Bool.and_eq_true]
  exact ⟨⟨⟨⟨⟨⟨⟨⟨⟨⟨⟨⟨⟨⟨⟨⟨⟨⟨⟨⟨⟨⟨⟨⟨⟨⟨⟨⟨⟨⟨⟨orderPlaces_wf, try_laidOut⟩, pf_rowed⟩, by kernel_rfl⟩, by kernel_rfl⟩, by kernel_rfl⟩, pf_stops⟩, by kernel_rfl⟩, pf_knobs⟩, orderPlaces_inPlace⟩, orderPlaces_unfollowed⟩, orderPlaces_recurses⟩, orderPlaces_named⟩, by kernel_rfl⟩, by kernel_rfl⟩, by kernel_rfl⟩, by kernel_rfl⟩, by kernel_rfl⟩, by kernel_rfl⟩, by kernel_rfl⟩, by kernel_rfl⟩, by kernel_rfl⟩, pf_keys⟩, by kernel_rfl⟩, pf_heard⟩, pf_enter⟩, pf_lifts⟩, pf_make⟩, by kernel_rfl⟩, by kernel_rfl⟩, by kernel_rfl⟩, by kernel_rfl⟩
theorem orderPlaces_inst : Try.f21.isInstance Try.prog Rows.orderPlacesRow.origin Rows.orderPlacesRow.targs := of_decide_eq_true (by kernel_rfl)
theorem orderPlaces_wrap : Try.f21.isWrapper Try.prog Rows.orderPlacesRow.wrapper Rows.orderPlacesRow.mainSum := by
  unfold Func.isWrapper; rw [if_neg (by decide +kernel)]; exact ⟨rfl, rfl⟩
theorem orderPlaces_func : Try.prog.funcNamed Rows.orderPlacesRow.func = some 21 := by kernel_rfl
theorem orderPlaces_holds : Rows.OrderPlacesSaid :=
  OpenClaim.holds_of_wide (p := Try.pinned) (s := Rows.orderPlacesSpec) (c := Rows.orderPlacesRow) 21 Try.f21 rfl rfl rfl rfl rfl rfl rfl ⟨rfl, rfl, rfl, rfl, rfl⟩ rfl rfl rfl rfl rfl orderPlaces_func Try.func21
    orderPlaces_closed orderPlaces_inst orderPlaces_wrap
    (fun os started H enc _ => orderPlaces_lifted os started H enc)
#print axioms orderPlaces_holds
end Go.Proofs.Yteljjkghjbofnaa
