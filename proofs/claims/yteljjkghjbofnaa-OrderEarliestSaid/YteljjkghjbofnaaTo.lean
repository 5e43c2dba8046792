/- OrderEarliest: the row. -/
import Derived.Test.YteljjkghjbofnaaTn
import Derived.Test.YteljjkghjbofnaaXk
import Derived.Test.YteljjkghjbofnaaYr
set_option maxRecDepth 100000
namespace Go.Proofs.Yteljjkghjbofnaa
open Go Go.ChangeShapes Go.WideShapes Go.ChangeAt Go.RowKit Go.Joins

theorem orderEarliest_lifted (os : Os) (started : os.Started) (H : Type) (enc : TypeId × Value → H) :
    ReturnsInHanded {} Try.checked os 9 .any (Rows.orderEarliestSpec.pre6 enc Try.prog Try.f9 Rows.orderEarliestRow.domain false) (Rows.orderEarliestSpec.post enc Try.prog Try.f9 false true false false) := by
  refine returnsInHanded_of_change (C := Try.checked) try_own started (by kernel_rfl) Try.func9
    (ChangeSpec.witness6 (enc := enc) (C := Try.checked) false ⟨#[], #[.agg #[.int .i64 0, .slice none 0 0, .slice none 0 0], .int .i64 0, .slice none 0 0], []⟩ 8 (by kernel_rfl) (by kernel_rfl) (by kernel_rfl) (by kernel_rfl)) ?_
  intro W base args ds gs before hval0 hW hcnd _
  have hval : ∀ (j : Nat) t v, Try.f9.params[j]? = some t → args[j]? = some v → Value.okWide Try.prog W .any base t v := hval0
  have hW' := hW
  obtain ⟨p, q, hA0, hV, rfl, hfz, hnd⟩ := hW
  have hA : DataW.TrodAll enc Try.prog W 0 (fun _ => true) true Try.f9.params.toList args.toList ds p := hA0
  rw [Try.params9] at hA hval
  obtain ⟨v0, v1, v2, d0, d1, d2, p0, p1, p2, rfl, rfl, rfl, h0, h1, h2⟩ := trodAll_three hA
  obtain ⟨o0, ao0, bo0, ca0, cb0, rfl, hpa0, hpb0⟩ := open_prob (hval 0 24 v0 rfl rfl) h0
  obtain ⟨x1, rfl⟩ := open_int (hval 1 3 v1 rfl rfl)
  obtain ⟨l2, lo2, c2, rfl, hl2, hc2⟩ := open_seqC (hval 2 31 v2 rfl rfl) h2
  refine (OrderEarliest_any o0 ao0 bo0 ca0 cb0 x1 l2 lo2 c2 W hpa0 hpb0 hl2).mono fun e W' ⟨he, hk⟩ => ⟨_, he, ?_⟩
  refine law_post hW' rfl ?_ (by kernel_rfl) ?_ ?_ ?_ hk
  · rw [Try.params9]
    intro t ht
    simp only [List.mem_cons, List.not_mem_nil, or_false] at ht
    rcases ht with rfl | rfl | rfl
    all_goals exact ⟨by kernel_rfl, of_decide_eq_true (by kernel_rfl)⟩
  all_goals
    obtain ⟨rfl, rfl⟩ := trodVars_none hV
    rfl

theorem orderEarliest_wf : Rows.orderEarliestRow.wf (OpenSpec.ofChange Rows.orderEarliestSpec) = true := by kernel_rfl
theorem orderEarliest_inPlace : (Rows.orderEarliestRow.inPlace == Try.prog.inPlace 9) = true := by kernel_rfl
theorem orderEarliest_unfollowed : (Rows.orderEarliestRow.unfollowed == Try.prog.unfollowed 9) = true := by kernel_rfl
theorem orderEarliest_recurses : (Rows.orderEarliestRow.recurses == Try.prog.recurses 9) = true := by kernel_rfl
theorem orderEarliest_named : (Rows.orderEarliestRow.named == Try.prog.varsNamed 9) = true := by kernel_rfl
theorem orderEarliest_closed : joinedFacts Try.prog 9 Try.f9 Rows.orderEarliestSpec Rows.orderEarliestRow = true := by
  unfold joinedFacts
  simp only [Bool.and_eq_true]
  exact ⟨⟨⟨⟨⟨⟨⟨⟨⟨⟨⟨⟨⟨⟨⟨⟨⟨⟨⟨⟨⟨⟨⟨⟨⟨⟨⟨⟨⟨⟨⟨orderEarliest_wf, try_laidOut⟩, pf_rowed⟩, by kernel_rfl⟩, by kernel_rfl⟩, by kernel_rfl⟩, pf_stops⟩, by kernel_rfl⟩, pf_knobs⟩, orderEarliest_inPlace⟩, orderEarliest_unfollowed⟩, orderEarliest_recurses⟩, orderEarliest_named⟩, by kernel_rfl⟩, by kernel_rfl⟩, by kernel_rfl⟩, by kernel_rfl⟩, by kernel_rfl⟩, by kernel_rfl⟩, by kernel_rfl⟩, by kernel_rfl⟩, by kernel_rfl⟩, pf_keys⟩, by kernel_rfl⟩, pf_heard⟩, pf_enter⟩, pf_lifts⟩, pf_make⟩, by kernel_rfl⟩, by kernel_rfl⟩, by kernel_rfl⟩, by kernel_rfl⟩
theorem orderEarliest_inst : Try.f9.isInstance Try.prog Rows.orderEarliestRow.origin Rows.orderEarliestRow.targs := of_decide_eq_true (by kernel_rfl)
theorem orderEarliest_wrap : Try.f9.isWrapper Try.prog Rows.orderEarliestRow.wrapper Rows.orderEarliestRow.mainSum := by
  unfold Func.isWrapper; rw [if_neg (by decide +kernel)]; exact ⟨rfl, rfl⟩
theorem orderEarliest_func : Try.prog.funcNamed Rows.orderEarliestRow.func = some 9 := by kernel_rfl
theorem orderEarliest_holds : Rows.OrderEarliestSaid :=
  OpenClaim.holds_of_wide (p := Try.pinned) (s := Rows.orderEarliestSpec) (c := Rows.orderEarliestRow) 9 Try.f9 rfl rfl rfl rfl rfl rfl rfl ⟨rfl, rfl, rfl, rfl, rfl⟩ rfl rfl rfl rfl rfl orderEarliest_func Try.func9
    orderEarliest_closed orderEarliest_inst orderEarliest_wrap
    (fun os started H enc _ => orderEarliest_lifted os started H enc)
#print axioms orderEarliest_holds
end Go.Proofs.Yteljjkghjbofnaa
