/- OrderMends: the row. -/
import Derived.Test.YteljjkghjbofnaaWm
import Derived.Test.YteljjkghjbofnaaXk
import Derived.Test.YteljjkghjbofnaaWl
set_option maxRecDepth 100000
namespace Go.Proofs.Yteljjkghjbofnaa
open Go Go.ChangeShapes Go.WideShapes Go.ChangeAt Go.RowKit Go.Joins

theorem orderMends_lifted (os : Os) (started : os.Started) (H : Type) (enc : TypeId × Value → H) :
    ReturnsInHanded {} Try.checked os 15 .any (Rows.orderMendsSpec.pre6 enc Try.prog Try.f15 Rows.orderMendsRow.domain false) (Rows.orderMendsSpec.post enc Try.prog Try.f15 false true false false) := by
  refine returnsInHanded_of_change (C := Try.checked) try_own started (by kernel_rfl) Try.func15
    (ChangeSpec.witness6 (enc := enc) (C := Try.checked) false ⟨#[], #[.agg #[.int .i64 0, .slice none 0 0, .slice none 0 0], .slice none 0 0], []⟩ 8 (by kernel_rfl) (by kernel_rfl) (by kernel_rfl) (by kernel_rfl)) ?_
  intro W base args ds gs before hval0 hW hcnd _
  have hval : ∀ (j : Nat) t v, Try.f15.params[j]? = some t → args[j]? = some v → Value.okWide Try.prog W .any base t v := hval0
  have hW' := hW
  obtain ⟨p, q, hA0, hV, rfl, hfz, hnd⟩ := hW
  have hA : DataW.TrodAll enc Try.prog W 0 (fun _ => true) true Try.f15.params.toList args.toList ds p := hA0
  rw [Try.params15] at hA hval
  obtain ⟨v0, v1, d0, d1, p0, p1, rfl, rfl, rfl, h0, h1⟩ := trodAll_two hA
  obtain ⟨o0, ao0, bo0, ca0, cb0, rfl, hpa0, hpb0, hlb0⟩ := open_probB (hval 0 24 v0 rfl rfl) h0
  obtain ⟨l1, lo1, c1, rfl, hl1⟩ := open_pairsB (hval 1 22 v1 rfl rfl) h1
  refine (OrderMends_any o0 ao0 bo0 ca0 cb0 l1 lo1 c1 W hpa0 hpb0 hl1 hlb0).mono fun e W' ⟨he, hk⟩ => ⟨_, he, ?_⟩
  refine law_post hW' rfl ?_ (by kernel_rfl) ?_ ?_ ?_ hk
  · rw [Try.params15]
    intro t ht
    simp only [List.mem_cons, List.not_mem_nil, or_false] at ht
    rcases ht with rfl | rfl
    all_goals exact ⟨by kernel_rfl, of_decide_eq_true (by kernel_rfl)⟩
  all_goals
    obtain ⟨rfl, rfl⟩ := trodVars_none hV
    rfl

theorem orderMends_wf : Rows.orderMendsRow.wf (OpenSpec.ofChange Rows.orderMendsSpec) = true := by kernel_rfl
theorem orderMends_inPlace : (Rows.orderMendsRow.inPlace == Try.prog.inPlace 15) = true := by kernel_rfl
theorem orderMends_unfollowed : (Rows.orderMendsRow.unfollowed == Try.prog.unfollowed 15) = true := by kernel_rfl
theorem orderMends_recurses : (Rows.orderMendsRow.recurses == Try.prog.recurses 15) = true := by kernel_rfl
theorem orderMends_named : (Rows.orderMendsRow.named == Try.prog.varsNamed 15) = true := by kernel_rfl
theorem orderMends_closed : joinedFacts Try.prog 15 Try.f15 Rows.orderMendsSpec Rows.orderMendsRow = true := by
  unfold joinedFacts
  simp only [Bool.and_eq_true]
  exact ⟨⟨⟨⟨⟨⟨⟨⟨⟨⟨⟨⟨⟨⟨⟨⟨⟨⟨⟨⟨⟨⟨⟨⟨⟨⟨⟨⟨⟨⟨⟨orderMends_wf, try_laidOut⟩, pf_rowed⟩, by kernel_rfl⟩, by kernel_rfl⟩, by kernel_rfl⟩, pf_stops⟩, by kernel_rfl⟩, pf_knobs⟩, orderMends_inPlace⟩, orderMends_unfollowed⟩, orderMends_recurses⟩, orderMends_named⟩, by kernel_rfl⟩, by kernel_rfl⟩, by kernel_rfl⟩, by kernel_rfl⟩, by kernel_rfl⟩, by kernel_rfl⟩, by kernel_rfl⟩, by kernel_rfl⟩, by kernel_rfl⟩, pf_keys⟩, by kernel_rfl⟩, pf_heard⟩, pf_enter⟩, pf_lifts⟩, pf_make⟩, by kernel_rfl⟩, by kernel_rfl⟩, by kernel_rfl⟩, by kernel_rfl⟩
theorem orderMends_inst : Try.f15.isInstance Try.prog Rows.orderMendsRow.origin Rows.orderMendsRow.targs := of_decide_eq_true (by kernel_rfl)
theorem orderMends_wrap : Try.f15.isWrapper Try.prog Rows.orderMendsRow.wrapper Rows.orderMendsRow.mainSum := by
  unfold Func.isWrapper; rw [if_neg (by decide +kernel)]; exact ⟨rfl, rfl⟩
theorem orderMends_func : Try.prog.funcNamed Rows.orderMendsRow.func = some 15 := by kernel_rfl
theorem orderMends_holds : Rows.OrderMendsSaid :=
  OpenClaim.holds_of_wide (p := Try.pinned) (s := Rows.orderMendsSpec) (c := Rows.orderMendsRow) 15 Try.f15 rfl rfl rfl rfl rfl rfl rfl ⟨rfl, rfl, rfl, rfl, rfl⟩ rfl rfl rfl rfl rfl orderMends_func Try.func15
    orderMends_closed orderMends_inst orderMends_wrap
    (fun os started H enc _ => orderMends_lifted os started H enc)
#print axioms orderMends_holds
end Go.Proofs.Yteljjkghjbofnaa
