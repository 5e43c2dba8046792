/- OrderFrees: the row. -/
import Derived.Test.YteljjkghjbofnaaPg
import Derived.Test.YteljjkghjbofnaaXk
import Derived.Test.YteljjkghjbofnaaPo
set_option maxRecDepth 100000
namespace Go.Proofs.Yteljjkghjbofnaa
open Go Go.ChangeShapes Go.WideShapes Go.ChangeAt Go.RowKit Go.Joins

theorem orderFrees_lifted (os : Os) (started : os.Started) (H : Type) (enc : TypeId × Value → H) :
    ReturnsInHanded {} Try.checked os 16 .any (Rows.orderFreesSpec.pre6 enc Try.prog Try.f16 Rows.orderFreesRow.domain false) (Rows.orderFreesSpec.post enc Try.prog Try.f16 false true false false) := by
  refine returnsInHanded_of_change (C := Try.checked) try_own started (by kernel_rfl) Try.func16
    (ChangeSpec.witness6 (enc := enc) (C := Try.checked) false ⟨#[], #[.agg #[.int .i64 0, .slice none 0 0, .slice none 0 0], .slice none 0 0, .slice none 0 0], []⟩ 8 (by kernel_rfl) (by kernel_rfl) (by kernel_rfl) (by kernel_rfl)) ?_
  intro W base args ds gs before hval0 hW hcnd _
  have hval : ∀ (j : Nat) t v, Try.f16.params[j]? = some t → args[j]? = some v → Value.okWide Try.prog W .any base t v := hval0
  have hW' := hW
  obtain ⟨p, q, hA0, hV, rfl, hfz, hnd⟩ := hW
  have hA : DataW.TrodAll enc Try.prog W 0 (fun _ => true) true Try.f16.params.toList args.toList ds p := hA0
  rw [Try.params16] at hA hval
  obtain ⟨v0, v1, v2, d0, d1, d2, p0, p1, p2, rfl, rfl, rfl, h0, h1, h2⟩ := trodAll_three hA
  obtain ⟨o0, ao0, bo0, ca0, cb0, rfl, hpa0, hpb0⟩ := open_prob (hval 0 24 v0 rfl rfl) h0
  obtain ⟨l1, lo1, c1, rfl, hl1, hc1⟩ := open_seqC (hval 1 31 v1 rfl rfl) h1
  obtain ⟨l2, lo2, c2, rfl, hl2⟩ := open_lists (hval 2 70 v2 rfl rfl) h2
  refine (OrderFrees_any o0 ao0 bo0 ca0 cb0 l1 lo1 c1 l2 lo2 c2 W hpa0 hpb0 hl1 hc1 hl2).mono fun e W' ⟨he, hk⟩ => ⟨_, he, ?_⟩
  refine law_post hW' rfl ?_ (by kernel_rfl) ?_ ?_ ?_ hk
  · rw [Try.params16]
    intro t ht
    simp only [List.mem_cons, List.not_mem_nil, or_false] at ht
    rcases ht with rfl | rfl | rfl
    all_goals exact ⟨by kernel_rfl, of_decide_eq_true (by kernel_rfl)⟩
  all_goals
    obtain ⟨rfl, rfl⟩ := trodVars_none hV
    rfl

theorem orderFrees_wf : Rows.orderFreesRow.wf (OpenSpec.ofChange Rows.orderFreesSpec) = true := by kernel_rfl
theorem orderFrees_inPlace : (Rows.orderFreesRow.inPlace == Try.prog.inPlace 16) = true := by kernel_rfl
theorem orderFrees_unfollowed : (Rows.orderFreesRow.unfollowed == Try.prog.unfollowed 16) = true := by kernel_rfl
theorem orderFrees_recurses : (Rows.orderFreesRow.recurses == Try.prog.recurses 16) = true := by kernel_rfl
theorem orderFrees_named : (Rows.orderFreesRow.named == Try.prog.varsNamed 16) = true := by kernel_rfl
theorem orderFrees_closed : joinedFacts Try.prog 16 Try.f16 Rows.orderFreesSpec Rows.orderFreesRow = true := by
  unfold joinedFacts
  simp only [Bool.and_eq_true]
  exact ⟨⟨⟨⟨⟨⟨⟨⟨⟨⟨⟨⟨⟨⟨⟨⟨⟨⟨⟨⟨⟨⟨⟨⟨⟨⟨⟨⟨⟨⟨⟨orderFrees_wf, try_laidOut⟩, pf_rowed⟩, by kernel_rfl⟩, by kernel_rfl⟩, by kernel_rfl⟩, pf_stops⟩, by kernel_rfl⟩, pf_knobs⟩, orderFrees_inPlace⟩, orderFrees_unfollowed⟩, orderFrees_recurses⟩, orderFrees_named⟩, by kernel_rfl⟩, by kernel_rfl⟩, by kernel_rfl⟩, by kernel_rfl⟩, by kernel_rfl⟩, by kernel_rfl⟩, by kernel_rfl⟩, by kernel_rfl⟩, by kernel_rfl⟩, pf_keys⟩, by kernel_rfl⟩, pf_heard⟩, pf_enter⟩, pf_lifts⟩, pf_make⟩, by kernel_rfl⟩, by kernel_rfl⟩, by kernel_rfl⟩, by kernel_rfl⟩
theorem orderFrees_inst : Try.f16.isInstance Try.prog Rows.orderFreesRow.origin Rows.orderFreesRow.targs := of_decide_eq_true (by kernel_rfl)
theorem orderFrees_wrap : Try.f16.isWrapper Try.prog Rows.orderFreesRow.wrapper Rows.orderFreesRow.mainSum := by
  unfold Func.isWrapper; rw [if_neg (by decide +kernel)]; exact ⟨rfl, rfl⟩
theorem orderFrees_func : Try.prog.funcNamed Rows.orderFreesRow.func = some 16 := by kernel_rfl
theorem orderFrees_holds : Rows.OrderFreesSaid :=
  OpenClaim.holds_of_wide (p := Try.pinned) (s := Rows.orderFreesSpec) (c := Rows.orderFreesRow) 16 Try.f16 rfl rfl rfl rfl rfl rfl rfl ⟨rfl, rfl, rfl, rfl, rfl⟩ rfl rfl rfl rfl rfl orderFrees_func Try.func16
    orderFrees_closed orderFrees_inst orderFrees_wrap
    (fun os started H enc _ => orderFrees_lifted os started H enc)
#print axioms orderFrees_holds
end Go.Proofs.Yteljjkghjbofnaa
