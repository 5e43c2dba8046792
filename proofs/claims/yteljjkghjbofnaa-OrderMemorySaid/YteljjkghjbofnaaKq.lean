/- OrderMemory: the row. -/
import Derived.Test.YteljjkghjbofnaaKh
import Derived.Test.YteljjkghjbofnaaXk
import Derived.Test.YteljjkghjbofnaaKo
set_option maxRecDepth 100000
namespace Go.Proofs.Yteljjkghjbofnaa
open Go Go.ChangeShapes Go.WideShapes Go.ChangeAt Go.RowKit Go.Joins

theorem orderMemory_lifted (os : Os) (started : os.Started) (H : Type) (enc : TypeId × Value → H) :
    ReturnsInHanded {} Try.checked os 19 .any (Rows.orderMemorySpec.pre6 enc Try.prog Try.f19 Rows.orderMemoryRow.domain false) (Rows.orderMemorySpec.post enc Try.prog Try.f19 false true false false) := by
  refine returnsInHanded_of_change (C := Try.checked) try_own started (by kernel_rfl) Try.func19
    (ChangeSpec.witness6 (enc := enc) (C := Try.checked) false ⟨#[], #[.agg #[.int .i64 0, .slice none 0 0, .slice none 0 0], .int .i64 0, .slice none 0 0], []⟩ 8 (by kernel_rfl) (by kernel_rfl) (by kernel_rfl) (by kernel_rfl)) ?_
  intro W base args ds gs before hval0 hW hcnd _
  have hval : ∀ (j : Nat) t v, Try.f19.params[j]? = some t → args[j]? = some v → Value.okWide Try.prog W .any base t v := hval0
  have hW' := hW
  obtain ⟨p, q, hA0, hV, rfl, hfz, hnd⟩ := hW
  have hA : DataW.TrodAll enc Try.prog W 0 (fun _ => true) true Try.f19.params.toList args.toList ds p := hA0
  rw [Try.params19] at hA hval
  obtain ⟨v0, v1, v2, d0, d1, d2, p0, p1, p2, rfl, rfl, rfl, h0, h1, h2⟩ := trodAll_three hA
  obtain ⟨o0, ao0, bo0, ca0, cb0, rfl, hpa0, hpb0, hna0, hnb0⟩ := open_probNN (hval 0 24 v0 rfl rfl) h0
  obtain ⟨x1, rfl⟩ := open_int (hval 1 3 v1 rfl rfl)
  obtain ⟨l2, lo2, c2, rfl, hl2, hc2, hn2⟩ := open_seqN (hval 2 31 v2 rfl rfl) h2
  refine (OrderMemory_any o0 ao0 bo0 ca0 cb0 x1 l2 lo2 c2 W hpa0 hpb0 hl2 hna0 hnb0 hn2 hc2).mono fun e W' ⟨he, hk⟩ => ⟨_, he, ?_⟩
  refine law_post hW' rfl ?_ (by kernel_rfl) ?_ ?_ ?_ hk
  · rw [Try.params19]
    intro t ht
    simp only [List.mem_cons, List.not_mem_nil, or_false] at ht
    rcases ht with rfl | rfl | rfl
    all_goals exact ⟨by kernel_rfl, of_decide_eq_true (by kernel_rfl)⟩
  all_goals
    obtain ⟨rfl, rfl⟩ := trodVars_none hV
    rfl

theorem orderMemory_wf : Rows.orderMemoryRow.wf (OpenSpec.ofChange Rows.orderMemorySpec) = true := by kernel_rfl
theorem orderMemory_inPlace : (Rows.orderMemoryRow.inPlace == Try.prog.inPlace 19) = true := by kernel_rfl
theorem orderMemory_unfollowed : (Rows.orderMemoryRow.unfollowed == Try.prog.unfollowed 19) = true := by kernel_rfl
theorem orderMemory_recurses : (Rows.orderMemoryRow.recurses == Try.prog.recurses 19) = true := by kernel_rfl
theorem orderMemory_named : (Rows.orderMemoryRow.named == Try.prog.varsNamed 19) = true := by kernel_rfl
theorem orderMemory_closed : joinedFacts Try.prog 19 Try.f19 Rows.orderMemorySpec Rows.orderMemoryRow = true := by
  unfold joinedFacts
  simp only [Bool.and_eq_true]
  exact ⟨⟨⟨⟨⟨⟨⟨⟨⟨⟨⟨⟨⟨⟨⟨⟨⟨⟨⟨⟨⟨⟨⟨⟨⟨⟨⟨⟨⟨⟨⟨orderMemory_wf, try_laidOut⟩, pf_rowed⟩, by kernel_rfl⟩, by kernel_rfl⟩, by kernel_rfl⟩, pf_stops⟩, by kernel_rfl⟩, pf_knobs⟩, orderMemory_inPlace⟩, orderMemory_unfollowed⟩, orderMemory_recurses⟩, orderMemory_named⟩, by kernel_rfl⟩, by kernel_rfl⟩, by kernel_rfl⟩, by kernel_rfl⟩, by kernel_rfl⟩, by kernel_rfl⟩, by kernel_rfl⟩, by kernel_rfl⟩, by kernel_rfl⟩, pf_keys⟩, by kernel_rfl⟩, pf_heard⟩, pf_enter⟩, pf_lifts⟩, pf_make⟩, by kernel_rfl⟩, by kernel_rfl⟩, by kernel_rfl⟩, by kernel_rfl⟩
theorem orderMemory_inst : Try.f19.isInstance Try.prog Rows.orderMemoryRow.origin Rows.orderMemoryRow.targs := of_decide_eq_true (by kernel_rfl)
theorem orderMemory_wrap : Try.f19.isWrapper Try.prog Rows.orderMemoryRow.wrapper Rows.orderMemoryRow.mainSum := by
  unfold Func.isWrapper; rw [if_neg (by decide +kernel)]; exact ⟨rfl, rfl⟩
theorem orderMemory_func : Try.prog.funcNamed Rows.orderMemoryRow.func = some 19 := by kernel_rfl
theorem orderMemory_holds : Rows.OrderMemorySaid :=
  OpenClaim.holds_of_wide (p := Try.pinned) (s := Rows.orderMemorySpec) (c := Rows.orderMemoryRow) 19 Try.f19 rfl rfl rfl rfl rfl rfl rfl ⟨rfl, rfl, rfl, rfl, rfl⟩ rfl rfl rfl rfl rfl orderMemory_func Try.func19
    orderMemory_closed orderMemory_inst orderMemory_wrap
    (fun os started H enc _ => orderMemory_lifted os started H enc)
#print axioms orderMemory_holds
end Go.Proofs.Yteljjkghjbofnaa
