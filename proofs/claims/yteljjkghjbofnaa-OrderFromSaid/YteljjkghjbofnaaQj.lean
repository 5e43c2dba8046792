/- OrderFrom: the row. -/
import Derived.Test.YteljjkghjbofnaaQi
import Derived.Test.YteljjkghjbofnaaXk
import Derived.Test.YteljjkghjbofnaaPo
import Derived.SizedLaws
set_option maxRecDepth 100000
namespace Go.Proofs.Yteljjkghjbofnaa
open Go Go.ChangeShapes Go.WideShapes Go.ChangeAt Go.RowKit Go.Joins

theorem orderFrom_lifted (os : Os) (started : os.Started) (H : Type) (enc : TypeId × Value → H) :
    ReturnsInHanded {} Try.checked os 17 .any (Rows.orderFromSpec.pre6 enc Try.prog Try.f17 Rows.orderFromRow.domain false) (Rows.orderFromSpec.post enc Try.prog Try.f17 false true false false) := by
  refine returnsInHanded_of_change_sized (C := Try.checked) try_own started (by kernel_rfl) Try.func17
    (ChangeSpec.witness6 (enc := enc) (C := Try.checked) false ⟨#[], #[.agg #[.slice none 0 0, .slice none 0 0], .agg #[.slice none 0 0]], []⟩ 8 (by kernel_rfl) (by kernel_rfl) (by kernel_rfl) (by kernel_rfl)) ?_
  intro W base args ds gs before hval0 hW hcnd hsz _
  have hval : ∀ (j : Nat) t v, Try.f17.params[j]? = some t → args[j]? = some v → Value.okWide Try.prog W .any base t v := hval0
  have hW' := hW
  obtain ⟨p, q, hA0, hV, rfl, hfz, hnd⟩ := hW
  have hA : DataW.TrodAll enc Try.prog W 0 (fun _ => true) true Try.f17.params.toList args.toList ds p := hA0
  rw [Try.params17] at hA hval
  obtain ⟨v0, v1, d0, d1, p0, p1, rfl, rfl, rfl, h0, h1⟩ := trodAll_two hA
  obtain ⟨l0, so0, sc0, xo0, xn0, xc0, rfl, hs0, hws0⟩ := open_sheet (hval 0 75 v0 rfl rfl) h0
  obtain ⟨chs1, co1, cc1, rfl, hc1, hn1, hb1, hw1⟩ := open_division (hval 1 77 v1 rfl rfl) h1 (fun n hn => of_decide_eq_true (List.all_eq_true.1 hsz n (DataW.weights_mem_each (j := 1) (t := 77) (d := d1) (by rw [Try.params17]; rfl) rfl n hn)))
  refine (OrderFrom_any l0 so0 sc0 xo0 xn0 xc0 chs1 co1 cc1 W hs0 hc1 hn1 hb1 hw1 hws0).mono fun e W' ⟨he, hk⟩ => ⟨_, he, ?_⟩
  refine law_post hW' rfl ?_ (by kernel_rfl) ?_ ?_ ?_ hk
  · rw [Try.params17]
    intro t ht
    simp only [List.mem_cons, List.not_mem_nil, or_false] at ht
    rcases ht with rfl | rfl
    all_goals exact ⟨by kernel_rfl, of_decide_eq_true (by kernel_rfl)⟩
  all_goals
    obtain ⟨rfl, rfl⟩ := trodVars_none hV
    rfl

theorem orderFrom_wf : Rows.orderFromRow.wf (OpenSpec.ofChange Rows.orderFromSpec) = true := by kernel_rfl
theorem orderFrom_inPlace : (Rows.orderFromRow.inPlace == Try.prog.inPlace 17) = true := by kernel_rfl
theorem orderFrom_unfollowed : (Rows.orderFromRow.unfollowed == Try.prog.unfollowed 17) = true := by kernel_rfl
theorem orderFrom_recurses : (Rows.orderFromRow.recurses == Try.prog.recurses 17) = true := by kernel_rfl
theorem orderFrom_named : (Rows.orderFromRow.named == Try.prog.varsNamed 17) = true := by kernel_rfl
theorem orderFrom_closed : joinedFacts Try.prog 17 Try.f17 Rows.orderFromSpec Rows.orderFromRow = true := by
  unfold joinedFacts
  simp only [Bool.and_eq_true]
  exact ⟨⟨⟨⟨⟨⟨⟨⟨⟨⟨⟨⟨⟨⟨⟨⟨⟨⟨⟨⟨⟨⟨⟨⟨⟨⟨⟨⟨⟨⟨⟨orderFrom_wf, try_laidOut⟩, pf_rowed⟩, by kernel_rfl⟩, by kernel_rfl⟩, by kernel_rfl⟩, pf_stops⟩, by kernel_rfl⟩, pf_knobs⟩, orderFrom_inPlace⟩, orderFrom_unfollowed⟩, orderFrom_recurses⟩, orderFrom_named⟩, by kernel_rfl⟩, by kernel_rfl⟩, by kernel_rfl⟩, by kernel_rfl⟩, by kernel_rfl⟩, by kernel_rfl⟩, by kernel_rfl⟩, by kernel_rfl⟩, by kernel_rfl⟩, pf_keys⟩, by kernel_rfl⟩, pf_heard⟩, pf_enter⟩, pf_lifts⟩, pf_make⟩, by kernel_rfl⟩, by kernel_rfl⟩, by kernel_rfl⟩, by kernel_rfl⟩
theorem orderFrom_inst : Try.f17.isInstance Try.prog Rows.orderFromRow.origin Rows.orderFromRow.targs := of_decide_eq_true (by kernel_rfl)
theorem orderFrom_wrap : Try.f17.isWrapper Try.prog Rows.orderFromRow.wrapper Rows.orderFromRow.mainSum := by
  unfold Func.isWrapper; rw [if_neg (by decide +kernel)]; exact ⟨rfl, rfl⟩
theorem orderFrom_func : Try.prog.funcNamed Rows.orderFromRow.func = some 17 := by kernel_rfl
theorem orderFrom_holds : Rows.OrderFromSaid :=
  OpenClaim.holds_of_wide (p := Try.pinned) (s := Rows.orderFromSpec) (c := Rows.orderFromRow) 17 Try.f17 rfl rfl rfl rfl rfl rfl rfl ⟨rfl, rfl, rfl, rfl, rfl⟩ rfl rfl rfl rfl rfl orderFrom_func Try.func17
    orderFrom_closed orderFrom_inst orderFrom_wrap
    (fun os started H enc _ => orderFrom_lifted os started H enc)
#print axioms orderFrom_holds
end Go.Proofs.Yteljjkghjbofnaa
