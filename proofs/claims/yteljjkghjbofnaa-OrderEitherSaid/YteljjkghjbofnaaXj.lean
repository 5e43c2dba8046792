/- OrderEither: the row. -/
import Derived.Test.YteljjkghjbofnaaXh
import Derived.Test.YteljjkghjbofnaaXk
set_option maxRecDepth 100000
namespace Go.Proofs.Yteljjkghjbofnaa
open Go Go.ChangeShapes Go.WideShapes Go.ChangeAt Go.RowKit Go.Joins

theorem slimB_len {o : Prob} (h : slimB o = true) : o.arcs.length ≤ 600 ∧ o.near.length ≤ 300 := by
  unfold slimB at h
  simpa using h
theorem OrderEither_all (o : Prob) (ao bo : Option Addr) (ca cb : Nat) (l : List Int) (lo : Option Addr) (c : Nat) (w : World) (hA : Pairs w ao o.arcs) (hB : Pairs w bo o.near) (hl : Ints w lo l) :
    Calls Try.prog 7 #[probV o ao ca bo cb, .slice lo l.length c] w (Gives (.bool true) w) := by
  by_cases hs : slimB o = false
  · exact OrderEither_wide o ao bo ca cb l lo c w (.inl hs)
  · have hs : slimB o = true := by simpa using hs
    have h := slimB_len hs
    exact OrderEither_any o ao bo ca cb l lo c w ⟨hA, hB, by omega, by omega⟩ hl

theorem orderEither_lifted (os : Os) (started : os.Started) (H : Type) (enc : TypeId × Value → H) :
    ReturnsInHanded {} Try.checked os 7 .any (Rows.orderEitherSpec.pre6 enc Try.prog Try.f7 Rows.orderEitherRow.domain false) (Rows.orderEitherSpec.post enc Try.prog Try.f7 false true false false) := by
  refine returnsInHanded_of_change (C := Try.checked) try_own started (by kernel_rfl) Try.func7
    (ChangeSpec.witness6 (enc := enc) (C := Try.checked) false ⟨#[], #[.agg #[.int .i64 0, .slice none 0 0, .slice none 0 0], .slice none 0 0], []⟩ 8 (by kernel_rfl) (by kernel_rfl) (by kernel_rfl) (by kernel_rfl)) ?_
  intro W base args ds gs before hval0 hW hcnd _
  have hval : ∀ (j : Nat) t v, Try.f7.params[j]? = some t → args[j]? = some v → Value.okWide Try.prog W .any base t v := hval0
  have hW' := hW
  obtain ⟨p, q, hA0, hV, rfl, hfz, hnd⟩ := hW
  have hA : DataW.TrodAll enc Try.prog W 0 (fun _ => true) true Try.f7.params.toList args.toList ds p := hA0
  rw [Try.params7] at hA hval
  obtain ⟨v0, v1, d0, d1, p0, p1, rfl, rfl, rfl, h0, h1⟩ := trodAll_two hA
  obtain ⟨o, ao, bo, ca, cb, rfl, hpa, hpb⟩ := open_prob (hval 0 24 v0 rfl rfl) h0
  obtain ⟨l, lo, c, rfl, hl⟩ := open_seq (hval 1 31 v1 rfl rfl) h1
  refine (OrderEither_all o ao bo ca cb l lo c W hpa hpb hl).mono fun e W' ⟨he, hk⟩ => ⟨_, he, ?_⟩
  refine law_post hW' rfl ?_ (by kernel_rfl) ?_ ?_ ?_ hk
  · rw [Try.params7]
    intro t ht
    simp only [List.mem_cons, List.not_mem_nil, or_false] at ht
    rcases ht with rfl | rfl
    · exact ⟨by kernel_rfl, of_decide_eq_true (by kernel_rfl)⟩
    · exact ⟨by kernel_rfl, of_decide_eq_true (by kernel_rfl)⟩
  all_goals
    obtain ⟨rfl, rfl⟩ := trodVars_none hV
    rfl

theorem oe_wf : Rows.orderEitherRow.wf (OpenSpec.ofChange Rows.orderEitherSpec) = true := by kernel_rfl
theorem oe_inPlace : (Rows.orderEitherRow.inPlace == Try.prog.inPlace 7) = true := by kernel_rfl
theorem oe_unfollowed : (Rows.orderEitherRow.unfollowed == Try.prog.unfollowed 7) = true := by kernel_rfl
theorem oe_recurses : (Rows.orderEitherRow.recurses == Try.prog.recurses 7) = true := by kernel_rfl
theorem oe_named : (Rows.orderEitherRow.named == Try.prog.varsNamed 7) = true := by kernel_rfl
theorem oe_closed : joinedFacts Try.prog 7 Try.f7 Rows.orderEitherSpec Rows.orderEitherRow = true := by
  unfold joinedFacts
  simp only [Bool.and_eq_true]
  exact ⟨⟨⟨⟨⟨⟨⟨⟨⟨⟨⟨⟨⟨⟨⟨⟨⟨⟨⟨⟨⟨⟨⟨⟨⟨⟨⟨⟨⟨⟨⟨oe_wf, try_laidOut⟩, pf_rowed⟩, by kernel_rfl⟩, by kernel_rfl⟩, by kernel_rfl⟩, pf_stops⟩, by kernel_rfl⟩, pf_knobs⟩, oe_inPlace⟩, oe_unfollowed⟩, oe_recurses⟩, oe_named⟩, by kernel_rfl⟩, by kernel_rfl⟩, by kernel_rfl⟩, by kernel_rfl⟩, by kernel_rfl⟩, by kernel_rfl⟩, by kernel_rfl⟩, by kernel_rfl⟩, by kernel_rfl⟩, pf_keys⟩, by kernel_rfl⟩, pf_heard⟩, pf_enter⟩, pf_lifts⟩, pf_make⟩, by kernel_rfl⟩, by kernel_rfl⟩, by kernel_rfl⟩, by kernel_rfl⟩
theorem oe_inst : Try.f7.isInstance Try.prog Rows.orderEitherRow.origin Rows.orderEitherRow.targs := of_decide_eq_true (by kernel_rfl)
theorem oe_wrap : Try.f7.isWrapper Try.prog Rows.orderEitherRow.wrapper Rows.orderEitherRow.mainSum := by
  unfold Func.isWrapper; rw [if_neg (by decide +kernel)]; exact ⟨rfl, rfl⟩
theorem oe_func : Try.prog.funcNamed Rows.orderEitherRow.func = some 7 := by kernel_rfl
theorem orderEither_holds : Rows.OrderEitherSaid :=
  OpenClaim.holds_of_wide (p := Try.pinned) (s := Rows.orderEitherSpec) (c := Rows.orderEitherRow) 7 Try.f7 rfl rfl rfl rfl rfl rfl rfl ⟨rfl, rfl, rfl, rfl, rfl⟩ rfl rfl rfl rfl rfl oe_func Try.func7
    oe_closed oe_inst oe_wrap
    (fun os started H enc _ => orderEither_lifted os started H enc)
#print axioms orderEither_holds
end Go.Proofs.Yteljjkghjbofnaa
