/- ref.First, ref.Levels. -/
import Derived.Test.YteljjkghjbofnaaYh
import Derived.Test.YteljjkghjbofnaaYg
set_option maxRecDepth 100000
namespace Go.Proofs.Yteljjkghjbofnaa
open Go Go.Proofs Go.RowKit
attribute [local go_sem] Oper.semAt_some

/-- The least patch above a that is ready. -/
def leastR (W : Web) (d : S) (a : Int) (at_ : Int) : Prop :=
  (at_ = -1 ∧ ∀ p : Nat, a < p → p < W.n → readyB W d p = false) ∨ (∃ q : Nat, at_ = (q : Int) ∧ a < q ∧ q < W.n ∧ readyB W d q = true ∧ ∀ p : Nat, a < p → p < q → readyB W d p = false)
theorem leastR_top (W : Web) (d : S) : leastR W d ((W.n : Int) - 1) (-1) := .inl ⟨rfl, fun p h1 h2 => by omega⟩
theorem leastR_yes {W : Web} {d : S} {a : Nat} (h : a < W.n) (hr : readyB W d a = true) : leastR W d ((a : Int) - 1) (a : Int) := .inr ⟨a, rfl, by omega, h, hr, fun p h1 h2 => by omega⟩
theorem leastR_no {W : Web} {d : S} {a : Nat} {at_ : Int} (h : leastR W d (a : Int) at_) (hr : readyB W d a = false) : leastR W d ((a : Int) - 1) at_ := by
  have key : ∀ p : Nat, (a : Int) - 1 < p → ¬ ((a : Int) < p) → p = a := fun p h1 h2 => by omega
  rcases h with ⟨h1, h2⟩ | ⟨q, h1, h2, h3, h4, h5⟩
  · refine .inl ⟨h1, fun p hp hp2 => ?_⟩
    by_cases e : (a : Int) < p
    · exact h2 p e hp2
    · rw [key p hp e]; exact hr
  · refine .inr ⟨q, h1, by omega, h3, h4, fun p hp hp2 => ?_⟩
    by_cases e : (a : Int) < p
    · exact h5 p e hp2
    · rw [key p hp e]; exact hr
theorem leastR_none {W : Web} {d : S} {at_ : Int} (h : leastR W d (-1) at_) (hn : at_ < 0) : readyL W d = [] := by
  rcases h with ⟨h1, h2⟩ | ⟨q, h1, _⟩
  · refine List.eq_nil_iff_forall_not_mem.2 fun p hp => ?_
    obtain ⟨hp1, hp2⟩ := mem_readyL.1 hp
    rw [h2 p (by omega) hp1] at hp2
    cases hp2
  · omega
theorem leastR_some {W : Web} {d : S} {at_ : Int} (h : leastR W d (-1) at_) (hn : ¬ at_ < 0) : ∃ (q : Nat) (t : List Nat), at_ = (q : Int) ∧ readyL W d = q :: t := by
  rcases h with ⟨h1, h2⟩ | ⟨q, h1, h2, h3, h4, h5⟩
  · omega
  · unfold readyL
    have e : List.range W.n = List.range q ++ q :: List.range' (q + 1) (W.n - (q + 1)) := by
      rw [List.range_eq_range', List.range_eq_range', show W.n = q + (W.n - q) by omega, ← List.range'_append_1, show q + (W.n - q) - (q + 1) = W.n - q - 1 by omega]
      congr 1
      rw [show W.n - q = (W.n - q - 1) + 1 by omega, List.range'_succ, Nat.zero_add]
      simp
    refine ⟨q, (List.range' (q + 1) (W.n - (q + 1))).filter (readyB W d), h1, ?_⟩
    rw [e, List.filter_append, List.filter_cons, if_pos h4]
    have : (List.range q).filter (readyB W d) = [] := by
      rw [List.filter_eq_nil_iff]
      intro p hp
      rw [h5 p (by omega) (List.mem_range.1 hp)]; simp
    rw [this]; rfl

theorem OwnI.new' {w X : World} {base : Nat} {v : Value} {l : List Int} (h : OwnI X base v l) (hb : w.heap.size ≤ base) : NewI w X v l := by
  obtain ⟨ao, c, hv, hc, hi⟩ := h.slice
  refine ⟨ao, c, hv, hc, hi, ?_⟩
  rintro a rfl
  have hl := h.lt a.block (by rw [hv]; rfl)
  rcases h.2 with ⟨rfl, h0⟩ | ⟨g, cap, cur, rfl, hbg, hgg, _⟩
  · cases hv
  · simp only [Value.slice.injEq, Option.some.injEq] at hv
    obtain ⟨rfl, -, -⟩ := hv
    exact ⟨Nat.le_trans hb hl.1, hl.2, rfl, fun o => frozen_of_row _ _ _ _ _ hgg⟩

set_option maxHeartbeats 1600000 in
theorem RFirst_any (o : Prob) (ao bo : Option Addr) (ca cb : Nat) (w : World) (ho : IsProb w o ao bo) :
    Calls Try.prog 45 #[probV o ao ca bo cb] w (ListErr (FirstR o).1 (FirstR o).2 w) := by
  have HO := Lib.hid ho
  clear ho
  obtain ⟨xs, hxs⟩ : ∃ xs, (FirstR o).1 = xs := ⟨_, rfl⟩
  obtain ⟨er, her⟩ : ∃ er, (FirstR o).2 = er := ⟨_, rfl⟩
  rw [hxs, her]
  have HXS := Lib.hid hxs
  have HER := Lib.hid her
  clear hxs her
  go_enter Try.func45, Try.ntmps45
  go_wp2_with fail
  obtain ⟨w0, e0, hk0, hb0, -⟩ := alloc_prob w o.N o.arcs o.near ao ca bo cb
  rw [e0]
  clear e0
  have HK0 := Lib.hid hk0
  have HB0 := Lib.hid hb0
  clear hk0
  obtain ⟨q0, q1, q2⟩ := hb0
  have qb := lt_of_cell q0
  go_wp2_with fail
  clear q0 q1 q2 qb
  refine (RCheck_any o ao bo ca cb w0 (HO.out.kept HK0.out)).mono ?_
  rintro e w1 ⟨rfl, hk1⟩
  have HK1 := Lib.hid (HK0.out.trans hk1)
  have HB1 := Lib.hid (HB0.out.kept hk1)
  clear hk1 HB0 HK0
  by_cases hc : chk o = 0
  · have HC := Lib.hid hc
    have hN := webOf_nI hc
    have HNN := Lib.hid hN
    have h24 := webOf_n hc
    rw [hc]
    clear hc hN
    have hsz := HK1.out.size
    have HSZ := Lib.hid hsz
    clear hsz
    obtain ⟨q0, q1, q2⟩ := HB1.out
    have qb := lt_of_cell q0
    generalize hWW : webOf o = W at *
    have HWW := Lib.hid hWW
    have HBX : Hid (w.heap.size < w1.heap.size) := Lib.hid qb
    clear hWW
    go_wp2
    clear q0 q1 q2 qb
    go_loopw [5] (fun v wr => ∃ k : Nat, k ≤ W.n ∧ FirstF W k ∧ OwnI wr w1.heap.size v (firstL W k) ∧ ProbBox wr w.heap.size o ao ca bo cb ∧ Kept w1 wr) (fun v _ => W.n - (match v with | .slice _ k _ => k | _ => 0))
    case atStart => exact ⟨0, Nat.zero_le _, FirstF.zero, OwnI.nil _ _, HB1.out, Kept.refl _⟩
    case round =>
      obtain ⟨k, hk, hff, hown, hb, hkw⟩ := hrel
      obtain ⟨fo, fc, rfl, hfc, hfi⟩ := hown.slice
      have HFF := Lib.hid hff
      have HOWN := Lib.hid hown
      have HFI := Lib.hid hfi
      have HB := Lib.hid hb
      have HKW := Lib.hid hkw
      have HLF : Hid ((firstL W k).length = k) := Lib.hid hff.1
      have hlf : (firstL W k).length = k := hff.1
      rw [hlf] at HOWN ⊢
      clear hff hown hfi hkw hfc hlf
      obtain ⟨q0, q1, q2⟩ := hb
      have qb := lt_of_cell q0
      by_cases hlt : k < W.n
      · have hki : decide ((k : Int) < o.N) = true := decide_eq_true (by have := HNN.out; omega)
        have hNW := HNN.out
        have hw1 : IntKind.i64.wrap (o.N - 1) = o.N - 1 := IntWalk.i64_in _ (by omega)
        have HLT := Lib.hid hlt
        go_wp2
        clear q0 q1 q2 qb hki hlt hk
        go_loopw [6, 7] (fun t i wr => ∃ (a tt : Int), i = .int .i64 a ∧ t = .int .i64 tt ∧ -1 ≤ a ∧ a < (W.n : Int) ∧ leastR W (setS (firstL W k)) a tt ∧ ProbBox wr w.heap.size o ao ca bo cb ∧ Kept w1 wr ∧ OwnI wr w1.heap.size (.slice fo k fc) (firstL W k) ∧ Ints wr fo (firstL W k)) (fun _ i _ => (intOf i + 1).toNat)
        case atStart => exact ⟨o.N - 1, -1, rfl, rfl, by omega, by omega, by rw [← hNW]; exact leastR_top _ _, HB.out, HKW.out, HOWN.out, HFI.out⟩
        case round =>
          clear HB HKW HOWN HFI hw1
          obtain ⟨a, tt, rfl, rfl, ha1, ha2, hleast, hb, hkw, hown, hfi⟩ := hrel
          have HFI := Lib.hid hfi
          clear hfi
          have HB := Lib.hid hb
          have HKW := Lib.hid hkw
          have HOWN := Lib.hid hown
          have HLS := Lib.hid hleast
          clear hkw hown hleast
          obtain ⟨q0, q1, q2⟩ := hb
          have qb := lt_of_cell q0
          by_cases ha0 : 0 ≤ a
          · obtain ⟨a, rfl⟩ := Int.eq_ofNat_of_zero_le ha0
            have hr := readyR_eq HC.out (l := firstL W k) (fun p hp => by have := HFF.out.2.1 p hp; omega) (p := a) (by rw [HWW.out]; omega)
            rw [HWW.out] at hr
            have HRR := Lib.hid hr
            have HA2 : Hid (a < W.n) := Lib.hid (by omega)
            have hw2 : IntKind.i64.wrap ((a : Int) - 1) = (a : Int) - 1 := IntWalk.i64_in _ (by omega)
            clear hr ha1 ha2
            go_wp2_with fail
            clear q0 q1 q2 qb
            have hF := Rready_any o ao bo ca cb (firstL W k) fo fc (a : Int) wr (HO.out.kept (HK1.out.trans HKW.out)) HFI.out (by rw [HLF.out]; have := HLT.out; omega)
            rw [HRR.out, HLF.out] at hF
            refine hF.mono ?_
            clear hF
            rintro e w3 ⟨rfl, hk3⟩
            have HK3 := Lib.hid (HKW.out.trans hk3)
            have HB3 := Lib.hid (HB.out.kept hk3)
            have HO3 := Lib.hid (HOWN.out.kept hk3)
            have HI3 := Lib.hid (HFI.out.kept hk3)
            clear hk3
            cases hrb : readyB W (setS (firstL W k)) a
            · have HL3 := Lib.hid (leastR_no HLS.out hrb)
              clear hrb
              go_wp2
              go_roundw
              case measure => simp [intOf] <;> omega
              case rel => exact ⟨(a : Int) - 1, tt, by go_num, rfl, by omega, by have := HA2.out; omega, HL3.out, HB3.out, HK3.out, HO3.out, HI3.out⟩
            · have HL3 := Lib.hid (leastR_yes HA2.out hrb)
              clear hrb
              go_wp2
              go_roundw
              case measure => simp [intOf] <;> omega
              case rel => exact ⟨(a : Int) - 1, (a : Int), by go_num, rfl, by omega, by have := HA2.out; omega, HL3.out, HB3.out, HK3.out, HO3.out, HI3.out⟩
          · obtain rfl : a = -1 := by omega
            clear ha0 ha1 ha2
            by_cases ht : tt < 0
            · have hn := leastR_none HLS.out ht
              have hst : errS o = 50 := FirstF.stuck HC.out (by rw [HWW.out]; exact HLT.out) (by rw [HWW.out]; exact HFF.out) (by rw [HWW.out]; exact hn)
              have HX : Hid ([] = xs ∧ 50 = er) := Lib.hid (by rw [← HXS.out, ← HER.out]; unfold FirstR; rw [hst]; exact ⟨rfl, rfl⟩)
              clear hn hst
              go_wp2
              go_ret2
              rw [← HX.out.1, ← HX.out.2]
              exact ⟨_, rfl, NewI.nil _ _, HK1.out.trans HKW.out⟩
            · obtain ⟨q, t, rfl, hrl⟩ := leastR_some HLS.out ht
              obtain ⟨hfs, hf1⟩ := HFF.out.succ h24 hrl
              have HFS := Lib.hid hfs
              have HF1 := Lib.hid hf1
              clear hrl hfs hf1
              clear ht
              have HKA := Lib.hid (HKW.out.alloc (Obj.cells #[.int .i64 (q : Int)] 3))
              go_wp2_with (at_builtin; refine append_int _ rfl _ _ rfl w1.heap.size (.slice fo k fc) (firstL W k) rfl (HOWN.out.kept ((Kept.refl _).alloc _)) wr.heap.size 1 (q : Int) rfl (by simp [go_sem]) (by rw [HLF.out]; have := HLT.out; omega) (by have := HKW.out.size; simp; omega) ?_; intro g' c' w4 hown4 hg4; have HO4 := Lib.hid hown4; have HK4 := Lib.hid ((HKW.out.alloc _).grown hg4 (fun r e => (HOWN.out.lt r e).1)); clear hown4 hg4)
              go_roundw
              case measure => simp only [HLF.out]; have := HLT.out; omega
              case rel => exact ⟨k + 1, HLT.out, HF1.out, by rw [HFS.out]; exact HO4.out, HB1.out.kept HK4.out, HK4.out⟩
      · obtain rfl : k = W.n := by omega
        have hok : errS o = 0 := FirstF.done HC.out (by rw [HWW.out]; exact HFF.out)
        have HX : Hid (firstL W W.n = xs ∧ 0 = er) := Lib.hid (by rw [← HXS.out, ← HER.out]; unfold FirstR; rw [if_pos hok, HWW.out]; exact ⟨rfl, rfl⟩)
        have hki : decide ((W.n : Int) < o.N) = false := decide_eq_false (by have := HNN.out; omega)
        clear hok hlt hk
        go_wp2
        go_ret2
        rw [← HX.out.1, ← HX.out.2]
        exact ⟨_, rfl, (HOWN.out.new' HSZ.out), HK1.out.trans HKW.out⟩
  · have HX : Hid ([] = xs ∧ chk o = er) := Lib.hid (by
      rw [← HXS.out, ← HER.out]
      unfold FirstR errS
      rw [if_neg hc, if_neg hc]
      exact ⟨rfl, rfl⟩)
    have hb : (chk o != 0) = true := by simp [hc]
    clear hc
    go_wp2
    go_ret2
    rw [← HX.out.1, ← HX.out.2]
    exact ⟨_, rfl, NewI.nil _ _, HK1.out⟩

def LevelsRR (o : Prob) : List Int × Int := if errS o = 0 then (levQ (webOf o) (firstOf (webOf o)) (firstOf (webOf o)).length, 0) else ([], errS o)
theorem Row.pull {W : Web} {l : List Int} {n : Nat} {B : Int} {p : Nat} {out : List Int} (hB : 0 ≤ B) (h : Row n (B + 1) out) (k : Nat) (hk : out.getD (l.getD k 0).toNat 0 ≤ B) : Row n (B + 1) (pullK W l p out k) := by
  unfold pullK
  split
  · have h1 := h.getD (by omega) p
    have h2 := h.getD (by omega) (l.getD k 0).toNat
    exact h.set p ⟨by omega, by omega⟩
  · exact h

set_option maxHeartbeats 1600000 in
theorem RLevels_any (o : Prob) (ao bo : Option Addr) (ca cb : Nat) (w : World) (ho : IsProb w o ao bo) :
    Calls Try.prog 48 #[probV o ao ca bo cb] w (ListErr (LevelsRR o).1 (LevelsRR o).2 w) := by
  have HO := Lib.hid ho
  clear ho
  by_cases h : errS o = 0
  · have hr : LevelsRR o = (levQ (webOf o) (firstOf (webOf o)) (firstOf (webOf o)).length, 0) := by unfold LevelsRR; rw [if_pos h]
    rw [hr]
    obtain ⟨hc, h2⟩ := errS_ok h
    have hgo := goes_webOf h
    obtain ⟨hl, hin, hnd⟩ := ordered_facts (firstOf_ordered (webOf_n hc) hgo)
    have hn24 := webOf_n hc
    have hf24 : (firstOf (webOf o)).length ≤ 24 := by rw [hl]; exact hn24
    have HF1 : Hid (FirstR o = (firstOf (webOf o), 0)) := Lib.hid (by unfold FirstR; rw [if_pos h])
    have HNN := Lib.hid (webOf_nI hc)
    have HIN := Lib.hid hin
    have HND := Lib.hid hnd
    have HC := Lib.hid hc
    clear hr h h2 hin hgo hnd hl hc
    go_enter Try.func48, Try.ntmps48
    go_wp2_with fail
    obtain ⟨w0, e0, hk0, hb0, -⟩ := alloc_prob w o.N o.arcs o.near ao ca bo cb
    rw [e0]
    clear e0
    have HK0 := Lib.hid hk0
    have HB0 := Lib.hid hb0
    clear hk0
    obtain ⟨q0, q1, q2⟩ := hb0
    have qb := lt_of_cell q0
    go_wp2_with fail
    clear q0 q1 q2 qb
    have hF := RFirst_any o ao bo ca cb w0 (HO.out.kept HK0.out)
    rw [HF1.out] at hF
    refine hF.mono ?_
    clear hF HF1
    rintro e w1 ⟨v, rfl, hnew, hk1⟩
    obtain ⟨fo, fc, rfl, -, hfi, -⟩ := hnew
    have HF1 := Lib.hid hfi
    have HK1 := Lib.hid (HK0.out.trans hk1)
    have HB1 := Lib.hid (HB0.out.kept hk1)
    have HARC : Hid (∀ a b : Nat, arcR o a b = hasS ((webOf o).to a) b) := Lib.hid (arcR_eq HC.out)
    obtain ⟨q0, q1, q2⟩ := HB1.out
    have qb := lt_of_cell q0
    have hNW := HNN.out
    generalize hWW : webOf o = W at *
    clear hfi hk1 hWW HK0 HB0 HC
    generalize firstOf W = F at *
    simp only [] at q0
    rw [← hNW] at q0
    clear hNW
    go_wp2_with (at_make; refine make_ints _ rfl _ _ rfl W.n rfl rfl (by omega) ?_; intro w2 ha2 hk2)
    have HA2 := Lib.hid ha2
    have HK2 := Lib.hid hk2
    have HG : Hid (w.heap.size ≤ w1.heap.size) := Lib.hid HK1.out.size
    have HG1 : Hid (w1.heap.size = w1.heap.size) := Lib.hid rfl
    obtain ⟨gg, hgg⟩ : ∃ gg, w1.heap.size = gg := ⟨_, rfl⟩
    rw [hgg] at HA2 HG ⊢
    have HGG := Lib.hid hgg
    clear ha2 hk2 q0 q1 q2 qb hgg HG1
    go_loopw [7] (fun i wr => ∃ k : Nat, k ≤ F.length ∧ i = .int .i64 k ∧ Kept w1 wr ∧ Arr wr gg (levQ W F k) ∧ Row W.n (k : Int) (levQ W F k)) (fun i _ => F.length - (intOf i).toNat)
    case atStart => exact ⟨0, Nat.zero_le _, rfl, HK2.out, HA2.out, by simp [levQ], fun x hx => by have := List.eq_of_mem_replicate hx; omega⟩
    case round =>
      clear HA2 HK2
      obtain ⟨i, hi, rfl, hkw, harr, hrow⟩ := hrel
      have HKW := Lib.hid hkw
      have HA := Lib.hid harr
      have HR := Lib.hid hrow
      clear hkw harr hrow
      by_cases hlt : i < F.length
      · obtain ⟨p, hp1, hpn, hp2⟩ := getD_nat HIN.out hlt
        have HP1 := Lib.hid hp1
        have HP2 := Lib.hid hp2
        have HPN := Lib.hid hpn
        have HLT := Lib.hid hlt
        have HST : Hid (levQ W F (i + 1) = pullP W F p (levQ W F i) i) := Lib.hid (by rw [levQ_succ, hp1, Int.toNat_natCast])
        have HNE : Hid (∀ j, j < i → (F.getD j 0).toNat ≠ p) := Lib.hid fun j hj e => by
          obtain ⟨q, hq, hqn, hq'⟩ := getD_nat HIN.out (show j < F.length by omega)
          rw [hq, Int.toNat_natCast] at e
          have : F[j] = F[i] := by rw [hq', e]; exact hp2.symm
          have := (List.getElem_inj HND.out).1 this
          omega
        have h0 := (levQ_facts HIN.out HND.out i (Nat.le_of_lt hlt)).2 i (Nat.le_refl _) hlt
        rw [hp1, Int.toNat_natCast] at h0
        have HSAME : Hid (∀ j, j ≤ i → ∀ x, x ≠ p → (pullP W F p (levQ W F i) j).getD x 0 = (levQ W F i).getD x 0) := Lib.hid fun j hj x hx =>
          (pull_get (by rw [levQ_length]; exact hpn) j (fun m hm => HNE.out m (by omega)) h0).2 x hx
        have HLEN : Hid (∀ q, (pullP W F p (levQ W F i) q).length = W.n) := Lib.hid fun q => by rw [pullP_length, levQ_length]
        have HBD : Hid (∀ x, (levQ W F i).getD x 0 ≤ i) := Lib.hid fun x => (HR.out.getD (by omega) x).2
        generalize levQ W F i = out at *
        clear hp1 hp2 h0 hpn
        go_wp2
        go_loopw [8] (fun j wr => ∃ k : Nat, k ≤ i ∧ j = .int .i64 k ∧ Kept w1 wr ∧ Arr wr gg (pullP W F p out k) ∧ Row W.n ((i : Int) + 1) (pullP W F p out k)) (fun j _ => i - (intOf j).toNat)
        case atStart => exact ⟨0, Nat.zero_le _, rfl, HKW.out, HA.out, HR.out.mono (by omega)⟩
        case round =>
          clear HKW HA HR
          obtain ⟨k, hk, rfl, hkw, harr, hrow⟩ := hrel
          have HKW := Lib.hid hkw
          have HA := Lib.hid harr
          have HR := Lib.hid hrow
          clear hkw harr hrow
          by_cases hklt : k < i
          · obtain ⟨q, hq1, hqn, hq2⟩ := getD_nat HIN.out (show k < F.length by omega)
            obtain ⟨B, off, rfl, hck⟩ := (HF1.out.kept HKW.out) k (by omega)
            obtain ⟨B', off', e', hci⟩ := (HF1.out.kept HKW.out) i hlt
            simp only [Option.some.injEq, Addr.mk.injEq] at e'
            obtain ⟨rfl, rfl, -⟩ := e'
            rw [hq2] at hck
            rw [HP2.out] at hci
            have hne := HNE.out k hklt
            rw [hq1, Int.toNat_natCast] at hne
            have hs := HSAME.out k (by omega) q hne
            have hl := HLEN.out k
            have HNX : Hid (pullP W F p out (k + 1) = pullK W F p (pullP W F p out k) k) := Lib.hid (pullP_succ p out k)
            have HBQ : Hid ((pullP W F p out k).getD q 0 ≤ i) := Lib.hid (by rw [hs]; exact HBD.out q)
            have hcp := HA.out.get p (by rw [hl]; exact HPN.out)
            have hcq := HA.out.get q (by rw [hl]; exact hqn)
            have hfr := HA.out.free p
            have hdp : (pullP W F p out k).getD p 0 = (pullP W F p out k)[p]'(by rw [hl]; exact HPN.out) := by rw [List.getD_eq_getElem?_getD, List.getElem?_eq_getElem]; rfl
            have hdq : (pullP W F p out k).getD q 0 = (pullP W F p out k)[q]'(by rw [hl]; exact hqn) := by rw [List.getD_eq_getElem?_getD, List.getElem?_eq_getElem]; rfl
            generalize (pullP W F p out k)[p]'(by rw [hl]; exact HPN.out) = dp at *
            generalize (pullP W F p out k)[q]'(by rw [hl]; exact hqn) = dq at *
            generalize pullP W F p out k = cur at *
            have HDP := Lib.hid hdp
            have HDQ := Lib.hid hdq
            have HQ1 := Lib.hid hq1
            have hr1 := HR.out.getD (by omega) q
            rw [hdq] at hr1
            have hpn := HPN.out
            have hpi : (p : Int) < W.n := by omega
            have hqi : (q : Int) < W.n := by omega
            have hkl : k < F.length := by omega
            obtain ⟨q0, q1, q2⟩ := HB1.out.kept HKW.out
            have qb := lt_of_cell q0
            clear hdp hdq hs hl hne hq1 hq2
            go_wp2
            refine region_tail 9 (by kernel_rfl) (by kernel_rfl) ?_
            simp only [List.take_succ_cons, List.take_zero, List.drop_succ_cons, List.drop_zero]
            iterate 9
              with_reducible refine wpStill_want ?_ (fun K hK => ?_)
              · rfl
              go_simp
              refine hK _ ?_
              clear hK K
            with_reducible refine wpStill_nil ?_
            go_wp2_with fail
            have hF := Rarc_any o ao bo ca cb (q : Int) (p : Int) wr.drew (HO.out.kept ((HK1.out.trans HKW.out).drew))
            rw [HARC.out] at hF
            refine hF.mono ?_
            clear hF
            rintro e w4 ⟨rfl, hk4⟩
            have HK4 := Lib.hid (HKW.out.drew.trans hk4)
            have HA4 := Lib.hid ((HA.out.kept (Kept.refl _).drew).kept hk4)
            have hck := ((Kept.refl wr).drew.trans hk4).cell hck
            have hci := ((Kept.refl wr).drew.trans hk4).cell hci
            have hcp := ((Kept.refl wr).drew.trans hk4).cell hcp
            have hcq := ((Kept.refl wr).drew.trans hk4).cell hcq
            have hfr := HA4.out.free p
            clear hk4 q0 q1 q2 qb HA
            cases hh : hasS (W.to q) p
            all_goals
              have HH := Lib.hid hh
              clear hh
            · have hN : pullK W F p cur k = cur := by unfold pullK; rw [HQ1.out, Int.toNat_natCast, if_neg (by rw [HH.out]; simp)]
              rw [hN] at HNX
              clear hN
              go_wp2
              go_roundw
              case measure => simp [intOf] <;> omega
              case rel => exact ⟨k + 1, by omega, by go_num, HK4.out, by rw [HNX.out]; exact HA4.out, by rw [HNX.out]; exact HR.out⟩
            · have hN : pullK W F p cur k = cur.set p (max dp (dq + 1)) := by unfold pullK; rw [HQ1.out, Int.toNat_natCast, if_pos HH.out, HDP.out, HDQ.out]
              have HN := Lib.hid hN
              have hw1 : IntKind.i64.wrap (dq + 1) = dq + 1 := IntWalk.i64_in _ (by omega)
              clear hN hr1
              go_wp2
              refine region_tail 22 (by kernel_rfl) (by kernel_rfl) ?_
              simp only [List.take_succ_cons, List.take_zero, List.drop_succ_cons, List.drop_zero]
              iterate 22
                with_reducible refine wpStill_want ?_ (fun K hK => ?_)
                · rfl
                go_simp
                refine hK _ ?_
                clear hK K
              with_reducible refine wpStill_nil ?_
              go_wp2
              go_roundw
              case measure => simp [intOf] <;> omega
              case rel =>
                have em : (if dp < dq + 1 then dq + 1 else dp) = max dp (dq + 1) := by split <;> omega
                refine ⟨k + 1, by omega, by go_num, (HK4.out.setCell (p := ⟨gg, p, none⟩) (by rw [HGG.out]; exact Nat.le_refl _) _).drew, ?_, ?_⟩
                · rw [HNX.out, HN.out, em]; exact (HA4.out.set _).kept (Kept.refl _).drew
                · rw [HNX.out]; exact Row.pull (by omega) HR.out k (by rw [HQ1.out, Int.toNat_natCast]; exact HBQ.out)
          · have hqn : k = i := by omega
            rw [hqn] at HA HR
            clear hqn
            go_wp2
            go_roundw
            case measure => simp [intOf] <;> omega
            case rel => exact ⟨i + 1, by omega, by go_num, HKW.out, by rw [HST.out]; exact HA.out, by rw [HST.out]; exact HR.out⟩
      · have hk2 : i = F.length := by omega
        rw [hk2] at HA
        have hnew := HA.out.new (w := w) HG.out
        rw [levQ_length] at hnew
        have HN := Lib.hid hnew
        clear hnew hk2
        go_wp2
        go_ret2
        exact ⟨_, rfl, HN.out, HK1.out.trans HKW.out⟩
  · have hr : LevelsRR o = ([], errS o) := by unfold LevelsRR; rw [if_neg h]
    rw [hr]
    have hf : FirstR o = ([], errS o) := by unfold FirstR; rw [if_neg h]
    have HF1 := Lib.hid hf
    have hb : (errS o != 0) = true := by simp [h]
    clear hr h hf
    go_enter Try.func48, Try.ntmps48
    go_wp2_with fail
    obtain ⟨w0, e0, hk0, hb0, -⟩ := alloc_prob w o.N o.arcs o.near ao ca bo cb
    rw [e0]
    clear e0
    have HK0 := Lib.hid hk0
    clear hk0
    obtain ⟨q0, q1, q2⟩ := hb0
    have qb := lt_of_cell q0
    go_wp2_with fail
    clear q0 q1 q2 qb
    have hF := RFirst_any o ao bo ca cb w0 (HO.out.kept HK0.out)
    rw [HF1.out] at hF
    refine hF.mono ?_
    clear hF HF1
    rintro e w1 ⟨v, rfl, -, hk1⟩
    have HK1 := Lib.hid (HK0.out.trans hk1)
    clear hk1
    go_wp2
    go_ret2
    exact ⟨_, rfl, NewI.nil _ _, HK1.out⟩
end Go.Proofs.Yteljjkghjbofnaa
