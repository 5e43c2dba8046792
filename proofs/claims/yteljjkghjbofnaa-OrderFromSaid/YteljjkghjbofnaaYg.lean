/- order.Levels. -/
import Derived.Test.YteljjkghjbofnaaYa
set_option maxRecDepth 100000
namespace Go.Proofs.Yteljjkghjbofnaa
open Go Go.Proofs Go.RowKit
attribute [local go_sem] Oper.semAt_some

def LevelsR (o : Prob) : List Int × Int := if errS o = 0 then (levP (webOf o) (firstOf (webOf o)) (firstOf (webOf o)).length, 0) else ([], errS o)

theorem Ints.setNe {w : World} {ao : Option Addr} {l : List Int} {b o : Nat} {u : Value} (h : Ints w ao l) (hne : ∀ a, ao = some a → a.block ≠ b) : Ints (w.setCell ⟨b, o, none⟩ u) ao l := fun i hi => by
  obtain ⟨B, off, e, hc⟩ := h i hi
  exact ⟨B, off, e, cell_set_block hc (hne _ e)⟩
theorem Row.push {W : Web} {n : Nat} {B : Int} {p : Nat} {out : List Int} (hB : 0 ≤ B) (h : Row n (B + 1) out) (hp : out.getD p 0 ≤ B) (q : Nat) : Row n (B + 1) (pushK W p out q) := by
  unfold pushK
  split
  · have h1 := h.getD (by omega) q
    have h2 := h.getD (by omega) p
    exact h.set q ⟨by omega, by omega⟩
  · exact h

set_option maxHeartbeats 1600000 in
theorem Levels_any (o : Prob) (ao bo : Option Addr) (ca cb : Nat) (w : World) (ho : IsProb w o ao bo) :
    Calls Try.prog 47 #[probV o ao ca bo cb] w (ListErr (LevelsR o).1 (LevelsR o).2 w) := by
  have HO := Lib.hid ho
  clear ho
  by_cases h : errS o = 0
  · have hr : LevelsR o = (levP (webOf o) (firstOf (webOf o)) (firstOf (webOf o)).length, 0) := by unfold LevelsR; rw [if_pos h]
    rw [hr]
    obtain ⟨h1, h2⟩ := errS_ok h
    have hgo := goes_webOf h
    obtain ⟨-, hin, -⟩ := ordered_facts (firstOf_ordered (webOf_n h1) hgo)
    have hn24 := webOf_n h1
    have hf24 : (firstOf (webOf o)).length ≤ 24 := by rw [(ordered_facts (firstOf_ordered (webOf_n h1) hgo)).1]; exact hn24
    have HIRR : Hid (∀ p, hasS ((webOf o).to p) p = false) := Lib.hid (fun p => webOf_irr h1 p)
    have HIN := Lib.hid hin
    have HGO := Lib.hid hgo
    have H1 := Lib.hid h1
    have H2 := Lib.hid h2
    clear hr h h1 h2 hin hgo
    go_enter Try.func47, Try.ntmps47
    go_wp2_with fail
    obtain ⟨w0, e0, hk0, hb0, -⟩ := alloc_prob w o.N o.arcs o.near ao ca bo cb
    rw [e0]
    clear e0
    have HK0 := Lib.hid hk0
    clear hk0 hb0
    refine (straight_ok o ao bo ca cb w0 (HO.out.kept HK0.out) H1.out H2.out).mono ?_
    rintro e w1 ⟨b, rfl, hw1, hk1⟩
    generalize hWW : webOf o = W at *
    have HW1 := Lib.hid hw1
    have HK1 := Lib.hid (HK0.out.trans hk1)
    have hn0 := hw1.n
    clear hw1 hk1 hWW HK0
    go_wp2_with (at_make; refine make_ints _ rfl _ _ rfl W.n rfl rfl (by omega) ?_; intro w2 ha2 hk2)
    have HA2 := Lib.hid ha2
    have HW2 := Lib.hid (HW1.out.kept hk2)
    have HG : Hid (w.heap.size ≤ w1.heap.size) := Lib.hid HK1.out.size
    have HK2 := Lib.hid (HK1.out.trans hk2)
    have hbg : b < w1.heap.size := lt_of_cell HW1.out.n
    generalize w1.heap.size = g at *
    have HBG : Hid (b ≠ g) := Lib.hid (by omega)
    clear hbg
    clear ha2 hk2 hn0 HK1 HW1 w1
    go_wp2_with fail
    refine (first_any b W w2 HW2.out hn24 HGO.out).mono ?_
    rintro e w3 ⟨v, rfl, hown, hk3⟩
    obtain ⟨fo, fc, rfl, -, hfi⟩ := hown.slice
    have HF3 := Lib.hid hfi
    have HFO : Hid (∀ a, fo = some a → a.block ≠ g) := Lib.hid fun a e => by
      have h1 := (hown.lt a.block (by rw [e]; rfl)).1
      have h2 := HA2.out.lt
      omega
    have HA3 := Lib.hid (HA2.out.kept hk3)
    have HW3 := Lib.hid (HW2.out.kept hk3)
    have HK3 := Lib.hid (HK2.out.trans hk3)
    have hn0 := HW3.out.n
    clear hfi hown hk3 HA2 HW2 HK2
    go_wp2
    generalize firstOf W = F at *
    clear hn0
    go_loopw [26] (fun i wr => ∃ k : Nat, k ≤ F.length ∧ i = .int .i64 k ∧ Kept w wr ∧ Ints wr fo F ∧ WebAt wr b W ∧ Arr wr g (levP W F k) ∧ Row W.n (k : Int) (levP W F k)) (fun i _ => F.length - (intOf i).toNat)
    case atStart => exact ⟨0, Nat.zero_le _, rfl, HK3.out, HF3.out, HW3.out, HA3.out, by simp [levP], fun x hx => by have := List.eq_of_mem_replicate hx; omega⟩
    case round =>
      clear HF3 HA3 HW3 HK3
      obtain ⟨k, hk, rfl, hkw, hfi, hweb, harr, hrow⟩ := hrel
      have HKW := Lib.hid hkw
      have HF := Lib.hid hfi
      have HW := Lib.hid hweb
      have HA := Lib.hid harr
      have HR := Lib.hid hrow
      have hn0 := hweb.n
      clear hkw hfi harr hrow hweb
      by_cases hlt : k < F.length
      · obtain ⟨p, hp1, hpn, hp2⟩ := getD_nat HIN.out hlt
        obtain ⟨B, off, rfl, hc⟩ := HF.out k hlt
        rw [hp2] at hc
        have hto := HW.out.to p (by omega)
        have HPN := Lib.hid hpn
        have HDP : Hid (0 ≤ (levP W F k).getD p 0 ∧ (levP W F k).getD p 0 ≤ k) := Lib.hid (HR.out.getD (by omega) p)
        have HST : Hid (levP W F (k + 1) = pushP W p (levP W F k) W.n) := Lib.hid (by rw [levP_succ, hp1, Int.toNat_natCast])
        have HSAME : Hid (∀ q, q ≤ W.n → (pushP W p (levP W F k) q).getD p 0 = (levP W F k).getD p 0) := Lib.hid fun q hq => by
          rw [push_get (HIRR.out p) q (by rw [levP_length]; exact hq) p, if_neg (by rw [HIRR.out p]; simp)]
        have HLEN : Hid (∀ q, (pushP W p (levP W F k) q).length = W.n) := Lib.hid fun q => by rw [pushP_length, levP_length]
        have hpi : (p : Int) < 24 := by omega
        generalize (levP W F k).getD p 0 = dp at *
        generalize levP W F k = out at *
        clear hp1 hp2
        go_wp2
        clear hn0 hto hc
        go_loopw [34] (fun i wr => ∃ q : Nat, q ≤ W.n ∧ i = .int .i64 q ∧ Kept w wr ∧ Ints wr (some ⟨B, off, none⟩) F ∧ WebAt wr b W ∧ Arr wr g (pushP W p out q) ∧ Row W.n ((k : Int) + 1) (pushP W p out q)) (fun i _ => W.n - (intOf i).toNat)
        case atStart => exact ⟨0, Nat.zero_le _, rfl, HKW.out, HF.out, HW.out, HA.out, HR.out.mono (by omega)⟩
        case round =>
          clear HKW HF HW HA HR
          obtain ⟨q, hq, rfl, hkw, hfi, hweb, harr, hrow⟩ := hrel
          have HKW := Lib.hid hkw
          have HF := Lib.hid hfi
          have HW := Lib.hid hweb
          have HA := Lib.hid harr
          have HR := Lib.hid hrow
          have hn0 := hweb.n
          have hto := hweb.to p (by have := HPN.out; omega)
          clear hkw hfi harr hrow hweb
          by_cases hqlt : q < W.n
          · have hs := HSAME.out q hq
            have hl := HLEN.out q
            have HNX : Hid (pushP W p out (q + 1) = pushK W p (pushP W p out q) q) := Lib.hid (pushP_succ p out q)
            have hcp := HA.out.get p (by rw [hl]; exact HPN.out)
            have hcq := HA.out.get q (by rw [hl]; exact hqlt)
            have hfr := HA.out.free q
            have hbq := HR.out.getD (by omega) q
            have hdp : (pushP W p out q)[p]'(by rw [hl]; exact HPN.out) = dp := by rw [← hs, List.getD_eq_getElem?_getD, List.getElem?_eq_getElem]; rfl
            have hdq : (pushP W p out q).getD q 0 = (pushP W p out q)[q]'(by rw [hl]; exact hqlt) := by rw [List.getD_eq_getElem?_getD, List.getElem?_eq_getElem]; rfl
            rw [hdp] at hcp
            rw [hdq] at hbq
            generalize (pushP W p out q)[q]'(by rw [hl]; exact hqlt) = dq at *
            generalize pushP W p out q = cur at *
            have HDQ := Lib.hid hdq
            have HS := Lib.hid hs
            have HQ := Lib.hid hqlt
            clear hdp hdq hl hs
            go_wp2_with fail
            refine (has_any (W.to p) q _ (by omega)).mono ?_
            rintro e w4 ⟨rfl, rfl⟩
            cases hh : hasS (W.to p) q
            all_goals
              have HH := Lib.hid hh
              clear hh
            · have hN : pushK W p cur q = cur := by unfold pushK; rw [if_neg (by rw [HH.out]; simp)]
              rw [hN] at HNX
              clear hN
              go_wp2
              go_roundw
              case measure => simp [intOf]; omega
              case rel => exact ⟨q + 1, by omega, by go_num, HKW.out, HF.out, HW.out, by rw [HNX.out]; exact HA.out, by rw [HNX.out]; exact HR.out⟩
            · have hN : pushK W p cur q = cur.set q (max dq (dp + 1)) := by unfold pushK; rw [if_pos HH.out, HDQ.out, HS.out]
              have HN := Lib.hid hN
              have hd1 := HDP.out.1
              have hd2 := HDP.out.2
              have hw1 : IntKind.i64.wrap (dp + 1) = dp + 1 := IntWalk.i64_in _ (by omega)
              have hqi : (q : Int) < W.n := by omega
              have hpi2 : (p : Int) < W.n := by have := HPN.out; omega
              have HB : Hid (cur.getD p 0 ≤ k) := Lib.hid (by rw [HS.out]; exact hd2)
              clear hN hbq hd1 hd2 hn0
              go_wp2
              refine region_tail 13 (by kernel_rfl) (by kernel_rfl) ?_
              simp only [List.take_succ_cons, List.take_zero, List.drop_succ_cons, List.drop_zero]
              iterate 13
                with_reducible refine wpStill_want ?_ (fun K hK => ?_)
                · rfl
                go_simp
                refine hK _ ?_
                clear hK K
              with_reducible refine wpStill_nil ?_
              go_wp2
              go_roundw
              case measure => simp [intOf]; omega
              case rel =>
                have em : (if dq < dp + 1 then dp + 1 else dq) = max dq (dp + 1) := by split <;> omega
                refine ⟨q + 1, by omega, by go_num, (HKW.out.setCell (p := ⟨g, q, none⟩) HG.out _).drew, ?_, ?_, ?_, ?_⟩
                · exact (HF.out.setNe HFO.out).kept (Kept.refl _).drew
                · exact (HW.out.setOther HBG.out).kept (Kept.refl _).drew
                · rw [HNX.out, HN.out, em]; exact (HA.out.set _).kept (Kept.refl _).drew
                · rw [HNX.out]; exact Row.push (by omega) HR.out HB.out q
          · have hqn : q = W.n := by omega
            rw [hqn] at HA HR
            clear hqn
            go_wp2
            go_roundw
            case measure => simp [intOf]; omega
            case rel => exact ⟨k + 1, by omega, by go_num, HKW.out, HF.out, HW.out, by rw [HST.out]; exact HA.out, by rw [HST.out]; exact HR.out⟩
      · have hk2 : k = F.length := by omega
        rw [hk2] at HA
        have hnew := HA.out.new (w := w) HG.out
        rw [levP_length] at hnew
        have HN := Lib.hid hnew
        clear hnew hk2
        go_wp2
        go_ret2
        exact ⟨_, rfl, HN.out, HKW.out⟩
  · have hr : LevelsR o = ([], errS o) := by unfold LevelsR; rw [if_neg h]
    rw [hr]
    have H := Lib.hid h
    have hb : (errS o != 0) = true := by simp [h]
    clear hr h
    go_enter Try.func47, Try.ntmps47
    go_wp2_with fail
    obtain ⟨w0, e0, hk0, hb0, -⟩ := alloc_prob w o.N o.arcs o.near ao ca bo cb
    rw [e0]
    clear e0
    have HK0 := Lib.hid hk0
    clear hk0 hb0
    refine (straight_bad o ao bo ca cb w0 (HO.out.kept HK0.out) H.out).mono ?_
    rintro e w1 ⟨rfl, hk1⟩
    have HK1 := Lib.hid (HK0.out.trans hk1)
    clear hk1
    go_wp2
    go_ret2
    exact ⟨_, rfl, NewI.nil _ _, HK1.out⟩
end Go.Proofs.Yteljjkghjbofnaa
