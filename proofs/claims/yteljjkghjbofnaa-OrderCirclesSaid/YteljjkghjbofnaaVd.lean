/- ref.Circle. -/
import Derived.Test.YteljjkghjbofnaaVc
import Derived.Test.YteljjkghjbofnaaXh
set_option maxRecDepth 100000
namespace Go.Proofs.Yteljjkghjbofnaa
open Go Go.Proofs Go.RowKit
attribute [local go_sem] Oper.semAt_some

theorem web_irr {o : Prob} (hc : chk o = 0) : ∀ p, p < (webOf o).n → hasS ((webOf o).to p) p = false := fun p _ => by
  cases h : hasS ((webOf o).to p) p
  · rfl
  · have := (webOf_to hc p p).1 h
    have := ((pair_of_chk hc).2.2.1 _ this)
    simp at this

def RCircP (c : List Int) (w : World) (e : Ending) (w' : World) : Prop := ∃ so sc, e = .returned (.tuple #[.slice so c.length sc, .bool (!c.isEmpty)]) ∧ Ints w' so c ∧ Kept w w'

set_option maxHeartbeats 2000000 in
theorem RCircle_any (o : Prob) (ao bo : Option Addr) (ca cb : Nat) (w : World) (ho : IsProb w o ao bo) :
    Calls Try.prog 35 #[probV o ao ca bo cb] w (RCircP (circleL o) w) := by
  have HO := Lib.hid ho
  clear ho
  obtain ⟨C, hC⟩ : ∃ C, circleL o = C := ⟨_, rfl⟩
  rw [hC]
  have HCL := Lib.hid hC
  clear hC
  go_enter Try.func35, Try.ntmps35
  go_wp2_with fail
  obtain ⟨w0, e0, hk0, hb0, -⟩ := alloc_prob w o.N o.arcs o.near ao ca bo cb
  rw [e0]
  clear e0
  have HK0 := Lib.hid hk0
  have HB0 := Lib.hid hb0
  clear hk0
  obtain ⟨q0, q1, q2⟩ := hb0
  have qb := lt_of_cell q0
  go_wp2_with fail
  clear q0 q1 q2 qb
  refine (RCheck_any o ao bo ca cb w0 (HO.out.kept HK0.out)).mono ?_
  rintro e w1 ⟨rfl, hk⟩
  have HK1 := Lib.hid (HK0.out.trans hk)
  have HB1 := Lib.hid (HB0.out.kept hk)
  clear hk HK0 HB0
  by_cases hc : chk o = 0
  · have HC := Lib.hid hc
    have HN := Lib.hid (webOf_nI hc)
    have HN24 := Lib.hid (webOf_n hc)
    have HIRR := Lib.hid (web_irr hc)
    have HCP : Hid (circlePart (webOf o) (webOf o).n = C) := Lib.hid (by rw [← HCL.out]; unfold circleL; rw [if_pos hc])
    rw [hc]
    clear hc
    obtain ⟨q0, q1, q2⟩ := HB1.out
    have qb := lt_of_cell q0
    go_wp2
    clear q0 q1 q2 qb
    go_loopw [4, 5] (fun lv av wr => ∃ (a : Nat) (len : Int), a ≤ (webOf o).n ∧ av = .int .i64 a ∧ lv = .int .i64 len ∧ LenI (webOf o) a len ∧ Kept w1 wr) (fun _ i _ => (webOf o).n - (intOf i).toNat)
    case atStart => exact ⟨0, 0, Nat.zero_le _, rfl, rfl, LenI.zero _, Kept.refl _⟩
    case round =>
      obtain ⟨a, len, ha, rfl, rfl, hlen, hkw⟩ := hrel
      have HLEN := Lib.hid hlen
      have HKW := Lib.hid hkw
      clear hlen hkw
      obtain ⟨q0, q1, q2⟩ := HB1.out.kept HKW.out
      have qb := lt_of_cell q0
      by_cases han : a < (webOf o).n
      · have hai : decide ((a : Int) < o.N) = true := decide_eq_true (by have := HN.out; omega)
        have HAN := Lib.hid han
        have ha24 : a < 24 := by have := HN24.out; omega
        clear han ha
        go_wp2_with fail
        clear q0 q1 q2 qb hai
        refine (Rshort_any o ao bo ca cb a wr (HO.out.kept (HK1.out.trans HKW.out)) HC.out HAN.out).mono ?_
        rintro e w2 ⟨v, rfl, hsh, hk2⟩
        have HSH := Lib.hid hsh
        have HK2 := Lib.hid (HKW.out.trans hk2)
        clear hsh hk2
        by_cases hv : 0 < v
        · have e1 : decide (v > 0) = true := decide_eq_true hv
          by_cases hl0 : len = 0
          · have HY := Lib.hid (HLEN.out.yes HSH.out HAN.out ⟨hv, .inl hl0⟩)
            have e2 : (len == 0) = true := by simp [hl0]
            clear hv hl0
            go_wp2
            go_roundw
            case measure => have := HAN.out; simp [intOf] <;> omega
            case rel => exact ⟨a + 1, _, HAN.out, by go_num, rfl, HY.out, HK2.out⟩
          · have e2 : (len == 0) = false := by simp [hl0]
            by_cases hlt : v < len
            · have HY := Lib.hid (HLEN.out.yes HSH.out HAN.out ⟨hv, .inr hlt⟩)
              have e3 : decide (v < len) = true := decide_eq_true hlt
              clear hv hl0 hlt
              go_wp2
              go_roundw
              case measure => have := HAN.out; simp [intOf] <;> omega
              case rel => exact ⟨a + 1, _, HAN.out, by go_num, rfl, HY.out, HK2.out⟩
            · have HY := Lib.hid (HLEN.out.no HSH.out (fun h => h.2.elim hl0 hlt))
              have e3 : decide (v < len) = false := decide_eq_false hlt
              clear hv hl0 hlt
              go_wp2
              go_roundw
              case measure => have := HAN.out; simp [intOf] <;> omega
              case rel => exact ⟨a + 1, _, HAN.out, by go_num, rfl, HY.out, HK2.out⟩
        · have HY := Lib.hid (HLEN.out.no HSH.out (fun h => hv h.1))
          have e1 : decide (v > 0) = false := decide_eq_false hv
          clear hv
          go_wp2
          go_roundw
          case measure => have := HAN.out; simp [intOf] <;> omega
          case rel => exact ⟨a + 1, _, HAN.out, by go_num, rfl, HY.out, HK2.out⟩
      · obtain rfl : a = (webOf o).n := by omega
        have hai : decide (((webOf o).n : Int) < o.N) = false := decide_eq_false (by have := HN.out; omega)
        have hfin := HLEN.out.final HN24.out HIRR.out
        rw [HCP.out] at hfin
        have HEXT : Hid (C ≠ [] → C.length ≤ 24 ∧ ∃ a, a < (webOf o).n ∧ extF (webOf o) (C.length - 1) [(a : Int)] = C ∧ ∀ b, b < a → extF (webOf o) (C.length - 1) [(b : Int)] = []) := Lib.hid fun h => by
          rw [← HCP.out] at h ⊢
          exact ⟨Nat.le_trans (circle_walk HN24.out HIRR.out h).1 HN24.out, circle_ext HN24.out HIRR.out h⟩
        subst hfin
        clear han ha
        go_wp2
        clear q0 q1 q2 qb hai
        go_loopw [7] (fun i wr' => ∃ a : Nat, a ≤ (webOf o).n ∧ i = .int .i64 a ∧ (∀ b, b < a → C ≠ [] ∧ extF (webOf o) (C.length - 1) [(b : Int)] = []) ∧ Kept wr wr') (fun i _ => (webOf o).n - (intOf i).toNat)
        case atStart => exact ⟨0, Nat.zero_le _, rfl, fun b h => by omega, Kept.refl _⟩
        case round =>
          obtain ⟨a, ha, rfl, hno, hkw⟩ := hrel
          have HNO := Lib.hid hno
          have HKI := Lib.hid hkw
          clear hno hkw
          obtain ⟨q0, q1, q2⟩ := HB1.out.kept (HKW.out.trans HKI.out)
          have qb := lt_of_cell q0
          by_cases han : a < (webOf o).n
          · have hai : decide ((a : Int) < o.N) = true := decide_eq_true (by have := HN.out; omega)
            have HAN := Lib.hid han
            have ha24 : a < 24 := by have := HN24.out; omega
            clear han ha
            by_cases hcc : C = []
            · have e1 : decide (0 < C.length) = false := decide_eq_false (by rw [hcc]; simp)
              have HE := Lib.hid hcc
              clear hcc
              go_wp2
              go_ret2
              rw [HE.out]
              exact ⟨none, 0, rfl, Ints.nil _ _, HK1.out.trans (HKW.out.trans HKI.out)⟩
            · have hpos : 0 < C.length := List.length_pos_iff.2 hcc
              have e1 : decide (0 < C.length) = true := decide_eq_true hpos
              have HNE := Lib.hid hcc
              have HPOS := Lib.hid hpos
              obtain ⟨h24, hex⟩ := HEXT.out hcc
              have H24 := Lib.hid h24
              have HEX := Lib.hid hex
              clear hcc hpos h24 hex
              obtain ⟨L, hL⟩ : ∃ L, C.length = L := ⟨_, rfl⟩
              have HL := Lib.hid hL
              rw [hL] at e1 ⊢
              clear hL
              go_wp2_with fail
              clear q0 q1 q2 qb hai e1
              have hown := OwnI.build wr wr.heap.size (a : Int) (Nat.le_refl _)
              have hka : Kept wr (wr.alloc (.cells #[.int .i64 (a : Int)] 3)) := (Kept.refl _).alloc _
              have hI : Ints (wr.alloc (.cells #[.int .i64 (a : Int)] 3)) (some ⟨wr.heap.size, 0, none⟩) [(a : Int)] := by
                obtain ⟨ao', c', e, -, hi'⟩ := hown.slice
                simp only [Value.slice.injEq] at e
                rw [e.1]
                exact hi'
              generalize wr.alloc (.cells #[.int .i64 (a : Int)] 3) = wy at *
              have HKY := Lib.hid (HKI.out.trans hka)
              have hF := Rext_any o ao bo ca cb HC.out L (by have := H24.out; have := HL.out; omega) (L - 1) [(a : Int)] (some ⟨wr.heap.size, 0, none⟩) 1 wy (HO.out.kept (HK1.out.trans (HKW.out.trans HKY.out))) hI (by simp) (fun p hp => by
                simp at hp; subst hp; have := HAN.out; omega) (by have := HPOS.out; have := HL.out; show 1 + (L - 1) = L; omega)
              clear hown hka hI
              refine hF.mono ?_
              clear hF
              rintro e w5 ⟨so, sc, rfl, hi5, hn5, hs5, hk5⟩
              have HK5 := Lib.hid (HKY.out.trans hk5)
              have HI5 := Lib.hid hi5
              clear hi5 hk5
              by_cases hee : extF (webOf o) (L - 1) [(a : Int)] = []
              · obtain ⟨rfl, rfl⟩ := hn5 hee
                have HEE := Lib.hid hee
                rw [hee]
                simp only [List.length_nil]
                clear hn5 hs5 hee
                go_wp2
                go_roundw
                case measure => have := HAN.out; simp [intOf] <;> omega
                case rel => exact ⟨a + 1, HAN.out, by go_num, fun b hb => by
                  by_cases e : b = a
                  · subst e; exact ⟨HNE.out, HEE.out⟩
                  · have := HNO.out b (by omega)
                    rw [HL.out] at this
                    exact this, HK5.out⟩
              · obtain ⟨ad, rfl⟩ := hs5 hee
                have HE : Hid (extF (webOf o) (L - 1) [(a : Int)] = C) := Lib.hid (by
                  obtain ⟨a', ha', he', hb'⟩ := HEX.out
                  rw [HL.out] at he' hb'
                  rcases Nat.lt_trichotomy a a' with h | h | h
                  · exact absurd (hb' a h) hee
                  · rw [h]; exact he'
                  · have := (HNO.out a' h).2
                    rw [HL.out, he'] at this
                    exact absurd this HNE.out)
                rw [HE.out] at HI5 ⊢
                rw [HL.out]
                clear hn5 hs5 hee
                go_wp2
                go_ret2
                refine ⟨some ad, sc, ?_, HI5.out, HK1.out.trans (HKW.out.trans HK5.out)⟩
                have e : (!C.isEmpty) = true := by
                  cases C with
                  | nil => exact absurd rfl HNE.out
                  | cons x t => rfl
                rw [e, HL.out]
                rfl
          · obtain rfl : a = (webOf o).n := by omega
            have hai : decide (((webOf o).n : Int) < o.N) = false := decide_eq_false (by have := HN.out; omega)
            have HE : Hid (C = []) := Lib.hid (Classical.byContradiction fun h => by
              obtain ⟨_, a', ha', he', _⟩ := HEXT.out h
              have := (HNO.out a' ha').2
              rw [he'] at this
              exact h this)
            clear han ha
            go_wp2
            go_ret2
            rw [HE.out]
            exact ⟨none, 0, rfl, Ints.nil _ _, HK1.out.trans (HKW.out.trans HKI.out)⟩
  · have HX : Hid (C = []) := Lib.hid (by rw [← HCL.out]; unfold circleL; rw [if_neg hc])
    have e1 : (chk o != 0) = true := by simp [hc]
    clear hc
    go_wp2
    go_ret2
    rw [HX.out]
    exact ⟨none, 0, rfl, Ints.nil _ _, HK1.out⟩
end Go.Proofs.Yteljjkghjbofnaa
