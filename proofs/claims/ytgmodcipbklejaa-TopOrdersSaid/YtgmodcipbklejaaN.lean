/- reading.Read, Certain. -/
import Derived.Test.YtgmodcipbklejaaK
import Derived.Test.YtgmodcipbklejaaM
set_option maxRecDepth 100000
namespace Go.Proofs.Ytgmodcipbklejaa
open Go Go.Proofs Go.RowKit
attribute [local go_sem] Oper.semAt_some

set_option maxHeartbeats 400000 in
theorem things_any (n a b : Int) (w : World) (h1 : 1 ≤ a) (h2 : a ≤ n) (h3 : 1 ≤ b) (h4 : b ≤ n) (h5 : a ≠ b) : Calls Try.prog 30 #[.int .i64 n, .int .i64 a, .int .i64 b] w (Tells (.int .i64 0) w) := by
  have hne : (a == b) = false := by simp [h5]
  go_enter Try.func30, Try.ntmps30
  go_wp2_with fail
  refine (in_yes h1 h2 _).mono ?_
  rintro e w1 ⟨rfl, rfl⟩
  go_wp2_with fail
  refine (in_yes h3 h4 _).mono ?_
  rintro e w1 ⟨rfl, rfl⟩
  go_wp2
  go_ret
  exact ⟨rfl, rfl⟩
theorem count_overAll {N : Nat} {s : List Obs} (h : Right N s) (K : Int) : OverAll N (countF s K) := fun x hx => by
  obtain ⟨h1, h2, h3, h4, h5, h6, h7, -⟩ := count_over h K x hx
  exact ⟨h1, h2, h3, h4, h5, h6, h7⟩
theorem WebOk.irr {N : Nat} {c : List Obs} {re st : Nat → Nat → Bool} (h : WebOk N c re st) {D : Int → Int} (hD : ∀ x ∈ c, D x.a < D x.b) (a : Nat) : st a a = false := by
  cases e : st a a with
  | false => rfl
  | true => have := h.sound D hD a a e; omega
def ReadsPost (N : Nat) (c : List Obs) (a b : Nat) (w : World) (e : Ending) (w' : World) : Prop :=
  ∃ (k : Int) (re st : Nat → Nat → Bool), e = .returned (.tuple #[.int .u8 k, .int .i64 0]) ∧ k = (if st a b then 1 else if st b a then 2 else 0) ∧ WebOk N c re st ∧ Kept w w'
set_option maxHeartbeats 1000000 in
theorem Read_any (N : Nat) (s : List Obs) (so : Option Addr) (sc : Nat) (K : Int) (a b : Nat) (D : Int → Int) (w : World) (hN : N ≤ 24) (h : Right N s) (hl : s.length ≤ 100) (hs : Obss w so s) (hD : ∀ x ∈ countF s K, D x.a < D x.b) (ha : 1 ≤ a ∧ a ≤ N) (hb : 1 ≤ b ∧ b ≤ N) (hab : a ≠ b) :
    Calls Try.prog 12 #[.int .i64 N, .slice so s.length sc, .int .i64 K, .int .i64 a, .int .i64 b] w (ReadsPost N (countF s K) a b w) := by
  have HRT := Lib.hid h
  have HS := Lib.hid hs
  have HL := Lib.hid hl
  have HD := Lib.hid hD
  have HA := Lib.hid ha
  have HB := Lib.hid hb
  have HAB := Lib.hid hab
  clear h hs hl hD ha hb hab
  go_enter Try.func12, Try.ntmps12
  go_wp2_with fail
  refine (ask_any N s so sc K w HRT.out HL.out (by omega) HS.out).mono ?_
  rintro e w1 ⟨v, rfl, hov, hk1⟩
  obtain ⟨ao, ac, rfl, hob⟩ := hov.obss
  have HOB := Lib.hid hob
  have HK1 := Lib.hid hk1
  have HCL : Hid ((countF s K).length ≤ 100) := Lib.hid (Nat.le_trans (List.length_filter_le _ _) HL.out)
  have HCO := Lib.hid (count_overAll HRT.out K)
  clear hov hob hk1
  generalize countF s K = cl at *
  go_wp2_with fail
  refine (things_any N a b w1 (by have := HA.out; omega) (by have := HA.out; omega) (by have := HB.out; omega) (by have := HB.out; omega) (by have := HAB.out; omega)).mono ?_
  rintro e w2 ⟨rfl, rfl⟩
  go_wp2_with fail
  refine (rwoven_any N cl ao ac w1 hN HCO.out HCL.out HOB.out).mono ?_
  rintro e w2 ⟨g, ov, re, st, rfl, hbx, -, hk2, hwo⟩
  have HBX := Lib.hid hbx
  have HK2 := Lib.hid (HK1.out.trans hk2)
  have HWO := Lib.hid hwo
  clear hbx hk2 hwo
  go_wp2_with fail
  refine (wread_any g N ov re st a b w2 HBX.out hN (fun a _ => HWO.out.irr HD.out a) (by have := HA.out; omega) (by have := HB.out; omega) (by rw [HWO.out.re a b HA.out.1 HA.out.2 HB.out.1 HB.out.2]; exact decide_eq_false HAB.out)).mono ?_
  rintro e w3 ⟨k, rfl, hk, rfl⟩
  have HK := Lib.hid hk
  clear hk
  go_wp2
  go_ret2
  exact ⟨k, re, st, rfl, HK.out, HWO.out, HK2.out⟩

def AgreedPost (N : Nat) (c : List Obs) (w : World) (e : Ending) (w' : World) : Prop :=
  ∃ g ov re st, e = .returned (.tuple #[.pointer (some ⟨g, 0, none⟩), .int .i64 0]) ∧ RBox w' g N ov re st ∧ WebOk N c re st ∧ Kept w w'
set_option maxHeartbeats 1000000 in
theorem agreed_any (N : Nat) (s : List Obs) (so : Option Addr) (sc : Nat) (K : Int) (D : Int → Int) (w : World) (hN : N ≤ 24) (h : Right N s) (hl : s.length ≤ 100) (hs : Obss w so s) (hD : ∀ x ∈ countF s K, D x.a < D x.b) :
    Calls Try.prog 33 #[.int .i64 N, .slice so s.length sc, .int .i64 K] w (AgreedPost N (countF s K) w) := by
  have HRT := Lib.hid h
  have HS := Lib.hid hs
  have HL := Lib.hid hl
  have HD := Lib.hid hD
  clear h hs hl hD
  go_enter Try.func33, Try.ntmps33
  go_wp2_with fail
  refine (ask_any N s so sc K w HRT.out HL.out (by omega) HS.out).mono ?_
  rintro e w1 ⟨v, rfl, hov, hk1⟩
  obtain ⟨ao, ac, rfl, hob⟩ := hov.obss
  have HOB := Lib.hid hob
  have HK1 := Lib.hid hk1
  have HCL : Hid ((countF s K).length ≤ 100) := Lib.hid (Nat.le_trans (List.length_filter_le _ _) HL.out)
  have HCO := Lib.hid (count_overAll HRT.out K)
  clear hov hob hk1
  generalize countF s K = cl at *
  go_wp2_with fail
  refine (rwoven_any N cl ao ac w1 hN HCO.out HCL.out HOB.out).mono ?_
  rintro e w2 ⟨g, ov, re, st, rfl, hbx, -, hk2, hwo⟩
  have HBX := Lib.hid hbx
  have HK2 := Lib.hid (HK1.out.trans hk2)
  have HWO := Lib.hid hwo
  clear hbx hk2 hwo
  go_wp2_with fail
  refine (agrees_any g N ov re st w2 HBX.out hN (fun a _ => HWO.out.irr HD.out a)).mono ?_
  rintro e w3 ⟨rfl, rfl⟩
  go_wp2
  go_ret2
  exact ⟨g, ov, re, st, rfl, HBX.out, HWO.out, HK2.out⟩
set_option maxHeartbeats 400000 in
theorem strict_any (g q N : Nat) (ov : Nat → Nat → Int) (re st : Nat → Nat → Bool) (a b : Nat) (w : World) (h : RBox w g N ov re st) (hq : w.cell? ⟨q, 0, none⟩ = some (.pointer (some ⟨g, 0, none⟩))) (ha : a < 25) (hb : b < 25) :
    Calls Try.prog 35 #[.int .i64 a, .int .i64 b, .pointer (some ⟨q, 0, none⟩)] w (Tells (.bool (st a b)) w) := by
  have hc := h.st a b ha hb
  have hg := h.lt
  have hql := lt_of_cell hq
  have hai : (a : Int) < 25 := by omega
  have hbi : (b : Int) < 25 := by omega
  generalize st a b = v at *
  clear h
  go_enter Try.func35, Try.ntmps35
  go_wp2
  go_ret
  exact ⟨rfl, rfl⟩
/-- The pairs before (a, b) that pass. -/
def Pst (N : Nat) (st : Nat → Nat → Bool) (a b : Nat) (l : List (Int × Int)) : Prop := l.length ≤ 25 * a + b ∧ ∀ p : Int × Int, p ∈ l ↔ ∃ x y : Nat, p = ((x : Int), (y : Int)) ∧ 1 ≤ x ∧ x ≤ N ∧ 1 ≤ y ∧ y ≤ N ∧ x ≠ y ∧ (x < a ∨ x = a ∧ y < b) ∧ st x y = true
theorem Pst.start (N : Nat) (st : Nat → Nat → Bool) : Pst N st 1 1 [] := ⟨by simp, fun p => ⟨fun h => (by simp at h), fun ⟨x, y, _, h1, _, h3, _, _, h6, _⟩ => (by omega)⟩⟩
theorem Pst.row {N : Nat} {st : Nat → Nat → Bool} {a b : Nat} {l : List (Int × Int)} (h : Pst N st a b l) (hb : b = N + 1) (hN : N ≤ 24) : Pst N st (a + 1) 1 l := by
  refine ⟨by have := h.1; omega, fun p => ?_⟩
  rw [h.2]
  constructor
  · rintro ⟨x, y, e, h1, h2, h3, h4, h5, h6, h7⟩
    exact ⟨x, y, e, h1, h2, h3, h4, h5, by omega, h7⟩
  · rintro ⟨x, y, e, h1, h2, h3, h4, h5, h6, h7⟩
    exact ⟨x, y, e, h1, h2, h3, h4, h5, by omega, h7⟩
theorem Pst.skip {N : Nat} {st : Nat → Nat → Bool} {a b : Nat} {l : List (Int × Int)} (h : Pst N st a b l) (hn : a = b ∨ st a b = false) : Pst N st a (b + 1) l := by
  refine ⟨by have := h.1; omega, fun p => ?_⟩
  rw [h.2]
  constructor
  · rintro ⟨x, y, e, h1, h2, h3, h4, h5, h6, h7⟩
    exact ⟨x, y, e, h1, h2, h3, h4, h5, by omega, h7⟩
  · rintro ⟨x, y, e, h1, h2, h3, h4, h5, h6, h7⟩
    refine ⟨x, y, e, h1, h2, h3, h4, h5, ?_, h7⟩
    by_cases e2 : x = a ∧ y = b
    · rw [e2.1, e2.2] at h7 h5
      rcases hn with hn | hn
      · exact absurd hn h5
      · rw [hn] at h7; cases h7
    · omega
theorem Pst.add {N : Nat} {st : Nat → Nat → Bool} {a b : Nat} {l : List (Int × Int)} (h : Pst N st a b l) (ha : 1 ≤ a ∧ a ≤ N) (hb : 1 ≤ b ∧ b ≤ N) (hn : a ≠ b) (hs : st a b = true) : Pst N st a (b + 1) (l ++ [((a : Int), (b : Int))]) := by
  refine ⟨by have := h.1; simp; omega, fun p => ?_⟩
  rw [List.mem_append, h.2, List.mem_singleton]
  constructor
  · rintro (⟨x, y, e, h1, h2, h3, h4, h5, h6, h7⟩ | e)
    · exact ⟨x, y, e, h1, h2, h3, h4, h5, by omega, h7⟩
    · exact ⟨a, b, e, ha.1, ha.2, hb.1, hb.2, hn, by omega, hs⟩
  · rintro ⟨x, y, e, h1, h2, h3, h4, h5, h6, h7⟩
    by_cases e2 : x = a ∧ y = b
    · exact .inr (by rw [e, e2.1, e2.2])
    · exact .inl ⟨x, y, e, h1, h2, h3, h4, h5, by omega, h7⟩
def CertPost (N : Nat) (c : List Obs) (w : World) (e : Ending) (w' : World) : Prop :=
  ∃ v l re st, e = .returned (.tuple #[v, .int .i64 0]) ∧ OwnG w' w.heap.size 47 2 pairC v l ∧ l.length ≤ 1000 ∧ (∀ p : Int × Int, p ∈ l ↔ ∃ x y : Nat, p = ((x : Int), (y : Int)) ∧ 1 ≤ x ∧ x ≤ N ∧ 1 ≤ y ∧ y ≤ N ∧ x ≠ y ∧ st x y = true) ∧ WebOk N c re st ∧ Kept w w'
def PairsPost (N : Nat) (st : Nat → Nat → Bool) (w : World) (e : Ending) (w' : World) : Prop :=
  ∃ v l, e = .returned v ∧ OwnG w' w.heap.size 47 2 pairC v l ∧ l.length ≤ 1000 ∧ (∀ p : Int × Int, p ∈ l ↔ ∃ x y : Nat, p = ((x : Int), (y : Int)) ∧ 1 ≤ x ∧ x ≤ N ∧ 1 ≤ y ∧ y ≤ N ∧ x ≠ y ∧ st x y = true) ∧ Kept w w'
set_option maxHeartbeats 1000000 in
theorem pairs_any (N g q : Nat) (ov : Nat → Nat → Int) (re st : Nat → Nat → Bool) (w : World) (hN : N ≤ 24) (h : RBox w g N ov re st) (hq : w.cell? ⟨q, 0, none⟩ = some (.pointer (some ⟨g, 0, none⟩))) :
    Calls Try.prog 34 #[.int .i64 N, .func (.func 35) #[] #[.pointer (some ⟨q, 0, none⟩)]] w (PairsPost N st w) := by
  have HB := Lib.hid h
  have HQ := Lib.hid hq
  have hcall := Try.call35
  clear h hq
  go_enter Try.func34, Try.ntmps34
  go_wp2_with fail
  go_loopw [6, 5] (fun av vv wr => ∃ (a : Nat) (l : List (Int × Int)), 1 ≤ a ∧ a ≤ N + 1 ∧ av = .int .i64 a ∧ Kept w wr ∧ OwnG wr w.heap.size 47 2 pairC vv l ∧ Pst N st a 1 l) (fun av _ _ => N + 1 - (intOf av).toNat)
  case atStart => exact ⟨1, [], by omega, by omega, rfl, Kept.refl w, OwnG.nil _ _ _ _ _, Pst.start N st⟩
  case round =>
    obtain ⟨a, l, ha1, ha2, rfl, hkr, hov, hps⟩ := hrel
    have HKR := Lib.hid hkr
    have HOV := Lib.hid hov
    have HPS := Lib.hid hps
    clear hkr hov hps
    by_cases hat : a ≤ N
    case neg =>
      go_wp2
      go_ret
      refine ⟨_, l, rfl, HOV.out, by have := HPS.out.1; omega, fun p => ?_, HKR.out⟩
      rw [HPS.out.2]
      constructor
      · rintro ⟨x, y, e, h1, h2, h3, h4, h5, h6, h7⟩
        exact ⟨x, y, e, h1, h2, h3, h4, h5, h7⟩
      · rintro ⟨x, y, e, h1, h2, h3, h4, h5, h7⟩
        exact ⟨x, y, e, h1, h2, h3, h4, h5, by omega, h7⟩
    go_wp2_with fail
    go_loopw [7, 5] (fun bv vv wr => ∃ (b : Nat) (l : List (Int × Int)), 1 ≤ b ∧ b ≤ N + 1 ∧ bv = .int .i64 b ∧ Kept w wr ∧ OwnG wr w.heap.size 47 2 pairC vv l ∧ Pst N st a b l) (fun bv _ _ => N + 1 - (intOf bv).toNat)
    case atStart => exact ⟨1, l, by omega, by omega, rfl, HKR.out, HOV.out, HPS.out⟩
    case round =>
      clear HKR HOV HPS
      obtain ⟨b, l, hb1, hb2, rfl, hkr, hov, hps⟩ := hrel
      have HKR := Lib.hid hkr
      have HOV := Lib.hid hov
      have HPS := Lib.hid hps
      have HLE : Hid (l.length ≤ 1000) := Lib.hid (by have := hps.1; omega)
      clear hkr hov hps
      by_cases hbt : b ≤ N
      case neg =>
        go_wp2
        go_roundw
        case measure => simp [intOf]; omega
        case rel => exact ⟨a + 1, l, by omega, by omega, by go_num, HKR.out, HOV.out, HPS.out.row (by omega) hN⟩
      by_cases hab : a = b
      · have hne : ((a : Int) != (b : Int)) = false := by simp [hab]
        have HSK := Lib.hid (HPS.out.skip (.inl hab))
        clear hab
        go_wp2
        go_roundw
        case measure => simp [intOf]; omega
        case rel => exact ⟨b + 1, l, by omega, by omega, by go_num, HKR.out, HOV.out, HSK.out⟩
      · have hne : ((a : Int) != (b : Int)) = true := by simp; omega
        have HNE := Lib.hid hab
        have HAB : Hid ((1 ≤ a ∧ a ≤ N) ∧ (1 ≤ b ∧ b ≤ N)) := Lib.hid (by omega)
        clear hab
        go_wp2_with fail
        refine (strict_any g q N ov re st a b wr (HB.out.kept HKR.out) (HKR.out.cell HQ.out) (by omega) (by omega)).mono ?_
        rintro e w1 ⟨rfl, rfl⟩
        clear hne
        cases hst : st a b
        · have HSK := Lib.hid (HPS.out.skip (.inr hst))
          clear hst
          go_wp2
          go_roundw
          case measure => simp [intOf]; omega
          case rel => exact ⟨b + 1, l, by omega, by omega, by go_num, HKR.out, HOV.out, HSK.out⟩
        · have HAD := Lib.hid (HPS.out.add HAB.out.1 HAB.out.2 HNE.out hst)
          clear hst
          go_wp2_with (first | (at_builtin; refine append_pair _ rfl _ _ rfl w.heap.size _ l rfl (HOV.out.kept ((Kept.refl _).alloc _)) wr.heap.size ((a : Int), (b : Int)) rfl (by constructor <;> simp [go_sem]) (by have := HLE.out; omega) (by have := HKR.out.size; simp; omega) ?_; intro ra rc w6 hown6 hg6 hat6) | fail)
          go_roundw
          case measure => simp [intOf]; omega
          case rel => exact ⟨b + 1, _, by omega, by omega, by go_num, Kept.grown (HKR.out.alloc _) hg6 (fun r e => (HOV.out.lt r e).1), by simpa using hown6, HAD.out⟩
set_option maxHeartbeats 1000000 in
theorem Certain_any (N : Nat) (s : List Obs) (so : Option Addr) (sc : Nat) (K : Int) (D : Int → Int) (w : World) (hN : N ≤ 24) (h : Right N s) (hl : s.length ≤ 100) (hs : Obss w so s) (hD : ∀ x ∈ countF s K, D x.a < D x.b) :
    Calls Try.prog 14 #[.int .i64 N, .slice so s.length sc, .int .i64 K] w (CertPost N (countF s K) w) := by
  have HRT := Lib.hid h
  have HS := Lib.hid hs
  have HL := Lib.hid hl
  have HD := Lib.hid hD
  clear h hs hl hD
  go_enter Try.func14, Try.ntmps14
  go_wp2_with fail
  refine (agreed_any N s so sc K D w hN HRT.out HL.out HS.out HD.out).mono ?_
  rintro e w1 ⟨g, ov, re, st, rfl, hbx, hwo, hk1⟩
  have HBX := Lib.hid hbx
  have HWO := Lib.hid hwo
  have HK1 := Lib.hid hk1
  clear hbx hwo hk1
  go_wp2_with fail
  refine (pairs_any N g w1.heap.size ov re st _ hN (HBX.out.kept ((Kept.refl _).alloc _)) (by simp [go_sem])).mono ?_
  rintro e w2 ⟨v, l, rfl, hov, hle, hm, hk2⟩
  have HOV := Lib.hid (hov.base' (show w.heap.size ≤ _ from (HK1.out.alloc _).size))
  have HM := Lib.hid hm
  have HLE := Lib.hid hle
  have HK2 := Lib.hid ((HK1.out.alloc _).trans hk2)
  clear hov hm hk2 hle
  go_wp2
  go_ret2
  exact ⟨v, l, re, st, rfl, HOV.out, HLE.out, HM.out, HWO.out, HK2.out⟩
end Go.Proofs.Ytgmodcipbklejaa
