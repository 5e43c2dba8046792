/- gaps, isWorld, true_, CheckWorld: at worlds. -/
import Derived.Test.YtgmodcipbklejaaH
set_option maxRecDepth 100000
namespace Go.Proofs.Ytgmodcipbklejaa
open Go Go.Proofs Go.RowKit
attribute [local go_sem] Oper.semAt_some

/-- Block g holds 26 truths. -/
structure TBox (X : World) (g : Nat) (f : Nat → Bool) : Prop where
  c : ∀ d, d < 26 → X.cell? ⟨g, d, none⟩ = some (.bool (f d))
  free : ∀ o, X.frozen? ⟨g, o, none⟩ = false
theorem TBox.lt {X : World} {g : Nat} {f : Nat → Bool} (h : TBox X g f) : g < X.heap.size := lt_of_cell (h.c 0 (by omega))
theorem TBox.set {X : World} {g d : Nat} {f : Nat → Bool} (h : TBox X g f) (hd : d < 26) : TBox (X.setCell ⟨g, d, none⟩ (.bool true)) g (fun x => if x = d then true else f x) :=
  ⟨fun x hx => by
    have := hd
    rw [cell_set_or (h.c x hx)]
    by_cases e : x = d
    · simp [e]
    · simp [e], fun o => by rw [World.frozen?_setCell]; exact h.free o⟩
theorem false26 : (#[.bool false, .bool false, .bool false, .bool false, .bool false, .bool false, .bool false, .bool false, .bool false, .bool false, .bool false, .bool false, .bool false, .bool false, .bool false, .bool false, .bool false, .bool false, .bool false, .bool false, .bool false, .bool false, .bool false, .bool false, .bool false, .bool false] : Array Value) = Array.replicate 26 (.bool false) := by kernel_rfl
theorem alloc_tbox (w : World) : ∃ w0, w.alloc (.cells #[.bool false, .bool false, .bool false, .bool false, .bool false, .bool false, .bool false, .bool false, .bool false, .bool false, .bool false, .bool false, .bool false, .bool false, .bool false, .bool false, .bool false, .bool false, .bool false, .bool false, .bool false, .bool false, .bool false, .bool false, .bool false, .bool false] 132) = w0 ∧ Kept w w0 ∧ TBox w0 w.heap.size (fun _ => false) := by
  have hh := heap_alloc_new w (.cells #[.bool false, .bool false, .bool false, .bool false, .bool false, .bool false, .bool false, .bool false, .bool false, .bool false, .bool false, .bool false, .bool false, .bool false, .bool false, .bool false, .bool false, .bool false, .bool false, .bool false, .bool false, .bool false, .bool false, .bool false, .bool false, .bool false] 132)
  refine ⟨_, rfl, (Kept.refl w).alloc _, fun d hd => ?_, fun o => frozen_of_row _ _ _ _ _ hh⟩
  rw [cell_of_row _ _ _ _ _ _ hh, false26, Array.getElem?_replicate, if_pos hd]

set_option maxHeartbeats 1000000 in
theorem gaps_zero (n : Nat) (r : List Int) (ro : Option Addr) (c : Nat) (w : World) (hn : n ≤ 24) (hw : WorldOk n r) (hr : Ints w ro r) : Calls Try.prog 53 #[.slice ro r.length c] w (Gives (.int .i64 0) w) := by
  have HW := Lib.hid hw
  have HR := Lib.hid hr
  have hrl : r.length ≤ 24 := by rw [hw.1]; exact hn
  clear hw hr
  go_enter Try.func53, Try.ntmps53
  go_wp2_with fail
  obtain ⟨w0, e0, hk0, hb0⟩ := alloc_tbox w
  rw [e0]
  clear e0
  obtain ⟨g, hg⟩ : ∃ g, w.heap.size = g := ⟨_, rfl⟩
  rw [hg] at hb0 ⊢
  have HG := Lib.hid hg
  have HK0 := Lib.hid hk0
  have HB0 := Lib.hid hb0
  clear hg hk0 hb0
  go_loopw [11, 4] (fun iv mv wr => ∃ (i : Nat) (m : Nat) (f : Nat → Bool), i ≤ r.length ∧ m ≤ 24 ∧ iv = .int .i64 i ∧ mv = .int .i64 m ∧ Kept w wr ∧ TBox wr g f ∧ (∀ x ∈ r.take i, f x.toNat = true) ∧ (0 < m → (m : Int) ∈ r)) (fun iv _ _ => r.length - (intOf iv).toNat)
  case atStart => exact ⟨0, 0, _, by omega, by omega, rfl, rfl, HK0.out, HB0.out, fun x h => by simp at h, fun h => by omega⟩
  case round =>
    obtain ⟨i, m, f, hi, hm, rfl, rfl, hkr, htb, hf, hmr⟩ := hrel
    have HKR := Lib.hid hkr
    have HTB := Lib.hid htb
    have HF := Lib.hid hf
    have HMR := Lib.hid hmr
    clear hkr htb hf hmr
    by_cases hlt : i < r.length
    case pos =>
      obtain ⟨x, hx⟩ : ∃ x, r[i] = x := ⟨_, rfl⟩
      have hxm : x ∈ r := by rw [← hx]; exact List.getElem_mem hlt
      obtain ⟨b, off, rfl, hc⟩ := HR.out.kept HKR.out i hlt
      rw [hx] at hc
      obtain ⟨x1, x2⟩ := HW.out.2.1 x hxm
      obtain ⟨d, rfl⟩ := Int.eq_ofNat_of_zero_le (show 0 ≤ x by omega)
      have hbl := lt_of_cell hc
      have hd26 : d < 26 := by omega
      have hd24 : d ≤ 24 := by omega
      have hdi : (d : Int) < 26 := by omega
      have hcd := HTB.out.c d hd26
      have hfd := HTB.out.free d
      have htl := HTB.out.lt
      have HXM := Lib.hid hxm
      have HTK : Hid (r.take (i + 1) = r.take i ++ [(d : Int)]) := Lib.hid (by rw [List.take_succ_eq_append_getElem hlt, hx])
      clear hx hxm x1 x2
      by_cases hmd : m < d
      · go_wp2
        go_roundw
        case measure => simp [intOf]; omega
        case rel =>
          refine ⟨i + 1, d, _, by omega, by omega, by go_num, rfl, HKR.out.setCell (p := ⟨g, d, none⟩) (Nat.le_of_eq HG.out) _, HTB.out.set hd26, fun x hx => ?_, fun _ => HXM.out⟩
          rw [HTK.out] at hx
          rcases List.mem_append.1 hx with hx | hx
          · by_cases e : x.toNat = d
            · simp [e]
            · simp [e]; exact HF.out x hx
          · rw [List.mem_singleton.1 hx]; simp
      · go_wp2
        go_roundw
        case measure => simp [intOf]; omega
        case rel =>
          refine ⟨i + 1, m, _, by omega, by omega, by go_num, rfl, HKR.out.setCell (p := ⟨g, d, none⟩) (Nat.le_of_eq HG.out) _, HTB.out.set hd26, fun x hx => ?_, HMR.out⟩
          rw [HTK.out] at hx
          rcases List.mem_append.1 hx with hx | hx
          · by_cases e : x.toNat = d
            · simp [e]
            · simp [e]; exact HF.out x hx
          · rw [List.mem_singleton.1 hx]; simp
    case neg =>
      have HALL : Hid (∀ k : Nat, 1 ≤ k → k < m → f k = true) := Lib.hid fun k h1 h2 => by
        have ek : r.take i = r := List.take_of_length_le (by omega)
        have h3 := HMR.out (by omega)
        have h4 := HW.out.2.2 (k : Int) (by omega) m h3 (by omega)
        have := HF.out k (by rw [ek]; exact h4)
        simpa using this
      clear HF HMR
      go_wp2_with fail
      clear hlt hi
      go_loop [7, 8] (fun nv dv => ∃ k : Nat, 1 ≤ k ∧ k ≤ 25 ∧ nv = .int .i64 0 ∧ dv = .int .i64 k) (fun _ dv => 25 - (intOf dv).toNat)
      case atStart => exact ⟨1, by omega, by omega, rfl, rfl⟩
      case round =>
        obtain ⟨k, hk1, hk2, rfl, rfl⟩ := hrel
        by_cases hkm : k < m
        · have hck := HTB.out.c k (by omega)
          rw [HALL.out k hk1 hkm] at hck
          have hki : (k : Int) < 26 := by omega
          have htl := HTB.out.lt
          go_wp2
          go_round
          case measure => simp [intOf]; omega
          case rel => exact ⟨k + 1, by omega, by omega, rfl, by go_num⟩
        · go_wp2
          go_ret
          exact ⟨rfl, HKR.out⟩
set_option maxHeartbeats 1000000 in
theorem isWorld_yes (n : Nat) (r : List Int) (ro : Option Addr) (c : Nat) (w : World) (hn : n ≤ 24) (hw : WorldOk n r) (hr : Ints w ro r) : Calls Try.prog 26 #[.int .i64 n, .slice ro r.length c] w (Gives (.bool true) w) := by
  have HW := Lib.hid hw
  have HR := Lib.hid hr
  have hrl : r.length ≤ 24 := by rw [hw.1]; exact hn
  have hne : ((r.length : Int) != (n : Int)) = false := by rw [hw.1]; simp
  clear hw hr
  go_enter Try.func26, Try.ntmps26
  go_wp2_with fail
  clear hne
  go_loop [13] (fun iv => ∃ i : Nat, i ≤ r.length ∧ iv = .int .i64 i) (fun iv => r.length - (intOf iv).toNat)
  case atStart => exact ⟨0, by omega, rfl⟩
  case round =>
    obtain ⟨i, hi, rfl⟩ := hrel
    by_cases hlt : i < r.length
    case pos =>
      obtain ⟨x, hx⟩ : ∃ x, r[i] = x := ⟨_, rfl⟩
      have hxm : x ∈ r := by rw [← hx]; exact List.getElem_mem hlt
      obtain ⟨b, off, rfl, hc⟩ := HR.out i hlt
      rw [hx] at hc
      obtain ⟨x1, x2⟩ := HW.out.2.1 x hxm
      have hbl := lt_of_cell hc
      clear hx hxm
      go_wp2_with fail
      refine (in_yes x1 x2 _).mono ?_
      rintro e w1 ⟨rfl, rfl⟩
      go_wp2
      go_round
      case measure => simp [intOf]; omega
      case rel => exact ⟨i + 1, by omega, by go_num⟩
    case neg =>
      go_wp2_with fail
      refine (gaps_zero n r ro c w hn HW.out HR.out).mono ?_
      rintro e w1 ⟨rfl, hk⟩
      have HK := Lib.hid hk
      clear hk
      go_wp2
      go_ret
      exact ⟨rfl, HK.out⟩
theorem Kept.drewN {a b : World} (h : Kept a b) : ∀ n, Kept a (b.drewN n)
  | 0 => h
  | n + 1 => (Kept.drewN h n).drew
/-- Is what x says true of the days r? -/
def trueB (r : List Int) (x : Obs) : Bool := decide (r.getD (x.a - 1).toNat 0 < r.getD (x.b - 1).toNat 0)
set_option maxHeartbeats 1000000 in
theorem true_any (n : Nat) (r : List Int) (ro : Option Addr) (c : Nat) (x : Obs) (w : World) (hn : n ≤ 24) (hl : r.length = n) (hr : Ints w ro r) (hx : x.kind = 1 ∧ 1 ≤ x.a ∧ x.a ≤ (n : Int) ∧ 1 ≤ x.b ∧ x.b ≤ (n : Int)) :
    Calls Try.prog 29 #[obsV x, .slice ro r.length c] w (Gives (.bool (trueB r x)) w) := by
  obtain ⟨xi, xk, xr, xq, xa, xb, xv⟩ := x
  obtain ⟨rfl, h1, h2, h3, h4⟩ := hx
  simp only [] at h1 h2 h3 h4
  obtain ⟨a, ha⟩ := Int.eq_ofNat_of_zero_le (show 0 ≤ xa - 1 by omega)
  obtain ⟨b, hb⟩ := Int.eq_ofNat_of_zero_le (show 0 ≤ xb - 1 by omega)
  have hal : a < r.length := by omega
  have hbl : b < r.length := by omega
  obtain ⟨bb, off, rfl, ca⟩ := hr a hal
  obtain ⟨bb', off', e, cb⟩ := hr b hbl
  simp only [Option.some.injEq, Addr.mk.injEq] at e
  obtain ⟨rfl, rfl, -⟩ := e
  have HT : Hid (decide (r[a] < r[b]) = trueB r ⟨xi, xk, xr, 1, xa, xb, xv⟩) := Lib.hid (by
    unfold trueB
    simp only [ha, hb, Int.toNat_natCast]
    rw [List.getD_eq_getElem?_getD, List.getD_eq_getElem?_getD, List.getElem?_eq_getElem hal, List.getElem?_eq_getElem hbl]
    rfl)
  have wa : IntKind.i64.wrap (xa - 1) = (a : Int) := by rw [IntWalk.i64_in _ (by omega)]; exact ha
  have wb : IntKind.i64.wrap (xb - 1) = (b : Int) := by rw [IntWalk.i64_in _ (by omega)]; exact hb
  have hlb := lt_of_cell ca
  generalize r[a] = da at *
  generalize r[b] = db at *
  clear ha hb h1 h2 h3 h4 hr
  have hcl : r.length ≤ 24 := by omega
  clear hl
  go_enter Try.func29, Try.ntmps29
  go_wp2
  go_quiet (fail)
  go_wp2
  go_ret
  exact ⟨ret_bool HT.out, ((Kept.refl w).alloc _).drewN _⟩
/-- The first observation that passes a test. -/
def IdxObs (p : Obs → Bool) (l : List Obs) (w : World) (e : Ending) (w' : World) : Prop := ∃ i : Int, e = .returned (.int .i64 i) ∧ decide (0 ≤ i) = l.any p ∧ Kept w w'
theorem any_take_obs {p : Obs → Bool} {l : List Obs} {k : Nat} (hk : k < l.length) (h : (l.take k).any p = false) : (l.take (k + 1)).any p = p l[k] := by
  rw [List.take_succ_eq_append_getElem hk, List.any_append, h]; simp
set_option maxHeartbeats 800000 in
theorem indexObs_any (l : List Obs) (ao : Option Addr) (c g : Nat) (caps : Array Value) (p : Obs → Bool) (w : World) (hl : l.length < 1152921504606846976) (hp : Obss w ao l)
    (hf : ∀ x ∈ l, ∀ W, Kept w W → Calls Try.prog g (#[obsV x] ++ caps) W (Gives (.bool (p x)) W)) (hg : ∀ args W, (callFunc g args).run Try.prog W = .ok (.enter g args) W) :
    Calls Try.prog 54 #[.slice ao l.length c, .func (.func g) #[] caps] w (IdxObs p l w) := by
  have HF := Lib.hid hf
  have HP := Lib.hid hp
  clear hf hp
  go_enter Try.func54, Try.ntmps54
  go_wp2
  go_loopw [8] (fun i wr => ∃ k : Nat, k ≤ l.length ∧ i = .int .i64 k ∧ (l.take k).any p = false ∧ Kept w wr) (fun i _ => l.length - (intOf i).toNat)
  case atStart => exact ⟨0, Nat.zero_le _, rfl, by simp, Kept.refl w⟩
  case round =>
    obtain ⟨k, hk, rfl, hn, hkw⟩ := hrel
    have HN := Lib.hid hn
    have HKW := Lib.hid hkw
    clear hn hkw
    by_cases hlt : k < l.length
    · obtain ⟨x, hx⟩ : ∃ x, l[k] = x := ⟨_, rfl⟩
      have HXM : Hid (x ∈ l) := Lib.hid (by rw [← hx]; exact List.getElem_mem hlt)
      obtain ⟨B, off, rfl, c0, c1, c2, c3, c4, c5, c6⟩ := (HP.out.kept HKW.out) k hlt
      have HNX := Lib.hid (any_take_obs hlt HN.out)
      have hb := lt_of_cell c0
      rw [hx] at c0 c1 c2 c3 c4 c5 c6 HNX
      have HX := Lib.hid hx
      clear hx
      go_wp2_with fail
      refine (HF.out x HXM.out _ HKW.out).mono ?_
      rintro e w1 ⟨rfl, hk1⟩
      have HK1 := Lib.hid (HKW.out.trans hk1)
      clear hk1 c0 c1 c2 c3 c4 c5 c6 hb
      cases hpk : p x
      · rw [hpk] at HNX
        clear hpk
        go_wp2
        go_roundw
        case rel => exact ⟨k + 1, by omega, by go_num, HNX.out, HK1.out⟩
        case measure => simp [intOf]; omega
      · have HA : Hid (l.any p = true) := Lib.hid (List.any_eq_true.2 ⟨x, HXM.out, hpk⟩)
        clear hpk
        go_wp2
        go_ret
        exact ⟨k, rfl, by rw [HA.out]; simp, HK1.out⟩
    · have ek : l.take k = l := List.take_of_length_le (by omega)
      rw [ek] at HN
      clear ek
      go_wp2
      go_ret
      exact ⟨-1, rfl, by rw [HN.out]; rfl, HKW.out⟩
set_option maxHeartbeats 400000 in
theorem containsObs_any (l : List Obs) (ao : Option Addr) (c g : Nat) (caps : Array Value) (p : Obs → Bool) (w : World) (hl : l.length < 1152921504606846976) (hp : Obss w ao l)
    (hf : ∀ x ∈ l, ∀ W, Kept w W → Calls Try.prog g (#[obsV x] ++ caps) W (Gives (.bool (p x)) W)) (hg : ∀ args W, (callFunc g args).run Try.prog W = .ok (.enter g args) W) :
    Calls Try.prog 27 #[.slice ao l.length c, .func (.func g) #[] caps] w (Gives (.bool (l.any p)) w) := by
  have HF := Lib.hid hf
  have HP := Lib.hid hp
  clear hf hp
  go_enter Try.func27, Try.ntmps27
  go_wp2_with fail
  refine (indexObs_any l ao c g caps p w hl HP.out HF.out hg).mono ?_
  rintro e w1 ⟨i, rfl, hi, hk⟩
  have HI := Lib.hid hi
  have HK := Lib.hid hk
  clear hi hk hg
  go_wp2
  go_ret
  exact ⟨ret_bool HI.out, HK.out⟩
set_option maxHeartbeats 400000 in
theorem notTrue_any (n : Nat) (r : List Int) (ro : Option Addr) (c g : Nat) (x : Obs) (w : World) (hn : n ≤ 24) (hl : r.length = n) (hr : Ints w ro r) (hg : w.cell? ⟨g, 0, none⟩ = some (.slice ro r.length c)) (hx : x.kind = 1 ∧ 1 ≤ x.a ∧ x.a ≤ (n : Int) ∧ 1 ≤ x.b ∧ x.b ≤ (n : Int)) :
    Calls Try.prog 28 #[obsV x, .pointer (some ⟨g, 0, none⟩)] w (Gives (.bool (!trueB r x)) w) := by
  have HR := Lib.hid hr
  have HX := Lib.hid hx
  have HL := Lib.hid hl
  have hb := lt_of_cell hg
  clear hr hx hl
  obtain ⟨xi, xk, xr, xq, xa, xb, xv⟩ := x
  go_enter Try.func28, Try.ntmps28
  go_wp2_with fail
  obtain ⟨w0, e0, hk0, -, -, -⟩ := alloc_obs w xi xk xr xq xa xb xv
  rw [e0]
  have HK0 := Lib.hid hk0
  clear e0 hk0 hg hb
  refine (true_any n r ro c ⟨xi, xk, xr, xq, xa, xb, xv⟩ w0 hn HL.out (HR.out.kept HK0.out) HX.out).mono ?_
  rintro e w1 ⟨rfl, hk⟩
  have HK := Lib.hid (HK0.out.trans hk)
  clear hk
  go_wp2
  go_ret
  exact ⟨rfl, HK.out⟩
/-- Are all observations of c true of the days r? -/
def allTrueB (r : List Int) (c : List Obs) : Bool := c.all (trueB r)
theorem allTrue_any (r : List Int) (c : List Obs) : (!c.any fun x => !trueB r x) = allTrueB r c := by
  unfold allTrueB
  rw [List.not_any_eq_all_not]
  simp
set_option maxHeartbeats 1000000 in
theorem CheckWorld_any (n : Nat) (s : List Obs) (so : Option Addr) (sc : Nat) (K : Int) (r : List Int) (ro : Option Addr) (c : Nat) (w : World) (hn : n ≤ 24) (h : Right n s) (hl : s.length ≤ 100) (hs : Obss w so s) (hw : WorldOk n r) (hr : Ints w ro r) :
    Calls Try.prog 11 #[.int .i64 n, .slice so s.length sc, .int .i64 K, .slice ro r.length c] w (Gives (.tuple #[.bool (allTrueB r (countF s K)), .int .i64 0]) w) := by
  have HRT := Lib.hid h
  have HS := Lib.hid hs
  have HW := Lib.hid hw
  have HR := Lib.hid hr
  have HL := Lib.hid hl
  clear h hs hw hr hl
  go_enter Try.func11, Try.ntmps11
  go_wp2_with fail
  have hb0 : (w.alloc (.cells #[.slice ro r.length c] 25)).cell? ⟨w.heap.size, 0, none⟩ = some (.slice ro r.length c) := by simp [go_sem]
  have HK0 : Hid (Kept w (w.alloc (.cells #[.slice ro r.length c] 25))) := Lib.hid ((Kept.refl w).alloc _)
  obtain ⟨g, hg⟩ : ∃ g, w.heap.size = g := ⟨_, rfl⟩
  rw [hg] at hb0 ⊢
  clear hg
  generalize w.alloc (.cells #[.slice ro r.length c] 25) = w0 at *
  have HB0 := Lib.hid hb0
  clear hb0
  refine (ask_any n s so sc K w0 HRT.out HL.out (by omega) (HS.out.kept HK0.out)).mono ?_
  rintro e w1 ⟨v, rfl, hov, hk1⟩
  have HK1 := Lib.hid (HK0.out.trans hk1)
  have HB1 := Lib.hid (hk1.cell HB0.out)
  obtain ⟨ao, ac, rfl, hob⟩ := hov.obss
  have HOB := Lib.hid hob
  have HCL : Hid ((countF s K).length ≤ 100) := Lib.hid (Nat.le_trans (List.length_filter_le _ _) HL.out)
  have HCO := Lib.hid (count_over HRT.out K)
  clear hov hob hk1
  have hb1 := HB1.out
  have hbl := lt_of_cell hb1
  go_wp2_with fail
  clear hb1 hbl
  refine (isWorld_yes n r ro c w1 hn HW.out (HR.out.kept HK1.out)).mono ?_
  rintro e w2 ⟨rfl, hk2⟩
  have HK2 := Lib.hid (HK1.out.trans hk2)
  have HB2 := Lib.hid (hk2.cell HB1.out)
  have HOB2 := Lib.hid (HOB.out.kept hk2)
  clear hk2
  generalize countF s K = cl at *
  go_wp2_with fail
  refine (containsObs_any cl ao ac 28 #[.pointer (some ⟨g, 0, none⟩)] (fun x => !trueB r x) w2 (by have := HCL.out; omega) HOB2.out (fun x hx W hW => notTrue_any n r ro c g x W hn HW.out.1 (HR.out.kept (HK2.out.trans hW)) (hW.cell HB2.out) (by obtain ⟨h1, h2, h3, h4, h5, -⟩ := HCO.out x hx; exact ⟨h1, h2, h3, h4, h5⟩)) Try.call28).mono ?_
  rintro e w3 ⟨rfl, hk3⟩
  have HK3 := Lib.hid (HK2.out.trans hk3)
  clear hk3
  have HAT := Lib.hid (allTrue_any r cl)
  obtain ⟨vb, hvb⟩ : ∃ v, (cl.any fun x => !trueB r x) = v := ⟨_, rfl⟩
  rw [hvb] at HAT ⊢
  clear hvb
  go_wp2
  go_ret2
  exact ⟨by rw [← HAT.out]; rfl, HK3.out⟩
end Go.Proofs.Ytgmodcipbklejaa
