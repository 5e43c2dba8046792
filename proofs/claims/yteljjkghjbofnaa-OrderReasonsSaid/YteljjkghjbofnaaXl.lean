/- OrderReasons. -/
import Derived.Test.YteljjkghjbofnaaXh
import Derived.Test.YteljjkghjbofnaaMe
set_option maxRecDepth 100000
namespace Go.Proofs.Yteljjkghjbofnaa
open Go Go.Proofs Go.RowKit
attribute [local go_sem] Oper.semAt_some

set_option maxHeartbeats 400000 in
theorem last_any (l : List Int) (lo : Option Addr) (c : Nat) (w : World) (hl : Ints w lo l) (hll : l.length < 1152921504606846976) :
    Calls Try.prog 33 #[.slice lo l.length c] w (Tells (.int .i64 (lastL l)) w) := by
  have HL := Lib.hid hl
  clear hl
  go_enter Try.func33, Try.ntmps33
  go_wp2
  go_loop [3, 8] (fun n i => ∃ k : Nat, k ≤ l.length ∧ i = .int .i64 k ∧ n = .int .i64 ((l.take k).foldl max (-1))) (fun _ i => l.length - (intOf i).toNat)
  case atStart => exact ⟨0, Nat.zero_le _, rfl, rfl⟩
  case round =>
    obtain ⟨k, hk, rfl, rfl⟩ := hrel
    by_cases hlt : k < l.length
    · obtain ⟨B, off, rfl, hc⟩ := HL.out k hlt
      have e : (l.take (k + 1)).foldl max (-1) = max ((l.take k).foldl max (-1)) l[k] := by rw [List.take_succ_eq_append_getElem hlt, List.foldl_append]; rfl
      have E := Lib.hid e
      clear e
      generalize (l.take k).foldl max (-1) = m at *
      generalize l[k] = x at *
      by_cases hx : m < x
      · have HM : Hid (max m x = x) := Lib.hid (by omega)
        go_wp2
        go_round
        case measure => simp [intOf]; omega
        case rel => exact ⟨k + 1, by omega, by go_num, by rw [E.out, HM.out]⟩
      · have HM : Hid (max m x = m) := Lib.hid (by omega)
        go_wp2
        go_round
        case measure => simp [intOf]; omega
        case rel => exact ⟨k + 1, by omega, by go_num, by rw [E.out, HM.out]⟩
    · have hk2 : k = l.length := by omega
      have HK : Hid ((l.take k).foldl max (-1) = lastL l) := Lib.hid (by rw [hk2, List.take_length]; rfl)
      clear hk2
      go_wp2
      go_ret
      exact ⟨ret_int HK.out, rfl⟩

set_option maxHeartbeats 400000 in
theorem OrderReasons_wide (o : Prob) (ao bo : Option Addr) (ca cb : Nat) (dry : Int) (l : List Int) (lo : Option Addr) (c : Nat) (w : World) (h : slimB o = false ∨ 24 < l.length) :
    Calls Try.prog 5 #[probV o ao ca bo cb, .int .i64 dry, .slice lo l.length c] w (Gives (.bool true) w) := by
  go_enter Try.func5, Try.ntmps5
  go_wp2_with fail
  obtain ⟨w0, e0, hk0, hb0, -⟩ := alloc_prob w o.N o.arcs o.near ao ca bo cb
  rw [e0]
  clear e0
  have HK0 := Lib.hid hk0
  clear hk0
  obtain ⟨q0, q1, q2⟩ := hb0
  have qb := lt_of_cell q0
  go_wp2_with fail
  clear q0 q1 q2 qb
  refine (slim_any o ao bo ca cb w0).mono ?_
  rintro e w1 ⟨rfl, hk⟩
  have HK1 := Lib.hid (HK0.out.trans hk)
  clear hk HK0
  cases hs : slimB o
  · clear h hs
    go_wp2_with fail
    refine (alive_any w1).mono ?_
    rintro e w2 ⟨rfl, hk⟩
    have HK2 := Lib.hid (HK1.out.trans hk)
    clear hk HK1
    go_wp2
    go_ret
    exact ⟨rfl, HK2.out⟩
  · have h24 : 24 < l.length := h.resolve_left (by rw [hs]; simp)
    have hd : decide ((24 : Int) < l.length) = true := decide_eq_true (by omega)
    clear h hs
    go_wp2_with fail
    refine (alive_any w1).mono ?_
    rintro e w2 ⟨rfl, hk⟩
    have HK2 := Lib.hid (HK1.out.trans hk)
    clear hk HK1
    go_wp2
    go_ret
    exact ⟨rfl, HK2.out⟩


set_option maxHeartbeats 1600000 in
theorem OrderReasons_err (o : Prob) (ao bo : Option Addr) (ca cb : Nat) (dry : Int) (l : List Int) (lo : Option Addr) (c : Nat) (w : World) (ho : IsProb w o ao bo) (hl : Ints w lo l) (hs : slimB o = true) (hlc : l.length ≤ c) (h24 : l.length ≤ 24) (he : datErr o dry l ≠ 0) :
    Calls Try.prog 5 #[probV o ao ca bo cb, .int .i64 dry, .slice lo l.length c] w (Gives (.bool true) w) := by
  have hre : ReasonsR o dry l = ([], datErr o dry l) := by unfold ReasonsR; rw [if_neg he]
  have hde : DaysR o dry l = ([], datErr o dry l) := by unfold DaysR; rw [if_neg he]
  obtain ⟨er, her⟩ : ∃ er, datErr o dry l = er := ⟨_, rfl⟩
  rw [her] at hre hde he
  have HR := Lib.hid hre
  have HD := Lib.hid hde
  have hb : (er != 0) = true := by simp [he]
  have HLL : Hid (l.length < 1152921504606846976) := Lib.hid (by omega)
  have HLC := Lib.hid hlc
  clear hre hde her he hlc
  have hd : decide ((24 : Int) < l.length) = false := decide_eq_false (by omega)
  go_enter Try.func5, Try.ntmps5
  go_wp2_with fail
  obtain ⟨w0, e0, hk0, hb0, -⟩ := alloc_prob w o.N o.arcs o.near ao ca bo cb
  rw [e0]
  clear e0
  have B0 : Hid (Bag w w0 w.heap.size o ao ca bo cb lo l) := Lib.hid ⟨ho.kept hk0, hb0, hl.kept hk0, hk0⟩
  clear ho hl hk0
  obtain ⟨q0, q1, q2⟩ := hb0
  have qb := lt_of_cell q0
  go_wp2_with fail
  clear q0 q1 q2 qb
  refine (slim_any o ao bo ca cb w0).mono ?_
  rw [hs]
  rintro e w1 ⟨rfl, hk⟩
  have B1 := Lib.hid (B0.out.kept hk)
  clear hk B0
  obtain ⟨q0, q1, q2⟩ := B1.out.b
  have qb := lt_of_cell q0
  go_wp2_with fail
  clear q0 q1 q2 qb
  have hF := Reasons_any o ao bo ca cb dry l lo c w1 B1.out.p B1.out.l HLL.out HLC.out
  rw [HR.out] at hF
  refine hF.mono ?_
  clear hF
  rintro e w2 ⟨v1, rfl, hown, hk⟩
  have R2 := Lib.hid hown
  clear hown
  have B2 := Lib.hid (B1.out.kept hk)
  clear hk B1
  obtain ⟨q0, q1, q2⟩ := B2.out.b
  have qb := lt_of_cell q0
  go_wp2_with fail
  clear q0 q1 q2 qb
  have hF := Days_any o ao bo ca cb dry l lo c w2 B2.out.p B2.out.l HLL.out HLC.out
  rw [HD.out] at hF
  refine hF.mono ?_
  clear hF
  rintro e w3 ⟨v2, rfl, hnew, hk⟩
  have B3 := Lib.hid (B2.out.kept hk)
  clear hk B2 hnew
  rcases R2.out.slice rsnC_len with ⟨-, rfl⟩ | ⟨g, rc, rfl, -⟩
  all_goals
    simp -failIfUnchanged only [List.length_nil]
    go_wp2_with fail
    refine (alive_any w3).mono ?_
    rintro e w4 ⟨rfl, hk⟩
    have B4 := Lib.hid (B3.out.kept hk)
    clear hk B3
    go_wp2
    go_ret
    exact ⟨rfl, B4.out.k⟩

set_option maxHeartbeats 1600000 in
theorem OrderReasons_nil (o : Prob) (ao bo : Option Addr) (ca cb : Nat) (dry : Int) (lo : Option Addr) (c : Nat) (w : World) (ho : IsProb w o ao bo) (hl : Ints w lo []) (hs : slimB o = true) (he : datErr o dry [] = 0) :
    Calls Try.prog 5 #[probV o ao ca bo cb, .int .i64 dry, .slice lo 0 c] w (Gives (.bool true) w) := by
  have hre : ReasonsR o dry [] = ([], 0) := by unfold ReasonsR; rw [if_pos he]; rfl
  have hde : DaysR o dry [] = (daysOf (webOf o) dry [], 0) := by unfold DaysR; rw [if_pos he]
  have HR := Lib.hid hre
  have HD := Lib.hid hde
  clear hre hde he
  go_enter Try.func5, Try.ntmps5
  go_wp2_with fail
  obtain ⟨w0, e0, hk0, hb0, -⟩ := alloc_prob w o.N o.arcs o.near ao ca bo cb
  rw [e0]
  clear e0
  have B0 : Hid (Bag w w0 w.heap.size o ao ca bo cb lo []) := Lib.hid ⟨ho.kept hk0, hb0, hl.kept hk0, hk0⟩
  clear ho hl hk0
  obtain ⟨q0, q1, q2⟩ := hb0
  have qb := lt_of_cell q0
  go_wp2_with fail
  clear q0 q1 q2 qb
  refine (slim_any o ao bo ca cb w0).mono ?_
  rw [hs]
  rintro e w1 ⟨rfl, hk⟩
  have B1 := Lib.hid (B0.out.kept hk)
  clear hk B0
  obtain ⟨q0, q1, q2⟩ := B1.out.b
  have qb := lt_of_cell q0
  go_wp2_with fail
  clear q0 q1 q2 qb
  have hF := Reasons_any o ao bo ca cb dry [] lo c w1 B1.out.p B1.out.l (by decide) (Nat.zero_le _)
  rw [HR.out] at hF
  refine hF.mono ?_
  clear hF
  rintro e w2 ⟨v1, rfl, hown, hk⟩
  have R2 := Lib.hid hown
  clear hown
  have B2 := Lib.hid (B1.out.kept hk)
  clear hk B1
  obtain ⟨q0, q1, q2⟩ := B2.out.b
  have qb := lt_of_cell q0
  go_wp2_with fail
  clear q0 q1 q2 qb
  have hF := Days_any o ao bo ca cb dry [] lo c w2 B2.out.p B2.out.l (by decide) (Nat.zero_le _)
  rw [HD.out] at hF
  refine hF.mono ?_
  clear hF
  rintro e w3 ⟨v2, rfl, hnew, hk⟩
  have B3 := Lib.hid (B2.out.kept hk)
  clear hk B2 hnew
  rcases R2.out.slice rsnC_len with ⟨-, rfl⟩ | ⟨g, rc, rfl, -⟩
  all_goals
    simp -failIfUnchanged only [List.length_nil]
    go_wp2_with fail
    refine (alive_any w3).mono ?_
    rintro e w4 ⟨rfl, hk⟩
    have B4 := Lib.hid (B3.out.kept hk)
    clear hk B3
    go_wp2
    go_ret
    exact ⟨rfl, B4.out.k⟩

/-- The day of the k-th reason's patch; 0 behind the last one. -/
def dayK (D : List Int) (R : List Rsn) (k : Nat) : Int := if h : k < R.length then D.getD (R[k]).1.toNat 0 else 0
theorem Leads.facts {n : Nat} {dry : Int} {D : List Int} {R : List Rsn} (hL : Leads n dry D R) {k : Nat} (hk : k < R.length) : ∃ (p : Nat) (f kd : Int), R[k] = ((p : Int), f, kd) ∧ p < n ∧ dayK D R k = D.getD p 0 := by
  have := hL.patch k hk
  refine ⟨(R[k]).1.toNat, (R[k]).2.1, (R[k]).2.2, Prod.ext (by simp; omega) rfl, by omega, ?_⟩
  unfold dayK
  rw [dif_pos hk]
theorem dayK_end {D : List Int} {R : List Rsn} {k : Nat} (hk : R.length ≤ k) : dayK D R k = 0 := by
  unfold dayK; rw [dif_neg (by omega)]
theorem Leads.mid {n : Nat} {dry : Int} {D : List Int} {R : List Rsn} (hL : Leads n dry D R) {k p : Nat} {f kd : Int} (hk : k + 1 < R.length) (he : R[k] = ((p : Int), f, kd)) :
    ∃ q : Nat, f = (q : Int) ∧ q < n ∧ (R[k + 1]).1 = f ∧ ((kd = 2 ∧ dayK D R k = dayK D R (k + 1) + (dry + 1)) ∨ (kd = 1 ∧ dayK D R k = dayK D R (k + 1) + 1)) := by
  obtain ⟨h1, h2⟩ := hL.step k hk
  have h3 := hL.patch (k + 1) hk
  rw [he] at h1 h2
  simp only at h1 h2
  refine ⟨f.toNat, by omega, by omega, h1, ?_⟩
  unfold dayK
  rw [dif_pos (by omega), dif_pos hk, h1, he]
  exact h2
theorem Leads.last {n : Nat} {dry : Int} {D : List Int} {R : List Rsn} (hL : Leads n dry D R) {k p : Nat} {f kd : Int} (hk : k + 1 = R.length) (he : R[k]'(by omega) = ((p : Int), f, kd)) : kd = 0 ∧ f = -1 ∧ D.getD p 0 = 0 := by
  have := hL.end_ k (by omega) hk
  rw [he] at this
  simpa using this
theorem dayK_row {n : Nat} {D : List Int} {R : List Rsn} (hr : Row n 24000 D) (k : Nat) : 0 ≤ dayK D R k ∧ dayK D R k ≤ 24000 := by
  unfold dayK
  split
  · exact hr.getD (by omega) _
  · omega
theorem len_rsn {W : Web} {dry : Int} {l D : List Int} : ∀ (f k : Nat), (rsnL W dry l D f k).length ≤ f
  | 0, _ => Nat.le_refl _
  | f + 1, k => by
    unfold rsnL
    split
    · simp
    · have := len_rsn (W := W) (dry := dry) (l := l) (D := D) f (l.idxOf (whyR W dry l D k).2.1)
      simp only [List.length_cons]; omega

set_option maxHeartbeats 1600000 in
theorem OrderReasons_main (o : Prob) (ao bo : Option Addr) (ca cb : Nat) (dry : Int) (l : List Int) (lo : Option Addr) (c : Nat) (w : World) (ho : IsProb w o ao bo) (hl : Ints w lo l) (hs : slimB o = true) (hlc : l.length ≤ c) (h24 : l.length ≤ 24) (he : datErr o dry l = 0) (hne : l ≠ []) :
    Calls Try.prog 5 #[probV o ao ca bo cb, .int .i64 dry, .slice lo l.length c] w (Gives (.bool true) w) := by
  obtain ⟨hc, hdry, hord⟩ := datErr_ok he
  obtain ⟨hlen, hin, hnd⟩ := ordered_facts hord
  have hl0 : 0 < l.length := List.length_pos_iff.2 hne
  have hre : ReasonsR o dry l = (reasonsL (webOf o) dry l, 0) := by unfold ReasonsR; rw [if_pos he]
  have hde : DaysR o dry l = (daysOf (webOf o) dry l, 0) := by unfold DaysR; rw [if_pos he]
  have hlead : Leads (webOf o).n dry (daysOf (webOf o) dry l) (reasonsL (webOf o) dry l) := rsnL_leads hdry.1 hlen hin hnd _ _ (by omega) (by omega)
  have hrow := daysOf_row (W := webOf o) (dry := dry) hdry (l := l) h24
  have hlast := last_days (W := webOf o) hdry hlen (webOf_n hc) hin hnd hl0
  have hRl : (reasonsL (webOf o) dry l).length ≤ 24 := Nat.le_trans (len_rsn _ _) h24
  obtain ⟨m, hm⟩ : ∃ m, l.length = m + 1 := ⟨l.length - 1, by omega⟩
  obtain ⟨x, tl, hx⟩ : ∃ x tl, reasonsL (webOf o) dry l = (l.getD m 0, x) :: tl := by
    have := rsnL_head (W := webOf o) (dry := dry) (l := l) (D := daysOf (webOf o) dry l) (f := l.length - 1) (k := l.length - 1)
    rw [show l.length - 1 + 1 = l.length by omega] at this
    rw [show m = l.length - 1 by omega]
    exact this
  obtain ⟨z, hz, hzn, hz2⟩ := getD_nat (W := webOf o) hin (show m < l.length by omega)
  have hz3 : l[m]? = some (z : Int) := by rw [List.getElem?_eq_getElem (show m < l.length by omega), hz2]
  clear hz2
  have hT : lastL (daysOf (webOf o) dry l) = dayK (daysOf (webOf o) dry l) (reasonsL (webOf o) dry l) 0 := by
    rw [hlast, show l.length - 1 = m by omega]
    unfold dayK
    rw [dif_pos (by rw [hx]; simp)]
    congr 1
    simp [hx]
  have hR0 : (reasonsL (webOf o) dry l)[0]? = some ((z : Int), x) := by rw [hx, hz]; rfl
  have hlr : 0 < (reasonsL (webOf o) dry l).length := by rw [hx]; simp
  have hDl : (daysOf (webOf o) dry l).length = m + 1 := by rw [hrow.1]; omega
  have hwn : (webOf o).n = m + 1 := by omega
  rw [hwn] at hlead hrow
  clear hx hlast hord hlen hnd hc he hzn hwn hin hl0 hne
  generalize reasonsL (webOf o) dry l = R at *
  generalize daysOf (webOf o) dry l = D at *
  have HR := Lib.hid hre
  have HD := Lib.hid hde
  have HLE := Lib.hid hlead
  have HROW := Lib.hid hrow
  have HT := Lib.hid hT
  have HR0 := Lib.hid hR0
  have HDL := Lib.hid hDl
  have HLM := Lib.hid hm
  have HZ := Lib.hid hz3
  have HLL : Hid (l.length < 1152921504606846976) := Lib.hid (by omega)
  have HLC := Lib.hid hlc
  have HLIM : Hid (D.length < 1152921504606846976) := Lib.hid (by omega)
  have HLR := Lib.hid hlr
  clear hre hde hlead hrow hT hR0 hz hlr hz3
  have hd : decide ((24 : Int) < (m : Int) + 1) = false := decide_eq_false (by omega)
  have hm24 : m ≤ 23 := by omega
  rw [hm]
  clear h24 hlc hDl hm
  go_enter Try.func5, Try.ntmps5
  go_wp2_with fail
  obtain ⟨w0, e0, hk0, hb0, -⟩ := alloc_prob w o.N o.arcs o.near ao ca bo cb
  rw [e0]
  clear e0
  have B0 : Hid (Bag w w0 w.heap.size o ao ca bo cb lo l) := Lib.hid ⟨ho.kept hk0, hb0, hl.kept hk0, hk0⟩
  clear ho hl hk0
  obtain ⟨q0, q1, q2⟩ := hb0
  have qb := lt_of_cell q0
  go_wp2_with fail
  clear q0 q1 q2 qb
  refine (slim_any o ao bo ca cb w0).mono ?_
  rw [hs]
  rintro e w1 ⟨rfl, hk⟩
  have B1 := Lib.hid (B0.out.kept hk)
  clear hk B0
  obtain ⟨q0, q1, q2⟩ := B1.out.b
  have qb := lt_of_cell q0
  go_wp2_with fail
  clear q0 q1 q2 qb
  have hF := Reasons_any o ao bo ca cb dry l lo c w1 B1.out.p B1.out.l HLL.out HLC.out
  rw [HR.out, HLM.out] at hF
  refine hF.mono ?_
  clear hF
  rintro e w2 ⟨v1, rfl, hown, hk⟩
  have R2 := Lib.hid hown
  clear hown
  have B2 := Lib.hid (B1.out.kept hk)
  clear hk B1
  obtain ⟨q0, q1, q2⟩ := B2.out.b
  have qb := lt_of_cell q0
  go_wp2_with fail
  clear q0 q1 q2 qb
  have hF := Days_any o ao bo ca cb dry l lo c w2 B2.out.p B2.out.l HLL.out HLC.out
  rw [HD.out, HLM.out] at hF
  refine hF.mono ?_
  clear hF
  rintro e w3 ⟨v2, rfl, hnew, hk⟩
  have B3 := Lib.hid (B2.out.kept hk)
  have R3 := Lib.hid (R2.out.kept hk)
  clear hk B2 R2
  obtain ⟨da, dc, rfl, -, hdi, -⟩ := hnew
  have D3 := Lib.hid hdi
  clear hdi
  rcases R3.out.slice rsnC_len with ⟨h0, -⟩ | ⟨g, rc, rfl, -, -, -, hfr, hrc⟩
  · exact absurd HLR.out (by rw [h0]; exact Nat.lt_irrefl 0)
  have HRC : Hid (∀ (X : World), Kept w3 X → ∀ k, (h : k < R.length) → X.cell? ⟨g, k * 3, none⟩ = some (.int .i64 (R[k]).1) ∧ X.cell? ⟨g, k * 3 + 1, none⟩ = some (.int .i64 (R[k]).2.1) ∧ X.cell? ⟨g, k * 3 + 2, none⟩ = some (.int .u8 (R[k]).2.2)) :=
    Lib.hid fun X hk k h => ⟨hk.cell (hrc k h 0 _ rfl), hk.cell (hrc k h 1 _ rfl), hk.cell (hrc k h 2 _ rfl)⟩
  have HDC : Hid (∀ (X : World), Kept w3 X → ∀ p, p < m + 1 → ∃ b off, da = some ⟨b, off, none⟩ ∧ X.cell? ⟨b, off + p, none⟩ = some (.int .i64 (D.getD p 0))) := Lib.hid fun X hk p h => by
    obtain ⟨b, off, e, hcc⟩ := (D3.out.kept hk) p (by rw [HDL.out]; exact h)
    exact ⟨b, off, e, by rw [hcc, List.getD_eq_getElem?_getD, List.getElem?_eq_getElem (by rw [HDL.out]; exact h)]; rfl⟩
  rw [HDL.out]
  clear hrc hfr R3
  have hlr := HLR.out
  obtain ⟨r0, -, -⟩ := HRC.out w3 (Kept.refl _) 0 HLR.out
  have hx1 : (R[0]'HLR.out).1 = (z : Int) := by
    have := HR0.out
    rw [List.getElem?_eq_getElem HLR.out] at this
    rw [Option.some.inj this]
  rw [hx1] at r0
  obtain ⟨B, off, rfl, hcl⟩ := B3.out.l m (by have := HLM.out; omega)
  have hx2 : l[m]'(by have := HLM.out; omega) = (z : Int) := by
    have := HZ.out
    rw [List.getElem?_eq_getElem (by have := HLM.out; omega)] at this
    exact Option.some.inj this
  rw [hx2] at hcl
  simp only [Nat.zero_mul] at r0
  clear hx1 hx2
  have hwm : IntKind.i64.wrap (m : Int) = m := IntWalk.i64_in _ (by omega)
  obtain ⟨rn, hrn⟩ : ∃ rn, R.length = rn := ⟨_, rfl⟩
  rw [hrn] at hlr ⊢
  have HRN := Lib.hid hrn
  clear hrn
  have hr1 : ((rn : Int) == 0) = false := by simp; omega
  have hr2 : rn ≠ 0 := by omega
  have hmm : (m : Int) < (m : Int) + 1 := by omega
  go_wp2
  refine region_tail 22 (by kernel_rfl) (by kernel_rfl) ?_
  simp only [List.take_succ_cons, List.take_zero, List.drop_succ_cons, List.drop_zero]
  iterate 22
    with_reducible refine wpStill_want ?_ (fun K hK => ?_)
    · rfl
    go_simp
    refine hK _ ?_
    clear hK K
  with_reducible refine wpStill_nil ?_
  go_wp2
  clear hcl r0 hd hwm hmm
  have HM24 := Lib.hid hm24
  have HDRY := Lib.hid hdry
  have HRL : Hid (rn ≤ 24) := Lib.hid (by have := HRN.out; omega)
  clear hdry hRl
  go_loopw [11, 78] (fun s i wr => ∃ k : Nat, k ≤ rn ∧ i = .int .i64 k ∧ s = .int .i64 (dayK D R 0 - dayK D R k) ∧ Kept w3 wr) (fun _ i _ => rn - (intOf i).toNat)
  case atStart => exact ⟨0, Nat.zero_le _, rfl, by rw [Int.sub_self], (Kept.refl _).drew⟩
  case round =>
    obtain ⟨k, hk, rfl, rfl, hkw⟩ := hrel
    have HKW := Lib.hid hkw
    clear hkw
    have d0 := dayK_row (R := R) HROW.out 0
    have dk := dayK_row (R := R) HROW.out k
    by_cases hlt : k < rn
    · have hkR : k < R.length := by have := HRN.out; omega
      obtain ⟨p, f, kd, he, hp, hdk⟩ := HLE.out.facts hkR
      obtain ⟨c0, c1, c2⟩ := HRC.out wr HKW.out k hkR
      rw [he] at c0 c1 c2
      obtain ⟨db, doff, rfl, hdc⟩ := HDC.out wr HKW.out p hp
      have qg := lt_of_cell c0
      have qd := lt_of_cell hdc
      have e1 : decide ((p : Int) < 0) = false := decide_eq_false (by omega)
      have e2 : decide ((m : Int) + 1 ≤ (p : Int)) = false := decide_eq_false (by omega)
      have hpi : (p : Int) < (m : Int) + 1 := by omega
      have hw1 : IntKind.i64.wrap ((k : Int) + 1) = (k : Int) + 1 := IntWalk.i64_in _ (by have := HRL.out; omega)
      have hwr : IntKind.i64.wrap ((rn : Int) - 1) = (rn : Int) - 1 := IntWalk.i64_in _ (by have := HRL.out; omega)
      by_cases hmid : k + 1 < rn
      · obtain ⟨q, rfl, hq, hnx, hkd⟩ := HLE.out.mid (k := k) (by have := HRN.out; omega) he
        obtain ⟨n0, -, -⟩ := HRC.out wr HKW.out (k + 1) (by have := HRN.out; omega)
        rw [hnx] at n0
        have e3 : decide ((k : Int) + 1 < (rn : Int)) = true := decide_eq_true (by omega)
        have e4 : ((k : Int) == (rn : Int) - 1) = false := by simp; omega
        have e5 : decide ((q : Int) < 0) = false := decide_eq_false (by omega)
        have e6 : decide ((m : Int) + 1 ≤ (q : Int)) = false := decide_eq_false (by omega)
        have hk1 : (k : Int) + 1 < (rn : Int) := by omega
        have hk0 : (0 : Int) ≤ (k : Int) + 1 := by omega
        have dk1 := dayK_row (R := R) HROW.out (k + 1)
        have HKD := Lib.hid hkd
        have HLT := Lib.hid hlt
        clear hkd hnx he hdk
        generalize dayK D R 0 = x0 at *
        generalize dayK D R k = xk at *
        obtain ⟨xk1, hxk1⟩ : ∃ x, dayK D R (k + 1) = x := ⟨_, rfl⟩
        have HX1 := Lib.hid hxk1
        rw [hxk1] at dk1 HKD
        clear hxk1
        rcases HKD.out with ⟨rfl, hx⟩ | ⟨rfl, hx⟩
        · have hdd := HDRY.out
          have hw2 : IntKind.i64.wrap (dry + 1) = dry + 1 := IntWalk.i64_in _ (by omega)
          have hw3 : IntKind.i64.wrap (x0 - xk + (dry + 1)) = x0 - xk1 := by rw [IntWalk.i64_in _ (by omega)]; omega
          clear hx d0 dk dk1 hdd HKD
          go_wp2
          refine region_tail 27 (by kernel_rfl) (by kernel_rfl) ?_
          simp only [List.take_succ_cons, List.take_zero, List.drop_succ_cons, List.drop_zero]
          iterate 27
            with_reducible refine wpStill_want ?_ (fun K hK => ?_)
            · rfl
            go_simp
            refine hK _ ?_
            clear hK K
          with_reducible refine wpStill_nil ?_
          go_wp2
          go_roundw
          case measure => simp [intOf]; omega
          case rel => exact ⟨k + 1, by omega, by go_num, by rw [HX1.out], (HKW.out.alloc _).drew⟩
        · have hw3 : IntKind.i64.wrap (x0 - xk + 1) = x0 - xk1 := by rw [IntWalk.i64_in _ (by omega)]; omega
          clear hx d0 dk dk1 HKD
          go_wp2
          refine region_tail 27 (by kernel_rfl) (by kernel_rfl) ?_
          simp only [List.take_succ_cons, List.take_zero, List.drop_succ_cons, List.drop_zero]
          iterate 27
            with_reducible refine wpStill_want ?_ (fun K hK => ?_)
            · rfl
            go_simp
            refine hK _ ?_
            clear hK K
          with_reducible refine wpStill_nil ?_
          go_wp2
          go_roundw
          case measure => simp [intOf]; omega
          case rel => exact ⟨k + 1, by omega, by go_num, by rw [HX1.out], (HKW.out.alloc _).drew⟩
      · obtain ⟨rfl, rfl, hd0⟩ := HLE.out.last (k := k) (by have := HRN.out; omega) he
        rw [hd0] at hdc hdk
        have e3 : decide ((k : Int) + 1 < (rn : Int)) = false := decide_eq_false (by omega)
        have e4 : ((k : Int) == (rn : Int) - 1) = true := by simp; omega
        have HX : Hid (dayK D R 0 - dayK D R k = dayK D R 0 - dayK D R (k + 1)) := Lib.hid (by rw [hdk, dayK_end (D := D) (R := R) (k := k + 1) (by have := HRN.out; omega)])
        have HLT := Lib.hid hlt
        clear hdk he hd0 d0 dk
        generalize dayK D R 0 - dayK D R k = sv at *
        go_wp2
        refine region_tail 27 (by kernel_rfl) (by kernel_rfl) ?_
        simp only [List.take_succ_cons, List.take_zero, List.drop_succ_cons, List.drop_zero]
        iterate 17
          with_reducible refine wpStill_want ?_ (fun K hK => ?_)
          · rfl
          go_simp
          refine hK _ ?_
          clear hK K
        iterate 9
          with_reducible refine wpStill_skip ?_ ?_
          · rfl
          simp only [Act.put, List.setIfInBounds_toArray, List.set_cons_zero, List.set_cons_succ]
        iterate 1
          with_reducible refine wpStill_want ?_ (fun K hK => ?_)
          · rfl
          go_simp
          refine hK _ ?_
          clear hK K
        with_reducible refine wpStill_nil ?_
        go_wp2
        go_roundw
        case measure => simp [intOf]; omega
        case rel => exact ⟨k + 1, by omega, by go_num, by rw [HX.out], (HKW.out.alloc _).drew⟩
    · obtain rfl : k = rn := by omega
      have hsv : dayK D R 0 - dayK D R k = lastL D := by rw [HT.out, dayK_end (D := D) (R := R) (k := k) (by have := HRN.out; omega), Int.sub_zero]
      rw [hsv]
      have hll : (lastL D == lastL D) = true := by simp
      clear hsv d0 dk
      go_wp2_with fail
      refine (alive_any wr).mono ?_
      rintro e w4 ⟨rfl, hk4⟩
      have HK4 := Lib.hid (HKW.out.trans hk4)
      clear hk4
      go_wp2_with fail
      have hF := last_any D da dc w4 (D3.out.kept HK4.out) HLIM.out
      rw [HDL.out] at hF
      refine hF.mono ?_
      clear hF
      rintro e w5 ⟨rfl, rfl⟩
      go_wp2
      go_ret
      exact ⟨rfl, B3.out.k.trans HK4.out⟩

theorem OrderReasons_any (o : Prob) (ao bo : Option Addr) (ca cb : Nat) (dry : Int) (l : List Int) (lo : Option Addr) (c : Nat) (w : World) (hA : Pairs w ao o.arcs) (hB : Pairs w bo o.near) (hl : Ints w lo l) (hlc : l.length ≤ c) :
    Calls Try.prog 5 #[probV o ao ca bo cb, .int .i64 dry, .slice lo l.length c] w (Gives (.bool true) w) := by
  by_cases hs : slimB o = false
  · exact OrderReasons_wide o ao bo ca cb dry l lo c w (.inl hs)
  · have hs : slimB o = true := by simpa using hs
    have ho : IsProb w o ao bo := by
      have h := hs
      unfold slimB at h
      simp at h
      exact ⟨hA, hB, by omega, by omega⟩
    by_cases h24 : 24 < l.length
    · exact OrderReasons_wide o ao bo ca cb dry l lo c w (.inr h24)
    · by_cases he : datErr o dry l = 0
      · by_cases hne : l = []
        · subst hne
          exact OrderReasons_nil o ao bo ca cb dry lo c w ho hl hs he
        · exact OrderReasons_main o ao bo ca cb dry l lo c w ho hl hs hlc (by omega) he hne
      · exact OrderReasons_err o ao bo ca cb dry l lo c w ho hl hs hlc (by omega) he
end Go.Proofs.Yteljjkghjbofnaa
