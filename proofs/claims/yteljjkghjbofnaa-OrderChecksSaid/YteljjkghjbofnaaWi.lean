/- First, dated, Days, SameInts, slices.Index, Standing. -/
import Derived.Test.YteljjkghjbofnaaWh
set_option maxRecDepth 100000
namespace Go.Proofs.Yteljjkghjbofnaa
open Go Go.Proofs Go.RowKit

/-- v is a list of numbers in memory that was not there in w. -/
def NewI (w w' : World) (v : Value) (l : List Int) : Prop :=
  ∃ ao c, v = .slice ao l.length c ∧ l.length ≤ c ∧ Ints w' ao l ∧ (∀ a, ao = some a → w.heap.size ≤ a.block ∧ a.block < w'.heap.size ∧ a.spot = none ∧ ∀ o, w'.frozen? ⟨a.block, o, none⟩ = false)
/-- A list of numbers and what was wrong. -/
def ListErr (l : List Int) (err : Int) (w : World) (e : Ending) (w' : World) : Prop := ∃ v, e = .returned (.tuple #[v, .int .i64 err]) ∧ NewI w w' v l ∧ Kept w w'

theorem NewI.nil (w w' : World) : NewI w w' (.slice none 0 0) [] := ⟨none, 0, rfl, Nat.le_refl _, Ints.nil _ _, fun a h => by cases h⟩
theorem OwnI.new {w w' : World} {v : Value} {l : List Int} (h : OwnI w' w.heap.size v l) : NewI w w' v l := by
  obtain ⟨ao, c, hv, hc, hi⟩ := h.slice
  refine ⟨ao, c, hv, hc, hi, ?_⟩
  rintro a rfl
  rcases h.2 with ⟨rfl, h0⟩ | ⟨g, cap, cur, rfl, hbg, hgg, _⟩
  · cases hv
  · simp only [Value.slice.injEq, Option.some.injEq] at hv
    obtain ⟨rfl, -, -⟩ := hv
    exact ⟨hbg, (Array.getElem?_eq_some_iff.1 hgg).1, rfl, fun o => frozen_of_row _ _ _ _ _ hgg⟩
theorem Arr.new {w w' : World} {g : Nat} {xs : List Int} (h : Arr w' g xs) (hg : w.heap.size ≤ g) : NewI w w' (.slice (some ⟨g, 0, none⟩) xs.length xs.length) xs :=
  ⟨_, _, rfl, Nat.le_refl _, h.ints, by rintro a e; cases e; exact ⟨hg, h.lt, rfl, h.free⟩⟩
theorem NewI.kept {w w' w'' : World} {v : Value} {l : List Int} (h : NewI w w' v l) (hk : Kept w' w'') : NewI w w'' v l := by
  obtain ⟨ao, c, hv, hc, hi, hn⟩ := h
  exact ⟨ao, c, hv, hc, hi.kept hk, fun a e => ⟨(hn a e).1, Nat.lt_of_lt_of_le (hn a e).2.1 hk.size, (hn a e).2.2.1, fun o => (hk.cells.2 a.block o (hn a e).2.1).trans ((hn a e).2.2.2 o)⟩⟩
theorem NewI.from {w0 w w' : World} {v : Value} {l : List Int} (h : NewI w w' v l) (hs : w0.heap.size ≤ w.heap.size) : NewI w0 w' v l := by
  obtain ⟨ao, c, hv, hc, hi, hn⟩ := h
  exact ⟨ao, c, hv, hc, hi, fun a e => ⟨Nat.le_trans hs (hn a e).1, (hn a e).2⟩⟩

/-! ### First -/

def FirstR (o : Prob) : List Int × Int := if errS o = 0 then (firstOf (webOf o), 0) else ([], errS o)

theorem errS_ok {o : Prob} (h : errS o = 0) : chk o = 0 ∧ circB (webOf o) = false := by
  unfold errS at h
  split at h
  · rename_i h1
    cases hc : circB (webOf o)
    · exact ⟨h1, rfl⟩
    · rw [hc] at h; simp at h
  · rename_i h1; exact absurd h h1
theorem webOf_n {o : Prob} (h : chk o = 0) : (webOf o).n ≤ 24 := by have := (pair_of_chk h).2.1; unfold webOf; simp; omega

set_option maxHeartbeats 400000 in
theorem First_any (o : Prob) (ao bo : Option Addr) (ca cb : Nat) (w : World) (ho : IsProb w o ao bo) (hgo : errS o = 0 → Goes (webOf o)) :
    Calls Try.prog 38 #[probV o ao ca bo cb] w (ListErr (FirstR o).1 (FirstR o).2 w) := by
  have HO := Lib.hid ho
  have HGO := Lib.hid hgo
  clear ho hgo
  by_cases h : errS o = 0
  · have hr : FirstR o = (firstOf (webOf o), 0) := by unfold FirstR; rw [if_pos h]
    rw [hr]
    obtain ⟨h1, h2⟩ := errS_ok h
    have H := Lib.hid h
    have H1 := Lib.hid h1
    have H2 := Lib.hid h2
    clear hr h h1 h2
    go_enter Try.func38, Try.ntmps38
    go_wp2_with fail
    obtain ⟨w0, e0, hk0, hb0, -⟩ := alloc_prob w o.N o.arcs o.near ao ca bo cb
    rw [e0]
    clear e0
    have HK0 := Lib.hid hk0
    clear hk0 hb0
    refine (straight_ok o ao bo ca cb w0 (HO.out.kept HK0.out) H1.out H2.out).mono ?_
    rintro e w1 ⟨b, rfl, hw1, hk1⟩
    have HW1 := Lib.hid hw1
    have HK1 := Lib.hid (HK0.out.trans hk1)
    clear hw1 hk1
    go_wp2_with fail
    refine (first_any b (webOf o) w1 HW1.out (webOf_n H1.out) (HGO.out H.out)).mono ?_
    rintro e w2 ⟨v, rfl, hown, hk2⟩
    have HN := Lib.hid (hown.new.from HK1.out.size)
    have HK2 := Lib.hid (HK1.out.trans hk2)
    clear hown hk2
    go_wp2
    go_ret2
    exact ⟨v, rfl, HN.out, HK2.out⟩
  · have hr : FirstR o = ([], errS o) := by unfold FirstR; rw [if_neg h]
    rw [hr]
    have H := Lib.hid h
    have hb : (errS o != 0) = true := by simp [h]
    clear hr h
    go_enter Try.func38, Try.ntmps38
    go_wp2_with fail
    obtain ⟨w0, e0, hk0, hb0, -⟩ := alloc_prob w o.N o.arcs o.near ao ca bo cb
    rw [e0]
    clear e0
    have HK0 := Lib.hid hk0
    clear hk0 hb0
    refine (straight_bad o ao bo ca cb w0 (HO.out.kept HK0.out) H.out).mono ?_
    rintro e w1 ⟨rfl, hk1⟩
    have HK1 := Lib.hid (HK0.out.trans hk1)
    clear hk1
    go_wp2
    go_ret2
    exact ⟨_, rfl, NewI.nil _ _, HK1.out⟩

/-! ### dated, Days -/

/-- What is wrong for E13 and E15. -/
def datErr (o : Prob) (dry : Int) (l : List Int) : Int :=
  if chk o = 0 then (if (0 ≤ dry ∧ dry ≤ 30) ∧ orderedB (webOf o) l = true then 0 else 1) else chk o

theorem ordered_facts {W : Web} {l : List Int} (h : orderedB W l = true) : l.length = W.n ∧ (∀ p ∈ l, 0 ≤ p ∧ p < (W.n : Int)) ∧ l.Nodup := by
  unfold orderedB at h
  simp only [Bool.and_eq_true, decide_eq_true_eq] at h
  obtain ⟨⟨h1, h2⟩, _⟩ := h
  unfold eachB at h2
  have := of_decide_eq_true h2
  exact ⟨h1, this.1, this.2⟩

/-- A web, days, no error. -/
def DatedPost (o : Prob) (dry : Int) (l : List Int) (w : World) (e : Ending) (w' : World) : Prop :=
  ∃ b g, e = .returned (.tuple #[.pointer (some ⟨b, 0, none⟩), .slice (some ⟨g, 0, none⟩) (webOf o).n (webOf o).n, .int .i64 0]) ∧ WebAt w' b (webOf o) ∧ w.heap.size ≤ g ∧ Arr w' g (daysOf (webOf o) dry l) ∧ Kept w w'

set_option maxHeartbeats 800000 in
theorem dated_ok (o : Prob) (ao bo : Option Addr) (ca cb : Nat) (dry : Int) (l : List Int) (lo : Option Addr) (c : Nat) (w : World) (ho : IsProb w o ao bo) (hl : Ints w lo l) (hll : l.length < 1152921504606846976) (hlc : l.length ≤ c)
    (hd : datErr o dry l = 0) : Calls Try.prog 94 #[probV o ao ca bo cb, .int .i64 dry, .slice lo l.length c] w (DatedPost o dry l w) := by
  have hc : chk o = 0 := by
    unfold datErr at hd
    split at hd
    · assumption
    · rename_i h; exact absurd hd h
  have hdo : (0 ≤ dry ∧ dry ≤ 30) ∧ orderedB (webOf o) l = true := by
    unfold datErr at hd
    rw [if_pos hc] at hd
    split at hd
    · assumption
    · cases hd
  obtain ⟨⟨hd0, hd1⟩, hor⟩ := hdo
  obtain ⟨hlen, hin, hnd⟩ := ordered_facts hor
  have h24 := webOf_n hc
  have HO := Lib.hid ho
  have HL := Lib.hid hl
  have HC := Lib.hid hc
  have HOR := Lib.hid hor
  have HIN := Lib.hid hin
  have H24 := Lib.hid h24
  have HLEN := Lib.hid hlen
  clear ho hl hc hor hlen hin hnd hd h24
  have hb : (decide (0 ≤ dry) && decide (dry ≤ 30)) = true := by simp; omega
  have HBB := Lib.hid hb
  clear hb
  go_enter Try.func94, Try.ntmps94
  go_wp2_with fail
  obtain ⟨w0, e0, hk0, hb0, -⟩ := alloc_prob w o.N o.arcs o.near ao ca bo cb
  rw [e0]
  clear e0
  have HK0 := Lib.hid hk0
  clear hk0 hb0
  refine (open_ok o ao bo ca cb w0 (HO.out.kept HK0.out) HC.out).mono ?_
  rintro e w1 ⟨b, rfl, hw1, hk1⟩
  have HW1 := Lib.hid hw1
  have HK1 := Lib.hid (HK0.out.trans hk1)
  clear hw1 hk1
  go_wp2_with fail
  refine (isDry_any dry _).mono ?_
  rintro e w2 ⟨rfl, rfl⟩
  rw [HBB.out]
  go_wp2_with fail
  refine (ordered_any b (webOf o) l lo c _ HW1.out H24.out (HL.out.kept HK1.out) hll).mono ?_
  rintro e w2 ⟨rfl, rfl⟩
  rw [HOR.out]
  go_wp2_with fail
  refine (days_any b (webOf o) dry l lo c w1 HW1.out H24.out (HL.out.kept HK1.out) (by rw [HLEN.out]; exact H24.out) hlc HIN.out hd0 hd1).mono ?_
  rintro e w3 ⟨g, rfl, hg, harr, hk3⟩
  have HA := Lib.hid harr
  have HW3 := Lib.hid (HW1.out.kept hk3)
  have HG := Lib.hid (Nat.le_trans HK1.out.size hg)
  have HK3 := Lib.hid (HK1.out.trans hk3)
  clear harr hg hk3
  go_wp2
  go_ret3
  exact ⟨b, g, rfl, HW3.out, HG.out, HA.out, HK3.out⟩

set_option maxHeartbeats 800000 in
theorem dated_bad (o : Prob) (ao bo : Option Addr) (ca cb : Nat) (dry : Int) (l : List Int) (lo : Option Addr) (c : Nat) (w : World) (ho : IsProb w o ao bo) (hl : Ints w lo l) (hll : l.length < 1152921504606846976)
    (hd : datErr o dry l ≠ 0) : Calls Try.prog 94 #[probV o ao ca bo cb, .int .i64 dry, .slice lo l.length c] w (Gives (.tuple #[.pointer none, .slice none 0 0, .int .i64 (datErr o dry l)]) w) := by
  have HO := Lib.hid ho
  have HL := Lib.hid hl
  clear ho hl
  by_cases hc : chk o = 0
  · have he : datErr o dry l = 1 := by
      unfold datErr at hd ⊢
      rw [if_pos hc] at hd ⊢
      split at hd
      · exact absurd rfl hd
      · rename_i h; rw [if_neg h]
    have hno : ¬ ((0 ≤ dry ∧ dry ≤ 30) ∧ orderedB (webOf o) l = true) := by
      intro h
      unfold datErr at he
      rw [if_pos hc, if_pos h] at he
      cases he
    rw [he]
    have HC := Lib.hid hc
    have H24 := Lib.hid (webOf_n hc)
    have HNO := Lib.hid hno
    clear hd he hno hc
    go_enter Try.func94, Try.ntmps94
    go_wp2_with fail
    obtain ⟨w0, e0, hk0, hb0, -⟩ := alloc_prob w o.N o.arcs o.near ao ca bo cb
    rw [e0]
    clear e0
    have HK0 := Lib.hid hk0
    clear hk0 hb0
    refine (open_ok o ao bo ca cb w0 (HO.out.kept HK0.out) HC.out).mono ?_
    rintro e w1 ⟨b, rfl, hw1, hk1⟩
    have HW1 := Lib.hid hw1
    have HK1 := Lib.hid (HK0.out.trans hk1)
    clear hw1 hk1
    go_wp2_with fail
    refine (isDry_any dry _).mono ?_
    rintro e w2 ⟨rfl, rfl⟩
    cases hdd : (decide (0 ≤ dry) && decide (dry ≤ 30))
    · clear hdd
      go_wp2
      go_ret3
      exact ⟨rfl, HK1.out⟩
    · have HD := Lib.hid hdd
      clear hdd
      go_wp2_with fail
      refine (ordered_any b (webOf o) l lo c _ HW1.out H24.out (HL.out.kept HK1.out) hll).mono ?_
      rintro e w2 ⟨rfl, rfl⟩
      cases hor : orderedB (webOf o) l
      · clear hor
        go_wp2
        go_ret3
        exact ⟨rfl, HK1.out⟩
      · exfalso
        have h := HD.out
        simp at h
        exact HNO.out ⟨h, hor⟩
  · have he : datErr o dry l = chk o := by unfold datErr; rw [if_neg hc]
    rw [he]
    have HC := Lib.hid hc
    have hb : (chk o != 0) = true := by simp [hc]
    clear hd he hc
    go_enter Try.func94, Try.ntmps94
    go_wp2_with fail
    obtain ⟨w0, e0, hk0, hb0, -⟩ := alloc_prob w o.N o.arcs o.near ao ca bo cb
    rw [e0]
    clear e0
    have HK0 := Lib.hid hk0
    clear hk0 hb0
    refine (open_bad o ao bo ca cb w0 (HO.out.kept HK0.out) HC.out).mono ?_
    rintro e w1 ⟨rfl, hk1⟩
    have HK1 := Lib.hid (HK0.out.trans hk1)
    clear hk1
    go_wp2
    go_ret3
    exact ⟨rfl, HK1.out⟩

def DaysR (o : Prob) (dry : Int) (l : List Int) : List Int × Int := if datErr o dry l = 0 then (daysOf (webOf o) dry l, 0) else ([], datErr o dry l)

theorem dayNear_length (W : Web) (dry : Int) (p : Nat) (out : List Int) (q : Int) : (dayNear W dry p out q).length = out.length := by unfold dayNear; split <;> simp
theorem dayStep_length (W : Web) (dry : Int) (l : List Int) (out : List Int) (i : Nat) : (dayStep W dry l out i).length = out.length := by
  unfold dayStep
  have h : ∀ (qs : List Int) (f : List Int), (qs.foldl (dayNear W dry (l.getD i 0).toNat) f).length = f.length := by
    intro qs
    induction qs with
    | nil => intro f; rfl
    | cons q qs ih => intro f; rw [List.foldl_cons, ih, dayNear_length]
  rw [h]; unfold dayFirst; split <;> simp
theorem daysPart_length (W : Web) (dry : Int) (l : List Int) (k : Nat) : (daysPart W dry l k).length = W.n := by
  induction k with
  | zero => simp [daysPart]
  | succ k ih => rw [daysPart_succ, dayStep_length, ih]

set_option maxHeartbeats 400000 in
theorem Days_any (o : Prob) (ao bo : Option Addr) (ca cb : Nat) (dry : Int) (l : List Int) (lo : Option Addr) (c : Nat) (w : World) (ho : IsProb w o ao bo) (hl : Ints w lo l) (hll : l.length < 1152921504606846976) (hlc : l.length ≤ c) :
    Calls Try.prog 32 #[probV o ao ca bo cb, .int .i64 dry, .slice lo l.length c] w (ListErr (DaysR o dry l).1 (DaysR o dry l).2 w) := by
  have HO := Lib.hid ho
  have HL := Lib.hid hl
  clear ho hl
  by_cases h : datErr o dry l = 0
  · have hr : DaysR o dry l = (daysOf (webOf o) dry l, 0) := by unfold DaysR; rw [if_pos h]
    rw [hr]
    have H := Lib.hid h
    clear hr h
    go_enter Try.func32, Try.ntmps32
    go_wp2_with fail
    obtain ⟨w0, e0, hk0, hb0, -⟩ := alloc_prob w o.N o.arcs o.near ao ca bo cb
    rw [e0]
    clear e0
    have HK0 := Lib.hid hk0
    clear hk0 hb0
    refine (dated_ok o ao bo ca cb dry l lo c w0 (HO.out.kept HK0.out) (HL.out.kept HK0.out) hll hlc H.out).mono ?_
    rintro e w1 ⟨b, g, rfl, hw1, hg, harr, hk1⟩
    have hnew := harr.new (w := w) (Nat.le_trans HK0.out.size hg)
    unfold daysOf at hnew
    rw [daysPart_length] at hnew
    have HN := Lib.hid hnew
    have HK1 := Lib.hid (HK0.out.trans hk1)
    clear hw1 hk1 hnew harr hg
    go_wp2
    go_ret2
    exact ⟨_, rfl, HN.out, HK1.out⟩
  · have hr : DaysR o dry l = ([], datErr o dry l) := by unfold DaysR; rw [if_neg h]
    rw [hr]
    have H := Lib.hid h
    clear hr h
    go_enter Try.func32, Try.ntmps32
    go_wp2_with fail
    obtain ⟨w0, e0, hk0, hb0, -⟩ := alloc_prob w o.N o.arcs o.near ao ca bo cb
    rw [e0]
    clear e0
    have HK0 := Lib.hid hk0
    clear hk0 hb0
    refine (dated_bad o ao bo ca cb dry l lo c w0 (HO.out.kept HK0.out) (HL.out.kept HK0.out) hll H.out).mono ?_
    rintro e w1 ⟨rfl, hk1⟩
    have HK1 := Lib.hid (HK0.out.trans hk1)
    clear hk1
    go_wp2
    go_ret2
    exact ⟨_, rfl, NewI.nil _ _, HK1.out⟩

end Go.Proofs.Yteljjkghjbofnaa
