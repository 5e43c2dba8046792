/- order.Check, order.Days, order.CheckDays at this seat, a further part (see A). -/
import Derived.Test.YtgmodcipbklejaaA
import Derived.RangeFuncNested
import Derived.RangeFuncBound
import Derived.RangeFuncCalls
import Derived.RangeFuncLeaves
import Derived.Shelf.Abstract
import Derived.Shelf.RegionOpen
import Derived.OwnWalkIn
import Derived.TacticsInMore
import Derived.LoopNIn
import Derived.LoopIn
import Derived.Deep.LoopGhost
import Derived.WalkMore
import Derived.Deep.DeepCutAuto
import Derived.Deep.CutBlock
import Derived.WalkSpells
import Derived.Deep.QuietTactic
import Derived.StillTail
import Derived.Maps.OwnSet
import Derived.Maps.OwnIn
namespace Go.Proofs.Ytgmodcipbklejaa
section
set_option maxRecDepth 100000
open Go Go.Proofs Go.RowKit
attribute [local go_sem] Oper.semAt_some
set_option maxRecDepth 100000
open Go Go.Proofs Go.RowKit
section
variable {P : Program} {l n : Nat} {Q : Exit → Act → World → Prop}
end
set_option maxRecDepth 100000
open Go Go.Proofs Go.RowKit
attribute [local go_sem] Oper.semAt_some
section
variable {w : World} {bo bd base : Nat} {Ds : List Nat} {vb : Value} {d : S} {v : Value} {l : List Int} {X Y : World}
end
set_option maxRecDepth 100000
open Go Go.Proofs Go.RowKit
/-- v is a list of numbers in memory that was not there in w. -/
def NewI (w w' : World) (v : Value) (l : List Int) : Prop :=
  ∃ ao c, v = .slice ao l.length c ∧ l.length ≤ c ∧ Ints w' ao l ∧ (∀ a, ao = some a → w.heap.size ≤ a.block ∧ a.block < w'.heap.size ∧ a.spot = none ∧ ∀ o, w'.frozen? ⟨a.block, o, none⟩ = false)
/-- A list of numbers and what was wrong. -/
def ListErr (l : List Int) (err : Int) (w : World) (e : Ending) (w' : World) : Prop := ∃ v, e = .returned (.tuple #[v, .int .i64 err]) ∧ NewI w w' v l ∧ Kept w w'
theorem NewI.nil (w w' : World) : NewI w w' (.slice none 0 0) [] := ⟨none, 0, rfl, Nat.le_refl _, Ints.nil _ _, fun a h => by cases h⟩
theorem Arr.new {w w' : World} {g : Nat} {xs : List Int} (h : Arr w' g xs) (hg : w.heap.size ≤ g) : NewI w w' (.slice (some ⟨g, 0, none⟩) xs.length xs.length) xs :=
  ⟨_, _, rfl, Nat.le_refl _, h.ints, by rintro a e; cases e; exact ⟨hg, h.lt, rfl, h.free⟩⟩
theorem NewI.kept {w w' w'' : World} {v : Value} {l : List Int} (h : NewI w w' v l) (hk : Kept w' w'') : NewI w w'' v l := by
  obtain ⟨ao, c, hv, hc, hi, hn⟩ := h
  exact ⟨ao, c, hv, hc, hi.kept hk, fun a e => ⟨(hn a e).1, Nat.lt_of_lt_of_le (hn a e).2.1 hk.size, (hn a e).2.2.1, fun o => (hk.cells.2 a.block o (hn a e).2.1).trans ((hn a e).2.2.2 o)⟩⟩
theorem NewI.from {w0 w w' : World} {v : Value} {l : List Int} (h : NewI w w' v l) (hs : w0.heap.size ≤ w.heap.size) : NewI w0 w' v l := by
  obtain ⟨ao, c, hv, hc, hi, hn⟩ := h
  exact ⟨ao, c, hv, hc, hi, fun a e => ⟨Nat.le_trans hs (hn a e).1, (hn a e).2⟩⟩
theorem webOf_n {o : Prob} (h : chk o = 0) : (webOf o).n ≤ 24 := by have := (pair_of_chk h).2.1; unfold webOf; simp; omega
/-- What is wrong for E13 and E15. -/
def datErr (o : Prob) (dry : Int) (l : List Int) : Int :=
  if chk o = 0 then (if (0 ≤ dry ∧ dry ≤ 30) ∧ orderedB (webOf o) l = true then 0 else 1) else chk o
theorem ordered_facts {W : Web} {l : List Int} (h : orderedB W l = true) : l.length = W.n ∧ (∀ p ∈ l, 0 ≤ p ∧ p < (W.n : Int)) ∧ l.Nodup := by
  unfold orderedB at h
  simp only [Bool.and_eq_true, decide_eq_true_eq] at h
  obtain ⟨⟨h1, h2⟩, _⟩ := h
  unfold eachB at h2
  have := of_decide_eq_true h2
  exact ⟨h1, this.1, this.2⟩
/-- A web, days, no error. -/
def DatedPost (o : Prob) (dry : Int) (l : List Int) (w : World) (e : Ending) (w' : World) : Prop :=
  ∃ b g, e = .returned (.tuple #[.pointer (some ⟨b, 0, none⟩), .slice (some ⟨g, 0, none⟩) (webOf o).n (webOf o).n, .int .i64 0]) ∧ WebAt w' b (webOf o) ∧ w.heap.size ≤ g ∧ Arr w' g (daysOf (webOf o) dry l) ∧ Kept w w'
set_option maxHeartbeats 800000 in
theorem dated_ok (o : Prob) (ao bo : Option Addr) (ca cb : Nat) (dry : Int) (l : List Int) (lo : Option Addr) (c : Nat) (w : World) (ho : IsProb w o ao bo) (hl : Ints w lo l) (hll : l.length < 1152921504606846976) (hlc : l.length ≤ c)
    (hd : datErr o dry l = 0) : Calls Try.prog 15 #[probV o ao ca bo cb, .int .i64 dry, .slice lo l.length c] w (DatedPost o dry l w) := by
  have hc : chk o = 0 := by
    unfold datErr at hd
    split at hd
    · assumption
    · rename_i h; exact absurd hd h
  have hdo : (0 ≤ dry ∧ dry ≤ 30) ∧ orderedB (webOf o) l = true := by
    unfold datErr at hd
    rw [if_pos hc] at hd
    split at hd
    · assumption
    · cases hd
  obtain ⟨⟨hd0, hd1⟩, hor⟩ := hdo
  obtain ⟨hlen, hin, hnd⟩ := ordered_facts hor
  have h24 := webOf_n hc
  have HO := Lib.hid ho
  have HL := Lib.hid hl
  have HC := Lib.hid hc
  have HOR := Lib.hid hor
  have HIN := Lib.hid hin
  have H24 := Lib.hid h24
  have HLEN := Lib.hid hlen
  clear ho hl hc hor hlen hin hnd hd h24
  have hb : (decide (0 ≤ dry) && decide (dry ≤ 30)) = true := by simp; omega
  have HBB := Lib.hid hb
  clear hb
  go_enter Try.func15, Try.ntmps15
  go_wp2_with fail
  obtain ⟨w0, e0, hk0, hb0, -⟩ := alloc_prob w o.N o.arcs o.near ao ca bo cb
  rw [e0]
  clear e0
  have HK0 := Lib.hid hk0
  clear hk0 hb0
  refine (open_ok o ao bo ca cb w0 (HO.out.kept HK0.out) HC.out).mono ?_
  rintro e w1 ⟨b, rfl, hw1, hk1⟩
  have HW1 := Lib.hid hw1
  have HK1 := Lib.hid (HK0.out.trans hk1)
  clear hw1 hk1
  go_wp2_with fail
  refine (isDry_any dry _).mono ?_
  rintro e w2 ⟨rfl, rfl⟩
  rw [HBB.out]
  go_wp2_with fail
  refine (ordered_any b (webOf o) l lo c _ HW1.out H24.out (HL.out.kept HK1.out) hll).mono ?_
  rintro e w2 ⟨rfl, rfl⟩
  rw [HOR.out]
  go_wp2_with fail
  refine (days_any b (webOf o) dry l lo c w1 HW1.out H24.out (HL.out.kept HK1.out) (by rw [HLEN.out]; exact H24.out) hlc HIN.out hd0 hd1).mono ?_
  rintro e w3 ⟨g, rfl, hg, harr, hk3⟩
  have HA := Lib.hid harr
  have HW3 := Lib.hid (HW1.out.kept hk3)
  have HG := Lib.hid (Nat.le_trans HK1.out.size hg)
  have HK3 := Lib.hid (HK1.out.trans hk3)
  clear harr hg hk3
  go_wp2
  go_ret3
  exact ⟨b, g, rfl, HW3.out, HG.out, HA.out, HK3.out⟩
set_option maxHeartbeats 800000 in
theorem dated_bad (o : Prob) (ao bo : Option Addr) (ca cb : Nat) (dry : Int) (l : List Int) (lo : Option Addr) (c : Nat) (w : World) (ho : IsProb w o ao bo) (hl : Ints w lo l) (hll : l.length < 1152921504606846976)
    (hd : datErr o dry l ≠ 0) : Calls Try.prog 15 #[probV o ao ca bo cb, .int .i64 dry, .slice lo l.length c] w (Gives (.tuple #[.pointer none, .slice none 0 0, .int .i64 (datErr o dry l)]) w) := by
  have HO := Lib.hid ho
  have HL := Lib.hid hl
  clear ho hl
  by_cases hc : chk o = 0
  · have he : datErr o dry l = 1 := by
      unfold datErr at hd ⊢
      rw [if_pos hc] at hd ⊢
      split at hd
      · exact absurd rfl hd
      · rename_i h; rw [if_neg h]
    have hno : ¬ ((0 ≤ dry ∧ dry ≤ 30) ∧ orderedB (webOf o) l = true) := by
      intro h
      unfold datErr at he
      rw [if_pos hc, if_pos h] at he
      cases he
    rw [he]
    have HC := Lib.hid hc
    have H24 := Lib.hid (webOf_n hc)
    have HNO := Lib.hid hno
    clear hd he hno hc
    go_enter Try.func15, Try.ntmps15
    go_wp2_with fail
    obtain ⟨w0, e0, hk0, hb0, -⟩ := alloc_prob w o.N o.arcs o.near ao ca bo cb
    rw [e0]
    clear e0
    have HK0 := Lib.hid hk0
    clear hk0 hb0
    refine (open_ok o ao bo ca cb w0 (HO.out.kept HK0.out) HC.out).mono ?_
    rintro e w1 ⟨b, rfl, hw1, hk1⟩
    have HW1 := Lib.hid hw1
    have HK1 := Lib.hid (HK0.out.trans hk1)
    clear hw1 hk1
    go_wp2_with fail
    refine (isDry_any dry _).mono ?_
    rintro e w2 ⟨rfl, rfl⟩
    cases hdd : (decide (0 ≤ dry) && decide (dry ≤ 30))
    · clear hdd
      go_wp2
      go_ret3
      exact ⟨rfl, HK1.out⟩
    · have HD := Lib.hid hdd
      clear hdd
      go_wp2_with fail
      refine (ordered_any b (webOf o) l lo c _ HW1.out H24.out (HL.out.kept HK1.out) hll).mono ?_
      rintro e w2 ⟨rfl, rfl⟩
      cases hor : orderedB (webOf o) l
      · clear hor
        go_wp2
        go_ret3
        exact ⟨rfl, HK1.out⟩
      · exfalso
        have h := HD.out
        simp at h
        exact HNO.out ⟨h, hor⟩
  · have he : datErr o dry l = chk o := by unfold datErr; rw [if_neg hc]
    rw [he]
    have HC := Lib.hid hc
    have hb : (chk o != 0) = true := by simp [hc]
    clear hd he hc
    go_enter Try.func15, Try.ntmps15
    go_wp2_with fail
    obtain ⟨w0, e0, hk0, hb0, -⟩ := alloc_prob w o.N o.arcs o.near ao ca bo cb
    rw [e0]
    clear e0
    have HK0 := Lib.hid hk0
    clear hk0 hb0
    refine (open_bad o ao bo ca cb w0 (HO.out.kept HK0.out) HC.out).mono ?_
    rintro e w1 ⟨rfl, hk1⟩
    have HK1 := Lib.hid (HK0.out.trans hk1)
    clear hk1
    go_wp2
    go_ret3
    exact ⟨rfl, HK1.out⟩
def DaysR (o : Prob) (dry : Int) (l : List Int) : List Int × Int := if datErr o dry l = 0 then (daysOf (webOf o) dry l, 0) else ([], datErr o dry l)
theorem dayNear_length (W : Web) (dry : Int) (p : Nat) (out : List Int) (q : Int) : (dayNear W dry p out q).length = out.length := by unfold dayNear; split <;> simp
theorem dayStep_length (W : Web) (dry : Int) (l : List Int) (out : List Int) (i : Nat) : (dayStep W dry l out i).length = out.length := by
  unfold dayStep
  have h : ∀ (qs : List Int) (f : List Int), (qs.foldl (dayNear W dry (l.getD i 0).toNat) f).length = f.length := by
    intro qs
    induction qs with
    | nil => intro f; rfl
    | cons q qs ih => intro f; rw [List.foldl_cons, ih, dayNear_length]
  rw [h]; unfold dayFirst; split <;> simp
theorem daysPart_length (W : Web) (dry : Int) (l : List Int) (k : Nat) : (daysPart W dry l k).length = W.n := by
  induction k with
  | zero => simp [daysPart]
  | succ k ih => rw [daysPart_succ, dayStep_length, ih]
set_option maxHeartbeats 400000 in
theorem Days_any (o : Prob) (ao bo : Option Addr) (ca cb : Nat) (dry : Int) (l : List Int) (lo : Option Addr) (c : Nat) (w : World) (ho : IsProb w o ao bo) (hl : Ints w lo l) (hll : l.length < 1152921504606846976) (hlc : l.length ≤ c) :
    Calls Try.prog 6 #[probV o ao ca bo cb, .int .i64 dry, .slice lo l.length c] w (ListErr (DaysR o dry l).1 (DaysR o dry l).2 w) := by
  have HO := Lib.hid ho
  have HL := Lib.hid hl
  clear ho hl
  by_cases h : datErr o dry l = 0
  · have hr : DaysR o dry l = (daysOf (webOf o) dry l, 0) := by unfold DaysR; rw [if_pos h]
    rw [hr]
    have H := Lib.hid h
    clear hr h
    go_enter Try.func6, Try.ntmps6
    go_wp2_with fail
    obtain ⟨w0, e0, hk0, hb0, -⟩ := alloc_prob w o.N o.arcs o.near ao ca bo cb
    rw [e0]
    clear e0
    have HK0 := Lib.hid hk0
    clear hk0 hb0
    refine (dated_ok o ao bo ca cb dry l lo c w0 (HO.out.kept HK0.out) (HL.out.kept HK0.out) hll hlc H.out).mono ?_
    rintro e w1 ⟨b, g, rfl, hw1, hg, harr, hk1⟩
    have hnew := harr.new (w := w) (Nat.le_trans HK0.out.size hg)
    unfold daysOf at hnew
    rw [daysPart_length] at hnew
    have HN := Lib.hid hnew
    have HK1 := Lib.hid (HK0.out.trans hk1)
    clear hw1 hk1 hnew harr hg
    go_wp2
    go_ret2
    exact ⟨_, rfl, HN.out, HK1.out⟩
  · have hr : DaysR o dry l = ([], datErr o dry l) := by unfold DaysR; rw [if_neg h]
    rw [hr]
    have H := Lib.hid h
    clear hr h
    go_enter Try.func6, Try.ntmps6
    go_wp2_with fail
    obtain ⟨w0, e0, hk0, hb0, -⟩ := alloc_prob w o.N o.arcs o.near ao ca bo cb
    rw [e0]
    clear e0
    have HK0 := Lib.hid hk0
    clear hk0 hb0
    refine (dated_bad o ao bo ca cb dry l lo c w0 (HO.out.kept HK0.out) (HL.out.kept HK0.out) hll H.out).mono ?_
    rintro e w1 ⟨rfl, hk1⟩
    have HK1 := Lib.hid (HK0.out.trans hk1)
    clear hk1
    go_wp2
    go_ret2
    exact ⟨_, rfl, NewI.nil _ _, HK1.out⟩
set_option maxRecDepth 100000
open Go Go.Proofs Go.RowKit
set_option maxRecDepth 100000
open Go Go.Proofs Go.RowKit
end
section
set_option maxRecDepth 100000
open Go Go.Proofs Go.RowKit
set_option maxRecDepth 100000
open Go Go.Proofs Go.RowKit
@[go_sem] theorem neq31_some (w : World) (a : Addr) (n c : Nat) : (binOp .neq 25 (.slice (some a) n c) (.slice none 0 0)).run Try.prog w = .ok (.bool true) w := run_neq_slice_nil_any w 25 3 (some a) n c 0 0 Try.underlying25
@[go_sem] theorem neq31_none (w : World) : (binOp .neq 25 (.slice none 0 0) (.slice none 0 0)).run Try.prog w = .ok (.bool false) w := run_neq_slice_nil_any w 25 3 none 0 0 0 0 Try.underlying25
@[go_sem] theorem eql31_some (w : World) (a : Addr) (n c : Nat) : (binOp .eql 25 (.slice (some a) n c) (.slice none 0 0)).run Try.prog w = .ok (.bool false) w := Lib.run_eql_slice_nil w 25 3 (some a) n c 0 0 Try.underlying25
@[go_sem] theorem eql31_none (w : World) : (binOp .eql 25 (.slice none 0 0) (.slice none 0 0)).run Try.prog w = .ok (.bool true) w := Lib.run_eql_slice_nil w 25 3 none 0 0 0 0 Try.underlying25
set_option maxRecDepth 100000
open Go Go.Proofs Go.RowKit
section
variable {P : Program} {ops : Array Oper} {md : Region.Mode} {C : World → Prop}
end
set_option maxRecDepth 100000
open Go Go.Proofs Go.RowKit
open Go.Maps (Keyed)
/-- How many patches are not in d. -/
def rest (W : Web) (d : S) : Nat := ((List.range W.n).filter fun p => !hasS d p).length
section
variable {kb wb cb mb b : Nat} {W : Web} {X Y : World}
end
set_option maxRecDepth 100000
open Go Go.Proofs Go.RowKit
attribute [local go_sem] Oper.semAt_some
set_option maxRecDepth 100000
open Go Go.Proofs Go.RowKit
open Go.Maps (Keyed)
set_option maxRecDepth 100000
open Go Go.Proofs Go.RowKit
set_option maxRecDepth 100000
open Go Go.Proofs Go.RowKit
attribute [local go_sem] Oper.semAt_some
section
variable {B0 B kx c8 kb wb cb mb b : Nat} {W : Web} {k : Int} {X Y : World}
end
section
variable {w : World} {bo bd base : Nat} {Ds : List Nat} {vb : Value} {d : S} {v : Value} {l : List Int} {X Y : World}
end
end
section
set_option maxRecDepth 100000
open Go Go.Proofs Go.RowKit
theorem getD_set_same {l : List Int} {p : Nat} (h : p < l.length) (x d : Int) : (l.set p x).getD p d = x := by
  rw [List.getD_eq_getElem?_getD, List.getElem?_set_self h]; rfl
theorem getD_set_other {l : List Int} {p q : Nat} (h : p ≠ q) (x d : Int) : (l.set p x).getD q d = l.getD q d := by
  rw [List.getD_eq_getElem?_getD, List.getD_eq_getElem?_getD, List.getElem?_set_ne h]
theorem dayNear_other {W : Web} {dry : Int} {p x : Nat} {out : List Int} {q : Int} (h : p ≠ x) : (dayNear W dry p out q).getD x 0 = out.getD x 0 := by
  unfold dayNear; split
  · exact getD_set_other h _ _
  · rfl
theorem dayNear_ge {W : Web} {dry : Int} {p : Nat} {out : List Int} {q : Int} (hp : p < out.length) : out.getD p 0 ≤ (dayNear W dry p out q).getD p 0 := by
  unfold dayNear; split
  · rw [getD_set_same hp]; exact Int.le_max_left _ _
  · exact Int.le_refl _
theorem near_fold {W : Web} {dry : Int} {p : Nat} : ∀ (qs : List Int) (out : List Int), p < out.length →
    (∀ x, p ≠ x → (qs.foldl (dayNear W dry p) out).getD x 0 = out.getD x 0) ∧ out.getD p 0 ≤ (qs.foldl (dayNear W dry p) out).getD p 0 ∧ (qs.foldl (dayNear W dry p) out).length = out.length
  | [], out, _ => ⟨fun _ _ => rfl, Int.le_refl _, rfl⟩
  | q :: qs, out, h => by
    have hl := dayNear_length W dry p out q
    obtain ⟨h1, h2, h3⟩ := near_fold (W := W) (dry := dry) (p := p) qs (dayNear W dry p out q) (by rw [hl]; exact h)
    exact ⟨fun x hx => (h1 x hx).trans (dayNear_other hx), Int.le_trans (dayNear_ge h) h2, h3.trans hl⟩
section
variable {W : Web} {dry : Int} {l : List Int}
theorem getD_nat (hin : ∀ p ∈ l, 0 ≤ p ∧ p < (W.n : Int)) {i : Nat} (hi : i < l.length) : ∃ p : Nat, l.getD i 0 = (p : Int) ∧ p < W.n ∧ l[i] = (p : Int) := by
  have h := hin l[i] (List.getElem_mem hi)
  refine ⟨l[i].toNat, ?_, by omega, by omega⟩
  rw [List.getD_eq_getElem?_getD, List.getElem?_eq_getElem hi]
  show l[i] = _
  omega
theorem dayStep_facts {i : Nat} {out : List Int} (hout : out.length = W.n) {p : Nat} (hp : l.getD i 0 = (p : Int)) (hpn : p < W.n) :
    (∀ x, p ≠ x → (dayStep W dry l out i).getD x 0 = out.getD x 0) ∧
    (0 < i → out.getD (l.getD (i - 1) 0).toNat 0 + 1 ≤ (dayStep W dry l out i).getD p 0) ∧ (i = 0 → dayStep W dry l out i = out) := by
  have hfl : (dayFirst l i out).length = out.length := by unfold dayFirst; split <;> simp
  have e : (l.getD i 0).toNat = p := by rw [hp]; rfl
  obtain ⟨h1, h2, h3⟩ := near_fold (W := W) (dry := dry) (p := p) (l.take i) (dayFirst l i out) (by rw [hfl, hout]; exact hpn)
  unfold dayStep
  rw [e]
  refine ⟨fun x hx => ?_, fun h0 => ?_, fun h0 => ?_⟩
  · rw [h1 x hx]
    unfold dayFirst
    split
    · rw [e]; exact getD_set_other hx _ _
    · rfl
  · refine Int.le_trans ?_ h2
    unfold dayFirst
    rw [if_pos h0, e, getD_set_same (by rw [hout]; exact hpn)]
    exact Int.le_refl _
  · subst h0
    simp [dayFirst]
/-- The days of what is placed stand. -/
theorem daysPart_stays (hin : ∀ p ∈ l, 0 ≤ p ∧ p < (W.n : Int)) (hnd : l.Nodup) {i : Nat} (hi : i < l.length) : ∀ (k : Nat), i < k → k ≤ l.length →
    (daysPart W dry l k).getD (l.getD i 0).toNat 0 = (daysPart W dry l (i + 1)).getD (l.getD i 0).toNat 0 := by
  intro k
  induction k with
  | zero => intro h; omega
  | succ k ih =>
    intro h1 h2
    by_cases e : k = i
    · subst e; rfl
    · rw [daysPart_succ]
      obtain ⟨p, hp, hpn, hp'⟩ := getD_nat (W := W) hin (show k < l.length by omega)
      obtain ⟨q, hq, hqn, hq'⟩ := getD_nat (W := W) hin hi
      have hne : p ≠ q := by
        rintro rfl
        have := (List.getElem_inj hnd).1 (hp'.trans hq'.symm)
        exact e this
      rw [hq]
      rw [(dayStep_facts (dry := dry) (daysPart_length W dry l k) hp hpn).1 _ (by simpa using hne), ← hq]
      exact ih (by omega) (by omega)
theorem days_zero (hin : ∀ p ∈ l, 0 ≤ p ∧ p < (W.n : Int)) (hnd : l.Nodup) (h : 0 < l.length) : (daysOf W dry l).getD (l.getD 0 0).toNat 0 = 0 := by
  unfold daysOf
  rw [daysPart_stays hin hnd h l.length h (Nat.le_refl _), daysPart_succ]
  obtain ⟨p, hp, hpn, _⟩ := getD_nat (W := W) hin h
  rw [(dayStep_facts (dry := dry) (daysPart_length W dry l 0) hp hpn).2.2 rfl]
  unfold daysPart
  rw [List.range_zero, List.foldl_nil, List.getD_eq_getElem?_getD, List.getElem?_replicate]
  split <;> rfl
theorem days_succ (hin : ∀ p ∈ l, 0 ≤ p ∧ p < (W.n : Int)) (hnd : l.Nodup) {i : Nat} (h0 : 0 < i) (h : i < l.length) :
    (daysOf W dry l).getD (l.getD (i - 1) 0).toNat 0 + 1 ≤ (daysOf W dry l).getD (l.getD i 0).toNat 0 := by
  unfold daysOf
  rw [daysPart_stays hin hnd h l.length h (Nat.le_refl _), daysPart_stays hin hnd (show i - 1 < l.length by omega) l.length (by omega) (Nat.le_refl _), daysPart_succ W dry l i]
  obtain ⟨p, hp, hpn, _⟩ := getD_nat (W := W) hin h
  have := (dayStep_facts (dry := dry) (daysPart_length W dry l i) hp hpn).2.1 h0
  rw [daysPart_stays hin hnd (show i - 1 < l.length by omega) i (by omega) (by omega)] at this
  rw [show (l.getD i 0).toNat = p by rw [hp]; rfl]
  exact this
theorem days_lt (hin : ∀ p ∈ l, 0 ≤ p ∧ p < (W.n : Int)) (hnd : l.Nodup) {i : Nat} : ∀ (j : Nat), i < j → j < l.length → (daysOf W dry l).getD (l.getD i 0).toNat 0 < (daysOf W dry l).getD (l.getD j 0).toNat 0 := by
  intro j
  induction j with
  | zero => intro h; omega
  | succ j ih =>
    intro h1 h2
    have h3 := days_succ (W := W) (dry := dry) hin hnd (show 0 < j + 1 by omega) h2
    rw [Nat.add_sub_cancel] at h3
    by_cases e : i = j
    · subst e; omega
    · have := ih (by omega) (by omega)
      omega
end
set_option maxRecDepth 100000
open Go Go.Proofs Go.RowKit
section
variable {α : Type} {X Y : World} {base e size : Nat} {cs : α → List Value} {v : Value} {l : List α}
end
set_option maxRecDepth 100000
open Go Go.Proofs Go.RowKit
theorem mem_full {n : Nat} {l : List Int} (hl : l.length = n) (hin : ∀ p ∈ l, 0 ≤ p ∧ p < (n : Int)) (hnd : l.Nodup) {q : Nat} (hq : q < n) : (q : Int) ∈ l := by
  refine Classical.byContradiction fun h => ?_
  have h1 : ((q : Int) :: l).Nodup := List.nodup_cons.2 ⟨h, hnd⟩
  have h2 : ((q : Int) :: l) ⊆ (List.range n).map (fun p : Nat => (p : Int)) := by
    intro x hx
    rcases List.mem_cons.1 hx with rfl | hx
    · exact List.mem_map.2 ⟨q, List.mem_range.2 hq, rfl⟩
    · have := hin x hx
      exact List.mem_map.2 ⟨x.toNat, List.mem_range.2 (by omega), by omega⟩
  have := List.Nodup.length_le_of_subset h1 h2
  simp at this
  omega
set_option maxRecDepth 100000
open Go Go.Proofs Go.RowKit
attribute [local go_sem] Oper.semAt_some
theorem wpStill_skip {P : Program} {ops : Array Oper} {w : World} {Q : Act → Prop} {a : Act} {o : Oper} {rest : List Oper} (hw : Region.wanted o (yielded ops a.tmps) = false) (h : wpStill P ops w Q rest (a.put o.dst undef)) : wpStill P ops w Q (o :: rest) a := by
  unfold wpStill
  rw [if_neg (by rw [hw]; simp)]
  exact h
theorem wpStill_want {P : Program} {ops : Array Oper} {w : World} {Q : Act → Prop} {a : Act} {o : Oper} {rest : List Oper} (hw : Region.wanted o (yielded ops a.tmps) = true) (h : ∀ K : Act → Prop, (∀ a, wpStill P ops w Q rest a → K a) → o.still P a w K) : wpStill P ops w Q (o :: rest) a := by
  unfold wpStill
  rw [if_pos hw]
  exact h _ (fun _ h => h)
end
section
set_option maxRecDepth 100000
open Go Go.Proofs Go.RowKit
set_option maxRecDepth 100000
open Go Go.Proofs Go.RowKit
theorem near_fold_eq {W : Web} {dry : Int} {p : Nat} : ∀ (qs : List Int) (out : List Int), p < out.length → (∀ q ∈ qs, q.toNat ≠ p) →
    (qs.foldl (dayNear W dry p) out).getD p 0 = out.getD p 0 ∨ ∃ q ∈ qs, hasS (W.near p) q.toNat = true ∧ (qs.foldl (dayNear W dry p) out).getD p 0 = out.getD q.toNat 0 + dry + 1
  | [], out, _, _ => .inl rfl
  | q :: qs, out, h, hne => by
    have hq := hne q (List.mem_cons_self ..)
    have hne' := fun r hr => hne r (List.mem_cons_of_mem _ hr)
    rcases near_fold_eq (W := W) (dry := dry) (p := p) qs (dayNear W dry p out q) (by rw [dayNear_length]; exact h) hne' with h1 | ⟨r, hr, hn, h1⟩
    · rw [List.foldl_cons, h1]
      unfold dayNear
      by_cases hh : hasS (W.near p) q.toNat = true
      · rw [if_pos hh, getD_set_same h]
        rcases Int.le_total (out.getD p 0) (out.getD q.toNat 0 + dry + 1) with h2 | h2
        · exact .inr ⟨q, List.mem_cons_self .., hh, Int.max_eq_right h2⟩
        · exact .inl (Int.max_eq_left h2)
      · rw [if_neg hh]; exact .inl rfl
    · refine .inr ⟨r, List.mem_cons_of_mem _ hr, hn, ?_⟩
      rw [List.foldl_cons, h1, dayNear_other (Ne.symm (hne' r hr))]
section
variable {W : Web} {dry : Int} {l : List Int}
/-- A day is the day behind the one before, or that at which a neighbour is dry. -/
theorem days_why (hin : ∀ p ∈ l, 0 ≤ p ∧ p < (W.n : Int)) (hnd : l.Nodup) {i : Nat} (h0 : 0 < i) (h : i < l.length) :
    (daysOf W dry l).getD (l.getD i 0).toNat 0 = (daysOf W dry l).getD (l.getD (i - 1) 0).toNat 0 + 1 ∨
    ∃ q, q < W.n ∧ hasS (W.near (l.getD i 0).toNat) q = true ∧ (daysOf W dry l).getD (l.getD i 0).toNat 0 = (daysOf W dry l).getD q 0 + dry + 1 := by
  unfold daysOf
  obtain ⟨p, hp, hpn, hp'⟩ := getD_nat (W := W) hin h
  have hlen := daysPart_length W dry l i
  have stay : ∀ j, (hj : j < i) → (daysPart W dry l l.length).getD (l.getD j 0).toNat 0 = (daysPart W dry l i).getD (l.getD j 0).toNat 0 := fun j hj => by
    rw [daysPart_stays hin hnd (show j < l.length by omega) l.length (by omega) (Nat.le_refl _), daysPart_stays hin hnd (show j < l.length by omega) i hj (by omega)]
  rw [daysPart_stays hin hnd h l.length h (Nat.le_refl _), stay (i - 1) (by omega), daysPart_succ W dry l i]
  unfold dayStep
  have e : (l.getD i 0).toNat = p := by rw [hp]; rfl
  rw [e]
  have hfl : (dayFirst l i (daysPart W dry l i)).length = W.n := by unfold dayFirst; split <;> simp [hlen]
  have hne : ∀ q ∈ l.take i, q.toNat ≠ p := by
    intro q hq
    obtain ⟨j, hj, hjq⟩ := List.getElem_of_mem hq
    have hji : j < i := by simp at hj; omega
    rw [List.getElem_take] at hjq
    intro e2
    have hq0 := hin q (List.mem_of_mem_take hq)
    have : l[j] = l[i] := by rw [hjq, hp']; omega
    have := (List.getElem_inj hnd).1 this
    omega
  have hfirst : ∀ x, x ≠ p → (dayFirst l i (daysPart W dry l i)).getD x 0 = (daysPart W dry l i).getD x 0 := fun x hx => by
    unfold dayFirst; rw [if_pos h0, e]; exact getD_set_other (Ne.symm hx) _ _
  rcases near_fold_eq (W := W) (dry := dry) (p := p) (l.take i) (dayFirst l i (daysPart W dry l i)) (by rw [hfl]; exact hpn) hne with h1 | ⟨q, hq, hn, h1⟩
  · refine .inl ?_
    rw [h1]
    unfold dayFirst
    rw [if_pos h0, e, getD_set_same (by rw [hlen]; exact hpn)]
  · refine .inr ⟨q.toNat, ?_, hn, ?_⟩
    · have := hin q (List.mem_of_mem_take hq); omega
    · rw [h1, hfirst _ (hne q hq)]
      obtain ⟨j, hj, hjq⟩ := List.getElem_of_mem hq
      have hji : j < i := by simp at hj; omega
      rw [List.getElem_take] at hjq
      have e2 : l.getD j 0 = q := by rw [List.getD_eq_getElem?_getD, List.getElem?_eq_getElem (show j < l.length by omega)]; exact hjq
      have := stay j hji
      rw [e2] at this
      rw [this]
end
set_option maxRecDepth 100000
open Go Go.Proofs Go.RowKit
section
variable {W : Web} {a : Nat}
theorem inter_of {s t : S} {q : Nat} (h1 : hasS s q = true) (h2 : hasS t q = true) : ¬ (s &&& t = 0#32) := fun h => by
  have : hasS (s &&& t) q = true := by rw [hasS_and, h1, h2]; rfl
  rw [h, hasS_zero] at this
  cases this
end
set_option maxRecDepth 100000
open Go Go.Proofs Go.RowKit
section
variable {W : Web} {a : Nat}
end
set_option maxRecDepth 100000
open Go Go.Proofs Go.RowKit
section
variable {W : Web}
theorem orderedB_iff {l : List Int} : orderedB W l = true ↔ l.length = W.n ∧ (∀ p ∈ l, 0 ≤ p ∧ p < (W.n : Int)) ∧ l.Nodup ∧ ∀ i, i < l.length → W.to (l.getD i 0).toNat &&& setS (l.take i) = 0#32 := by
  unfold orderedB eachB
  simp only [Bool.and_eq_true, decide_eq_true_eq, List.all_eq_true, List.mem_range, beq_iff_eq]
  exact ⟨fun h => ⟨h.1.1, h.1.2.1, h.1.2.2, h.2⟩, fun h => ⟨⟨h.1, h.2.1, h.2.2.1⟩, h.2.2.2⟩⟩
theorem ordered_fwd (hn : W.n ≤ 24) {l : List Int} (h : orderedB W l = true) (hirr : ∀ p, p < W.n → hasS (W.to p) p = false) {i j : Nat} (hi : i < l.length) (hj : j < l.length) (ha : hasS (W.to (l.getD i 0).toNat) (l.getD j 0).toNat = true) : i < j := by
  obtain ⟨h1, h2, h3, h4⟩ := orderedB_iff.1 h
  have hg : ∀ k, (hk : k < l.length) → l.getD k 0 = l[k] := fun k hk => by rw [List.getD_eq_getElem?_getD, List.getElem?_eq_getElem hk]; rfl
  refine Nat.lt_of_not_le fun hle => ?_
  have hpi := h2 _ (List.getElem_mem hi)
  have hpj := h2 _ (List.getElem_mem hj)
  rcases Nat.lt_or_eq_of_le hle with hlt | rfl
  · refine inter_of ha ?_ (h4 i hi)
    rw [hasS_setS _ (fun p hp => by have := h2 p (List.mem_of_mem_take hp); omega)]
    rw [hg j hj]
    refine decide_eq_true ?_
    rw [Int.toNat_of_nonneg hpj.1]
    exact List.mem_take_iff_getElem.2 ⟨j, by omega, rfl⟩
  · rw [hg j hi] at ha
    rw [hirr _ (by omega)] at ha
    cases ha
end
theorem toS_has (l : List (Int × Int)) (hl : ∀ x ∈ l, 0 ≤ x.2 ∧ x.2 < 32) (a b : Nat) : hasS (toS l a) b = true ↔ ∃ x ∈ l, x.1.toNat = a ∧ x.2.toNat = b := by
  have key : ∀ (l : List (Int × Int)) (f : Nat → S), (∀ x ∈ l, 0 ≤ x.2 ∧ x.2 < 32) → (hasS (l.foldl stepTo f a) b = true ↔ hasS (f a) b = true ∨ ∃ x ∈ l, x.1.toNat = a ∧ x.2.toNat = b) := by
    intro l
    induction l with
    | nil => intro f _; simp
    | cons x l ih =>
      intro f h
      have hx := h x (by simp)
      rw [List.foldl_cons, ih _ (fun y hy => h y (by simp [hy]))]
      have e : hasS (stepTo f x a) b = true ↔ hasS (f a) b = true ∨ (x.1.toNat = a ∧ x.2.toNat = b) := by
        unfold stepTo upd
        by_cases h1 : a = x.1.toNat
        · subst h1
          rw [if_pos rfl, hasS_or, hasS_one _ _ (by omega)]
          simp only [Bool.or_eq_true, decide_eq_true_eq]
          exact ⟨fun h => h.imp id (fun h => ⟨by trivial, h.symm⟩), fun h => h.imp id (fun h => h.2.symm)⟩
        · rw [if_neg h1]
          exact ⟨.inl, fun h => h.elim id (fun h => absurd h.1.symm h1)⟩
      rw [e]
      simp only [List.mem_cons, exists_eq_or_imp]
      exact or_assoc
  have := key l (fun _ => 0#32) hl
  simpa [toS] using this
theorem webOf_irr {o : Prob} (h : chk o = 0) (p : Nat) : hasS ((webOf o).to p) p = false := by
  obtain ⟨_, h2, h3, _⟩ := pair_of_chk h
  cases hh : hasS ((webOf o).to p) p
  · rfl
  · obtain ⟨x, hx, h4, h5⟩ := (toS_has o.arcs (fun x hx => by have := h3 x hx; omega) p p).1 hh
    have := h3 x hx
    omega
end
section
set_option maxRecDepth 100000
open Go Go.Proofs Go.RowKit
theorem getD_mem {l : List Int} {i : Nat} (h : i < l.length) : l.getD i 0 = l[i] := by rw [List.getD_eq_getElem?_getD, List.getElem?_eq_getElem h]; rfl
theorem take_mem_lt {l : List Int} {i j : Nat} (hj : j < l.length) (h : j < i) : l[j] ∈ l.take i := by
  have : (l.take i)[j]'(by simp; omega) = l[j] := List.getElem_take
  rw [← this]; exact List.getElem_mem _
section
variable {W : Web} {dry : Int} {l : List Int}
end
/-- Are two patches' days kept? -/
def keepB (W : Web) (dry : Int) (d : List Int) (a b : Nat) : Bool :=
  decide (a = b) || (!decide (d.getD a 0 = d.getD b 0) && !(hasS (W.to a) b && decide (d.getD b 0 < d.getD a 0)) && !(hasS (W.near a) b && decide (max (d.getD a 0 - d.getD b 0) (d.getD b 0 - d.getD a 0) ≤ dry)))
def keptB (W : Web) (dry : Int) (d : List Int) : Bool :=
  decide (d.length = W.n) && d.all (fun x => decide (0 ≤ x) && decide (x ≤ 2000)) && (List.range W.n).all fun a => (List.range W.n).all fun b => keepB W dry d a b
def CheckDaysR (o : Prob) (dry : Int) (d : List Int) : Bool × Int :=
  if chk o = 0 then (if 0 ≤ dry ∧ dry ≤ 30 then (keptB (webOf o) dry d, 0) else (false, 1)) else (false, chk o)
theorem keptB_len {W : Web} {dry : Int} {d : List Int} (h : d.length ≠ W.n) : keptB W dry d = false := by
  unfold keptB; rw [decide_eq_false h]; simp
section
variable {W : Web} {l : List Int}
end
section
variable {W : Web}
end
end
section
set_option maxRecDepth 100000
open Go Go.Proofs Go.RowKit
attribute [local go_sem] Oper.semAt_some
def outB (x : Int) : Bool := decide (x < 0) || decide (2000 < x)
theorem outB_false {x : Int} (h : outB x = false) : 0 ≤ x ∧ x ≤ 2000 := by unfold outB at h; simp at h; omega
set_option maxHeartbeats 400000 in
theorem outB_any (x : Int) (w : World) : Calls Try.prog 46 #[.int .i64 x] w (Tells (.bool (outB x)) w) := by
  go_enter Try.func46, Try.ntmps46
  go_wp2
  all_goals (go_ret; exact ⟨ret_bool (by unfold outB; first | rfl | (rw [Bool.eq_iff_iff]; simp <;> omega)), rfl⟩)
def IdxI (p : Int → Bool) (l : List Int) (w : World) (e : Ending) (w' : World) : Prop := ∃ i : Int, e = .returned (.int .i64 i) ∧ decide (0 ≤ i) = l.any p ∧ w = w'
theorem any_take_next {p : Int → Bool} {l : List Int} {k : Nat} (hk : k < l.length) (h : (l.take k).any p = false) : (l.take (k + 1)).any p = p l[k] := by
  rw [List.take_succ_eq_append_getElem hk, List.any_append, h]; simp
set_option maxHeartbeats 400000 in
theorem indexOut_any (l : List Int) (lo : Option Addr) (c : Nat) (w : World) (hl : Ints w lo l) (hll : l.length < 1152921504606846976) :
    Calls Try.prog 63 #[.slice lo l.length c, .func (.func 46) #[] #[]] w (IdxI outB l w) := by
  have HL := Lib.hid hl
  clear hl
  go_enter Try.func63, Try.ntmps63
  go_wp2
  go_loop [8] (fun i => ∃ k : Nat, k ≤ l.length ∧ i = .int .i64 k ∧ (l.take k).any outB = false) (fun i => l.length - (intOf i).toNat)
  case atStart => exact ⟨0, Nat.zero_le _, rfl, by simp⟩
  case round =>
    obtain ⟨k, hk, rfl, hn⟩ := hrel
    have HN := Lib.hid hn
    clear hn
    by_cases hlt : k < l.length
    · obtain ⟨B, off, rfl, hc⟩ := HL.out k hlt
      have HS : Hid ((l.take (k + 1)).any outB = outB l[k]) := Lib.hid (any_take_next hlt HN.out)
      have HY : Hid (outB l[k] = true → l.any outB = true) := Lib.hid fun h => List.any_eq_true.2 ⟨_, List.getElem_mem hlt, h⟩
      generalize l[k] = x at *
      go_wp2_with fail
      refine (outB_any x w).mono ?_
      rintro e w1 ⟨rfl, rfl⟩
      cases hb : outB x
      · have HS2 := Lib.hid (HS.out.trans hb)
        clear hb
        go_wp2
        go_round
        case measure => simp [intOf] <;> omega
        case rel => exact ⟨k + 1, by omega, by go_num, HS2.out⟩
      · have HY2 := Lib.hid (HY.out hb)
        clear hb
        go_wp2
        go_ret
        exact ⟨_, rfl, by rw [HY2.out]; simp, rfl⟩
    · have hk2 : k = l.length := by omega
      have HX : Hid (l.any outB = false) := Lib.hid (by have := HN.out; rw [hk2, List.take_length] at this; exact this)
      clear hk2
      go_wp2
      go_ret
      exact ⟨_, rfl, by rw [HX.out]; rfl, rfl⟩
set_option maxHeartbeats 400000 in
theorem containsOut_any (l : List Int) (lo : Option Addr) (c : Nat) (w : World) (hl : Ints w lo l) (hll : l.length < 1152921504606846976) :
    Calls Try.prog 45 #[.slice lo l.length c, .func (.func 46) #[] #[]] w (Tells (.bool (l.any outB)) w) := by
  have HL := Lib.hid hl
  clear hl
  go_enter Try.func45, Try.ntmps45
  go_wp2_with fail
  refine (indexOut_any l lo c w HL.out hll).mono ?_
  rintro e w1 ⟨i, rfl, hi, rfl⟩
  have HI := Lib.hid hi
  clear hi
  go_wp2
  go_ret
  exact ⟨ret_bool (by have := HI.out; simpa using this), rfl⟩
theorem keepB_same {W : Web} {dry : Int} {d : List Int} (a : Nat) : keepB W dry d a a = true := by unfold keepB; simp
theorem keepB_iff {W : Web} {dry : Int} {d : List Int} {a b : Nat} (h : a ≠ b) {x y : Int} (hx : d.getD a 0 = x) (hy : d.getD b 0 = y) : keepB W dry d a b = true ↔ x ≠ y ∧ ¬ (hasS (W.to a) b = true ∧ y < x) ∧ ¬ (hasS (W.near a) b = true ∧ max (x - y) (y - x) ≤ dry) := by
  unfold keepB
  rw [hx, hy]
  simp [h]
  cases hasS (W.to a) b <;> cases hasS (W.near a) b <;> simp <;> omega
theorem keptB_iff {W : Web} {dry : Int} {d : List Int} : keptB W dry d = true ↔ d.length = W.n ∧ (∀ a, a < d.length → outB (d.getD a 0) = false) ∧ ∀ a b, a < W.n → b < W.n → keepB W dry d a b = true := by
  unfold keptB
  simp only [Bool.and_eq_true, decide_eq_true_eq, List.all_eq_true, List.mem_range, and_assoc]
  refine and_congr Iff.rfl (and_congr ⟨fun h a ha => ?_, fun h x hx => ?_⟩ ⟨fun h a b ha hb => h a ha b hb, fun h a ha b hb => h a b ha hb⟩)
  · have := h _ (List.getElem_mem ha)
    rw [getD_mem ha]
    unfold outB; simp; omega
  · obtain ⟨i, hi, rfl⟩ := List.getElem_of_mem hx
    have := outB_false (h i hi ▸ rfl : outB (d.getD i 0) = false)
    rw [getD_mem hi] at this
    exact this
theorem any_out {d : List Int} : d.any outB = false ↔ ∀ a, a < d.length → outB (d.getD a 0) = false := by
  rw [List.any_eq_false]
  constructor
  · intro h a ha
    rw [getD_mem ha]
    simpa using h _ (List.getElem_mem ha)
  · intro h x hx
    obtain ⟨i, hi, rfl⟩ := List.getElem_of_mem hx
    have := h i hi
    rw [getD_mem hi] at this
    simp [this]
set_option maxHeartbeats 4000000 in
theorem CheckDays_any (o : Prob) (ao bo : Option Addr) (ca cb : Nat) (dry : Int) (d : List Int) (lo : Option Addr) (c : Nat) (w : World) (ho : IsProb w o ao bo) (hl : Ints w lo d) (hll : d.length < 1152921504606846976) :
    Calls Try.prog 17 #[probV o ao ca bo cb, .int .i64 dry, .slice lo d.length c] w (Gives (.tuple #[.bool (CheckDaysR o dry d).1, .int .i64 (CheckDaysR o dry d).2]) w) := by
  have HO := Lib.hid ho
  have HL := Lib.hid hl
  clear ho hl
  obtain ⟨r, hr⟩ : ∃ x, (CheckDaysR o dry d).1 = x := ⟨_, rfl⟩
  obtain ⟨re, hre⟩ : ∃ x, (CheckDaysR o dry d).2 = x := ⟨_, rfl⟩
  rw [hr, hre]
  have HR := Lib.hid hr
  have HRE := Lib.hid hre
  clear hr hre
  by_cases hc : chk o = 0
  · have HC := Lib.hid hc
    have h24 := webOf_n hc
    clear hc
    go_enter Try.func17, Try.ntmps17
    go_wp2_with fail
    obtain ⟨w0, e0, hk0, hb0, -⟩ := alloc_prob w o.N o.arcs o.near ao ca bo cb
    rw [e0]
    clear e0
    have HK0 := Lib.hid hk0
    clear hk0
    obtain ⟨q0, q1, q2⟩ := hb0
    have qb := lt_of_cell q0
    go_wp2_with fail
    clear q0 q1 q2 qb
    refine (open_ok o ao bo ca cb w0 (HO.out.kept HK0.out) HC.out).mono ?_
    rintro e w1 ⟨b0, rfl, hw1, hk1⟩
    have HW1 := Lib.hid hw1
    have HK1 := Lib.hid (HK0.out.trans hk1)
    clear hw1 hk1
    go_wp2_with fail
    refine (isDry_any dry w1).mono ?_
    rintro e w2 ⟨rfl, rfl⟩
    cases hd : (decide (0 ≤ dry) && decide (dry ≤ 30))
    · have HX : Hid (false = r ∧ 1 = re) := Lib.hid (by
        rw [← HR.out, ← HRE.out]; unfold CheckDaysR; rw [if_pos HC.out, if_neg (fun h => by simp at hd; omega)]; exact ⟨rfl, rfl⟩)
      clear hd
      go_wp2
      go_ret2
      rw [← HX.out.1, ← HX.out.2]
      exact ⟨rfl, HK1.out⟩
    · have HX : Hid (keptB (webOf o) dry d = r ∧ 0 = re) := Lib.hid (by
        rw [← HR.out, ← HRE.out]; unfold CheckDaysR; rw [if_pos HC.out, if_pos (by simp at hd; exact hd)]; exact ⟨rfl, rfl⟩)
      have HDRY : Hid (0 ≤ dry ∧ dry ≤ 30) := Lib.hid (by simp at hd; exact hd)
      clear hd
      have HIR : Hid (∀ p, hasS ((webOf o).to p) p = false) := Lib.hid (fun p => webOf_irr HC.out p)
      generalize webOf o = W at *
      have hn0 := HW1.out.n
      by_cases hlen : d.length = W.n
      · have hne : ((d.length : Int) != (W.n : Int)) = false := by simp [hlen]
        have HLEN := Lib.hid hlen
        clear hlen
        go_wp2_with fail
        refine (containsOut_any d lo c w1 (HL.out.kept HK1.out) hll).mono ?_
        rintro e w2 ⟨rfl, rfl⟩
        cases ho : d.any outB
        · have hr0 := any_out.1 ho
          have HRG : Hid (∀ a, a < d.length → outB (d.getD a 0) = false) := Lib.hid hr0
          clear ho hr0 hne
          go_wp2
          clear hn0
          go_loopw [39] (fun i wr => ∃ a : Nat, a ≤ W.n ∧ i = .int .i64 a ∧ (∀ x y, x < a → y < W.n → keepB W dry d x y = true) ∧ Kept w1 wr) (fun i _ => W.n - (intOf i).toNat)
          case atStart => exact ⟨0, Nat.zero_le _, rfl, fun x y h => by omega, Kept.refl _⟩
          case round =>
            obtain ⟨a, ha, rfl, hdone, hkw⟩ := hrel
            have HDN := Lib.hid hdone
            have HKW := Lib.hid hkw
            have hn0 := (HW1.out.kept hkw).n
            clear hdone hkw
            by_cases halt : a < W.n
            · go_wp2
              clear hn0
              go_loopw [46] (fun i wr => ∃ b : Nat, b ≤ W.n ∧ i = .int .i64 b ∧ (∀ y, y < b → keepB W dry d a y = true) ∧ Kept w1 wr) (fun i _ => W.n - (intOf i).toNat)
              case atStart => exact ⟨0, Nat.zero_le _, rfl, fun y h => by omega, HKW.out⟩
              case round =>
                clear HKW
                obtain ⟨b, hb, rfl, hrow, hkw⟩ := hrel
                have HRO := Lib.hid hrow
                have HKW := Lib.hid hkw
                have hn0 := (HW1.out.kept hkw).n
                have hto := (HW1.out.kept hkw).to a (by omega)
                have hnr := (HW1.out.kept hkw).near a (by omega)
                clear hrow hkw
                by_cases hblt : b < W.n
                · have had : a < d.length := by have := HLEN.out; omega
                  have hbd : b < d.length := by have := HLEN.out; omega
                  obtain ⟨B, off, rfl, hca⟩ := (HL.out.kept (HK1.out.trans HKW.out)) a had
                  obtain ⟨B', off', e', hcb⟩ := (HL.out.kept (HK1.out.trans HKW.out)) b hbd
                  simp only [Option.some.injEq, Addr.mk.injEq] at e'
                  obtain ⟨rfl, rfl, -⟩ := e'
                  have rx := outB_false (HRG.out a had)
                  have ry := outB_false (HRG.out b hbd)
                  rw [getD_mem had] at rx
                  rw [getD_mem hbd] at ry
                  have HKI : Hid (∀ (hab : a ≠ b), keepB W dry d a b = true ↔ d[a] ≠ d[b] ∧ ¬ (hasS (W.to a) b = true ∧ d[b] < d[a]) ∧ ¬ (hasS (W.near a) b = true ∧ max (d[a] - d[b]) (d[b] - d[a]) ≤ dry)) := Lib.hid fun hab => keepB_iff hab (getD_mem had) (getD_mem hbd)
                  have HNX : Hid (keepB W dry d a b = true → ∀ y, y < b + 1 → keepB W dry d a y = true) := Lib.hid fun h y hy => by
                    rcases Nat.lt_or_eq_of_le (Nat.lt_succ_iff.1 hy) with h2 | rfl
                    · exact HRO.out y h2
                    · exact h
                  have HNO : Hid (keepB W dry d a b ≠ true → false = r) := Lib.hid fun h => by
                    rw [← HX.out.1]
                    cases hh : keptB W dry d
                    · rfl
                    · exact absurd ((keptB_iff.1 hh).2.2 a b halt hblt) h
                  have HAB : Hid (a < W.n ∧ b < W.n) := Lib.hid ⟨halt, hblt⟩
                  by_cases hab : a = b
                  · subst hab
                    have HNX2 := Lib.hid (HNX.out (keepB_same a))
                    generalize d[a] = x at *
                    have hw1 : IntKind.i64.wrap (x - x) = 0 := by rw [Int.sub_self]; rfl
                    clear rx ry HKI
                    go_wp2
                    refine region_tail 19 (by kernel_rfl) (by kernel_rfl) ?_
                    simp only [List.take_succ_cons, List.take_zero, List.drop_succ_cons, List.drop_zero]
                    iterate 19
                      with_reducible refine wpStill_want ?_ (fun K hK => ?_)
                      · rfl
                      go_simp
                      refine hK _ ?_
                      clear hK K
                    with_reducible refine wpStill_nil ?_
                    go_wp2
                    refine region_tail 42 (by kernel_rfl) (by kernel_rfl) ?_
                    simp only [List.take_succ_cons, List.take_zero, List.drop_succ_cons, List.drop_zero]
                    iterate 4
                      with_reducible refine wpStill_want ?_ (fun K hK => ?_)
                      · rfl
                      go_simp
                      refine hK _ ?_
                      clear hK K
                    iterate 38
                      with_reducible refine wpStill_skip ?_ ?_
                      · rfl
                      simp only [Act.put, List.setIfInBounds_toArray, List.set_cons_zero, List.set_cons_succ]
                    with_reducible refine wpStill_nil ?_
                    go_wp2
                    go_roundw
                    case measure => simp [intOf] <;> omega
                    case rel => exact ⟨a + 1, by omega, by go_num, HNX2.out, HKW.out.drew.drew⟩
                  · have HAB2 := Lib.hid hab
                    generalize d[a] = x at *
                    generalize d[b] = y at *
                    have hw1 : IntKind.i64.wrap (x - y) = x - y := IntWalk.i64_in _ (by omega)
                    have hw2 : IntKind.i64.wrap (y - x) = y - x := IntWalk.i64_in _ (by omega)
                    obtain ⟨ap, hap⟩ : ∃ ap, max (x - y) (y - x) = ap := ⟨_, rfl⟩
                    have hif : (if x - y < y - x then y - x else x - y) = ap := by rw [← hap]; split <;> omega
                    have HAP := Lib.hid hap
                    have hne2 : ((a : Int) != (b : Int)) = true := by simp; omega
                    have hne3 : a ≠ b := hab
                    have HK2 := Lib.hid (HKI.out hab)
                    have hb32 : b < 32 := by omega
                    have hai : (a : Int) < 24 := by omega
                    clear hap hab HKI
                    go_wp2
                    refine region_tail 19 (by kernel_rfl) (by kernel_rfl) ?_
                    simp only [List.take_succ_cons, List.take_zero, List.drop_succ_cons, List.drop_zero]
                    iterate 19
                      with_reducible refine wpStill_want ?_ (fun K hK => ?_)
                      · rfl
                      go_simp
                      refine hK _ ?_
                      clear hK K
                    with_reducible refine wpStill_nil ?_
                    go_wp2
                    by_cases hz : ap = 0
                    · have e0 : (ap == 0) = true := by simp [hz]
                      have HN2 : Hid (false = r) := Lib.hid (HNO.out fun h => by have h2 := HK2.out.1 h; have := HAP.out; omega)
                      clear hz
                      refine region_tail 42 (by kernel_rfl) (by kernel_rfl) ?_
                      simp only [List.take_succ_cons, List.take_zero, List.drop_succ_cons, List.drop_zero]
                      iterate 7
                        with_reducible refine wpStill_want ?_ (fun K hK => ?_)
                        · rfl
                        go_simp
                        refine hK _ ?_
                        clear hK K
                      iterate 19
                        with_reducible refine wpStill_skip ?_ ?_
                        · rfl
                        simp only [Act.put, List.setIfInBounds_toArray, List.set_cons_zero, List.set_cons_succ]
                      iterate 2
                        with_reducible refine wpStill_want ?_ (fun K hK => ?_)
                        · rfl
                        go_simp
                        refine hK _ ?_
                        clear hK K
                      iterate 13
                        with_reducible refine wpStill_skip ?_ ?_
                        · rfl
                        simp only [Act.put, List.setIfInBounds_toArray, List.set_cons_zero, List.set_cons_succ]
                      iterate 1
                        with_reducible refine wpStill_want ?_ (fun K hK => ?_)
                        · rfl
                        go_simp
                        refine hK _ ?_
                        clear hK K
                      with_reducible refine wpStill_nil ?_
                      go_wp2
                      go_ret2
                      rw [← HX.out.2]
                      exact ⟨by rw [← HN2.out]; rfl, ((HK1.out.trans HKW.out).drew).drew⟩
                    · have e0 : (ap == 0) = false := by simp [hz]
                      have hz2 : ap ≠ 0 := hz
                      clear hz
                      cases htt : hasS (W.to a) b
                      · have HH1 := Lib.hid htt
                        clear htt
                        cases hnn : hasS (W.near a) b
                        · have HH2 := Lib.hid hnn
                          have HY2 := Lib.hid (HNX.out (HK2.out.2 ⟨by have := HAP.out; omega, by rw [HH1.out]; simp, by rw [HH2.out]; simp⟩))
                          clear hnn
                          refine region_tail 42 (by kernel_rfl) (by kernel_rfl) ?_
                          simp only [List.take_succ_cons, List.take_zero, List.drop_succ_cons, List.drop_zero]
                          iterate 14
                            with_reducible refine wpStill_want ?_ (fun K hK => ?_)
                            · rfl
                            go_simp
                            refine hK _ ?_
                            clear hK K
                          still_call Calls_still (has_any (W.to a) b _ hb32)
                          rw [HH1.out]
                          iterate 1
                            with_reducible refine wpStill_want ?_ (fun K hK => ?_)
                            · rfl
                            go_simp
                            refine hK _ ?_
                            clear hK K
                          iterate 9
                            with_reducible refine wpStill_skip ?_ ?_
                            · rfl
                            simp only [Act.put, List.setIfInBounds_toArray, List.set_cons_zero, List.set_cons_succ]
                          iterate 3
                            with_reducible refine wpStill_want ?_ (fun K hK => ?_)
                            · rfl
                            go_simp
                            refine hK _ ?_
                            clear hK K
                          iterate 7
                            with_reducible refine wpStill_want ?_ (fun K hK => ?_)
                            · rfl
                            go_simp
                            refine hK _ ?_
                            clear hK K
                          still_call Calls_still (has_any (W.near a) b _ hb32)
                          rw [HH2.out]
                          iterate 1
                            with_reducible refine wpStill_want ?_ (fun K hK => ?_)
                            · rfl
                            go_simp
                            refine hK _ ?_
                            clear hK K
                          iterate 3
                            with_reducible refine wpStill_skip ?_ ?_
                            · rfl
                            simp only [Act.put, List.setIfInBounds_toArray, List.set_cons_zero, List.set_cons_succ]
                          iterate 2
                            with_reducible refine wpStill_want ?_ (fun K hK => ?_)
                            · rfl
                            go_simp
                            refine hK _ ?_
                            clear hK K
                          with_reducible refine wpStill_nil ?_
                          go_wp2
                          go_roundw
                          case measure => simp [intOf] <;> omega
                          case rel => exact ⟨b + 1, by omega, by go_num, HY2.out, HKW.out.drew.drew⟩
                        · have HH2 := Lib.hid hnn
                          by_cases hdr : ap ≤ dry
                          · have e9 : decide (ap ≤ dry) = true := decide_eq_true hdr
                            have HN2 : Hid (false = r) := Lib.hid (HNO.out fun h => by have h2 := HK2.out.1 h; exact h2.2.2 ⟨HH2.out, by rw [HAP.out]; exact hdr⟩)
                            clear hnn hdr
                            refine region_tail 42 (by kernel_rfl) (by kernel_rfl) ?_
                            simp only [List.take_succ_cons, List.take_zero, List.drop_succ_cons, List.drop_zero]
                            iterate 14
                              with_reducible refine wpStill_want ?_ (fun K hK => ?_)
                              · rfl
                              go_simp
                              refine hK _ ?_
                              clear hK K
                            still_call Calls_still (has_any (W.to a) b _ hb32)
                            rw [HH1.out]
                            iterate 1
                              with_reducible refine wpStill_want ?_ (fun K hK => ?_)
                              · rfl
                              go_simp
                              refine hK _ ?_
                              clear hK K
                            iterate 9
                              with_reducible refine wpStill_skip ?_ ?_
                              · rfl
                              simp only [Act.put, List.setIfInBounds_toArray, List.set_cons_zero, List.set_cons_succ]
                            iterate 3
                              with_reducible refine wpStill_want ?_ (fun K hK => ?_)
                              · rfl
                              go_simp
                              refine hK _ ?_
                              clear hK K
                            iterate 7
                              with_reducible refine wpStill_want ?_ (fun K hK => ?_)
                              · rfl
                              go_simp
                              refine hK _ ?_
                              clear hK K
                            still_call Calls_still (has_any (W.near a) b _ hb32)
                            rw [HH2.out]
                            iterate 6
                              with_reducible refine wpStill_want ?_ (fun K hK => ?_)
                              · rfl
                              go_simp
                              refine hK _ ?_
                              clear hK K
                            with_reducible refine wpStill_nil ?_
                            go_wp2
                            go_ret2
                            rw [← HX.out.2]
                            exact ⟨by rw [← HN2.out]; rfl, ((HK1.out.trans HKW.out).drew).drew⟩
                          · have e9 : decide (ap ≤ dry) = false := decide_eq_false hdr
                            have HY2 := Lib.hid (HNX.out (HK2.out.2 ⟨by have := HAP.out; omega, by rw [HH1.out]; simp, by rw [HAP.out]; exact fun h => hdr h.2⟩))
                            clear hnn hdr
                            refine region_tail 42 (by kernel_rfl) (by kernel_rfl) ?_
                            simp only [List.take_succ_cons, List.take_zero, List.drop_succ_cons, List.drop_zero]
                            iterate 14
                              with_reducible refine wpStill_want ?_ (fun K hK => ?_)
                              · rfl
                              go_simp
                              refine hK _ ?_
                              clear hK K
                            still_call Calls_still (has_any (W.to a) b _ hb32)
                            rw [HH1.out]
                            iterate 1
                              with_reducible refine wpStill_want ?_ (fun K hK => ?_)
                              · rfl
                              go_simp
                              refine hK _ ?_
                              clear hK K
                            iterate 9
                              with_reducible refine wpStill_skip ?_ ?_
                              · rfl
                              simp only [Act.put, List.setIfInBounds_toArray, List.set_cons_zero, List.set_cons_succ]
                            iterate 3
                              with_reducible refine wpStill_want ?_ (fun K hK => ?_)
                              · rfl
                              go_simp
                              refine hK _ ?_
                              clear hK K
                            iterate 7
                              with_reducible refine wpStill_want ?_ (fun K hK => ?_)
                              · rfl
                              go_simp
                              refine hK _ ?_
                              clear hK K
                            still_call Calls_still (has_any (W.near a) b _ hb32)
                            rw [HH2.out]
                            iterate 6
                              with_reducible refine wpStill_want ?_ (fun K hK => ?_)
                              · rfl
                              go_simp
                              refine hK _ ?_
                              clear hK K
                            with_reducible refine wpStill_nil ?_
                            go_wp2
                            go_roundw
                            case measure => simp [intOf] <;> omega
                            case rel => exact ⟨b + 1, by omega, by go_num, HY2.out, HKW.out.drew.drew⟩
                      · have HH1 := Lib.hid htt
                        clear htt
                        by_cases hyx : y < x
                        · have e5 : decide (y < x) = true := decide_eq_true hyx
                          have HN2 : Hid (false = r) := Lib.hid (HNO.out fun h => by have h2 := HK2.out.1 h; exact h2.2.1 ⟨HH1.out, hyx⟩)
                          clear hyx
                          refine region_tail 42 (by kernel_rfl) (by kernel_rfl) ?_
                          simp only [List.take_succ_cons, List.take_zero, List.drop_succ_cons, List.drop_zero]
                          iterate 14
                            with_reducible refine wpStill_want ?_ (fun K hK => ?_)
                            · rfl
                            go_simp
                            refine hK _ ?_
                            clear hK K
                          still_call Calls_still (has_any (W.to a) b _ hb32)
                          rw [HH1.out]
                          iterate 13
                            with_reducible refine wpStill_want ?_ (fun K hK => ?_)
                            · rfl
                            go_simp
                            refine hK _ ?_
                            clear hK K
                          iterate 13
                            with_reducible refine wpStill_skip ?_ ?_
                            · rfl
                            simp only [Act.put, List.setIfInBounds_toArray, List.set_cons_zero, List.set_cons_succ]
                          iterate 1
                            with_reducible refine wpStill_want ?_ (fun K hK => ?_)
                            · rfl
                            go_simp
                            refine hK _ ?_
                            clear hK K
                          with_reducible refine wpStill_nil ?_
                          go_wp2
                          go_ret2
                          rw [← HX.out.2]
                          exact ⟨by rw [← HN2.out]; rfl, ((HK1.out.trans HKW.out).drew).drew⟩
                        · have e5 : decide (y < x) = false := decide_eq_false hyx
                          have HYX := Lib.hid hyx
                          clear hyx
                          cases hnn : hasS (W.near a) b
                          · have HH2 := Lib.hid hnn
                            have HY2 := Lib.hid (HNX.out (HK2.out.2 ⟨by have := HAP.out; omega, fun h => HYX.out h.2, by rw [HH2.out]; simp⟩))
                            clear hnn
                            refine region_tail 42 (by kernel_rfl) (by kernel_rfl) ?_
                            simp only [List.take_succ_cons, List.take_zero, List.drop_succ_cons, List.drop_zero]
                            iterate 14
                              with_reducible refine wpStill_want ?_ (fun K hK => ?_)
                              · rfl
                              go_simp
                              refine hK _ ?_
                              clear hK K
                            still_call Calls_still (has_any (W.to a) b _ hb32)
                            rw [HH1.out]
                            iterate 13
                              with_reducible refine wpStill_want ?_ (fun K hK => ?_)
                              · rfl
                              go_simp
                              refine hK _ ?_
                              clear hK K
                            iterate 7
                              with_reducible refine wpStill_want ?_ (fun K hK => ?_)
                              · rfl
                              go_simp
                              refine hK _ ?_
                              clear hK K
                            still_call Calls_still (has_any (W.near a) b _ hb32)
                            rw [HH2.out]
                            iterate 1
                              with_reducible refine wpStill_want ?_ (fun K hK => ?_)
                              · rfl
                              go_simp
                              refine hK _ ?_
                              clear hK K
                            iterate 3
                              with_reducible refine wpStill_skip ?_ ?_
                              · rfl
                              simp only [Act.put, List.setIfInBounds_toArray, List.set_cons_zero, List.set_cons_succ]
                            iterate 2
                              with_reducible refine wpStill_want ?_ (fun K hK => ?_)
                              · rfl
                              go_simp
                              refine hK _ ?_
                              clear hK K
                            with_reducible refine wpStill_nil ?_
                            go_wp2
                            go_roundw
                            case measure => simp [intOf] <;> omega
                            case rel => exact ⟨b + 1, by omega, by go_num, HY2.out, HKW.out.drew.drew⟩
                          · have HH2 := Lib.hid hnn
                            by_cases hdr : ap ≤ dry
                            · have e9 : decide (ap ≤ dry) = true := decide_eq_true hdr
                              have HN2 : Hid (false = r) := Lib.hid (HNO.out fun h => by have h2 := HK2.out.1 h; exact h2.2.2 ⟨HH2.out, by rw [HAP.out]; exact hdr⟩)
                              clear hnn hdr
                              refine region_tail 42 (by kernel_rfl) (by kernel_rfl) ?_
                              simp only [List.take_succ_cons, List.take_zero, List.drop_succ_cons, List.drop_zero]
                              iterate 14
                                with_reducible refine wpStill_want ?_ (fun K hK => ?_)
                                · rfl
                                go_simp
                                refine hK _ ?_
                                clear hK K
                              still_call Calls_still (has_any (W.to a) b _ hb32)
                              rw [HH1.out]
                              iterate 13
                                with_reducible refine wpStill_want ?_ (fun K hK => ?_)
                                · rfl
                                go_simp
                                refine hK _ ?_
                                clear hK K
                              iterate 7
                                with_reducible refine wpStill_want ?_ (fun K hK => ?_)
                                · rfl
                                go_simp
                                refine hK _ ?_
                                clear hK K
                              still_call Calls_still (has_any (W.near a) b _ hb32)
                              rw [HH2.out]
                              iterate 6
                                with_reducible refine wpStill_want ?_ (fun K hK => ?_)
                                · rfl
                                go_simp
                                refine hK _ ?_
                                clear hK K
                              with_reducible refine wpStill_nil ?_
                              go_wp2
                              go_ret2
                              rw [← HX.out.2]
                              exact ⟨by rw [← HN2.out]; rfl, ((HK1.out.trans HKW.out).drew).drew⟩
                            · have e9 : decide (ap ≤ dry) = false := decide_eq_false hdr
                              have HY2 := Lib.hid (HNX.out (HK2.out.2 ⟨by have := HAP.out; omega, fun h => HYX.out h.2, by rw [HAP.out]; exact fun h => hdr h.2⟩))
                              clear hnn hdr
                              refine region_tail 42 (by kernel_rfl) (by kernel_rfl) ?_
                              simp only [List.take_succ_cons, List.take_zero, List.drop_succ_cons, List.drop_zero]
                              iterate 14
                                with_reducible refine wpStill_want ?_ (fun K hK => ?_)
                                · rfl
                                go_simp
                                refine hK _ ?_
                                clear hK K
                              still_call Calls_still (has_any (W.to a) b _ hb32)
                              rw [HH1.out]
                              iterate 13
                                with_reducible refine wpStill_want ?_ (fun K hK => ?_)
                                · rfl
                                go_simp
                                refine hK _ ?_
                                clear hK K
                              iterate 7
                                with_reducible refine wpStill_want ?_ (fun K hK => ?_)
                                · rfl
                                go_simp
                                refine hK _ ?_
                                clear hK K
                              still_call Calls_still (has_any (W.near a) b _ hb32)
                              rw [HH2.out]
                              iterate 6
                                with_reducible refine wpStill_want ?_ (fun K hK => ?_)
                                · rfl
                                go_simp
                                refine hK _ ?_
                                clear hK K
                              with_reducible refine wpStill_nil ?_
                              go_wp2
                              go_roundw
                              case measure => simp [intOf] <;> omega
                              case rel => exact ⟨b + 1, by omega, by go_num, HY2.out, HKW.out.drew.drew⟩
                · obtain rfl : b = W.n := by omega
                  have HNX2 : Hid (∀ x y, x < a + 1 → y < W.n → keepB W dry d x y = true) := Lib.hid fun x y hx hy => by
                    rcases Nat.lt_or_eq_of_le (Nat.lt_succ_iff.1 hx) with h2 | rfl
                    · exact HDN.out x y h2 hy
                    · exact HRO.out y hy
                  clear hblt hb
                  go_wp2
                  go_roundw
                  case measure => simp [intOf] <;> omega
                  case rel => exact ⟨a + 1, by omega, by go_num, HNX2.out, HKW.out⟩
            · obtain rfl : a = W.n := by omega
              have HT : Hid (true = r) := Lib.hid (by rw [← HX.out.1]; exact (keptB_iff.2 ⟨HLEN.out, HRG.out, fun x y hx hy => HDN.out x y hx hy⟩).symm)
              clear halt ha
              go_wp2
              go_ret2
              rw [← HX.out.2, ← HT.out]
              exact ⟨rfl, HK1.out.trans HKW.out⟩
        · have HT : Hid (false = r) := Lib.hid (by
            rw [← HX.out.1]
            cases hh : keptB W dry d
            · rfl
            · have := any_out.2 (keptB_iff.1 hh).2.1
              rw [ho] at this; cases this)
          clear ho hne
          go_wp2
          go_ret2
          rw [← HX.out.2, ← HT.out]
          exact ⟨rfl, HK1.out⟩
      · have hne : ((d.length : Int) != (W.n : Int)) = true := by simp; omega
        have HT : Hid (false = r) := Lib.hid (by rw [← HX.out.1]; exact (keptB_len hlen).symm)
        clear hlen
        go_wp2
        go_ret2
        rw [← HX.out.2, ← HT.out]
        exact ⟨rfl, HK1.out⟩
  · have HX : Hid (false = r ∧ chk o = re) := Lib.hid (by rw [← HR.out, ← HRE.out]; unfold CheckDaysR; rw [if_neg hc]; exact ⟨rfl, rfl⟩)
    have H := Lib.hid hc
    have hb : (chk o != 0) = true := by simp [hc]
    clear hc
    go_enter Try.func17, Try.ntmps17
    go_wp2_with fail
    obtain ⟨w0, e0, hk0, hb0, -⟩ := alloc_prob w o.N o.arcs o.near ao ca bo cb
    rw [e0]
    clear e0
    have HK0 := Lib.hid hk0
    clear hk0
    obtain ⟨q0, q1, q2⟩ := hb0
    have qb := lt_of_cell q0
    go_wp2_with fail
    clear q0 q1 q2 qb
    refine (open_bad o ao bo ca cb w0 (HO.out.kept HK0.out) H.out).mono ?_
    rintro e w1 ⟨rfl, hk1⟩
    have HK1 := Lib.hid (HK0.out.trans hk1)
    clear hk1
    go_wp2
    go_ret2
    rw [← HX.out.1, ← HX.out.2]
    exact ⟨rfl, HK1.out⟩
end
end Go.Proofs.Ytgmodcipbklejaa
