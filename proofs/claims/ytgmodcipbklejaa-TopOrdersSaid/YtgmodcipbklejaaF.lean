/- reading's web in memory; put, parted, agrees. -/
import Derived.Test.YtgmodcipbklejaaG
set_option maxRecDepth 100000
namespace Go.Proofs.Ytgmodcipbklejaa
open Go Go.Proofs Go.RowKit
attribute [local go_sem] Oper.semAt_some

/-- Is the cell number k of the web as it is made 0, or false? -/
def zOk : Nat → List Value → Bool
  | _, [] => true
  | k, v :: r => (match v with | .int .i64 n => decide (n = 0) && Nat.blt k 1876 | .bool b => !b && Nat.ble 1876 k | _ => false) && zOk (k + 1) r
theorem zero83 : zOk 0 Try.zeroCells83.toList = true := by kernel_rfl
theorem zOk_get : ∀ (l : List Value) (k i : Nat), zOk k l = true → i < l.length → l[i]? = some (if k + i < 1876 then .int .i64 0 else .bool false)
  | [], _, _, _, h => by simp at h
  | v :: r, k, 0, h, _ => by
    unfold zOk at h
    rw [Bool.and_eq_true] at h
    obtain ⟨h, -⟩ := h
    rw [List.getElem?_cons_zero]
    split at h
    · simp at h
      rw [if_pos (by omega), h.1]
    · simp at h
      rw [if_neg (by omega), h.1]
    · cases h
  | v :: r, k, i + 1, h, hi => by
    unfold zOk at h
    rw [Bool.and_eq_true] at h
    have := zOk_get r (k + 1) i h.2 (by simpa using hi)
    rw [List.getElem?_cons_succ, this, Nat.add_right_comm, Nat.add_assoc]
theorem zero83_get (n : Int) (i : Nat) (h0 : 0 < i) (hi : i < 3126) : (Try.zeroCells83.setIfInBounds 0 (.int .i64 n))[i]? = some (if i < 1876 then .int .i64 0 else .bool false) := by
  have hs := Try.zeroCells83_size
  rw [Array.getElem?_setIfInBounds, if_neg (by omega)]
  have := zOk_get Try.zeroCells83.toList 0 i zero83 (by simpa [hs] using hi)
  rw [Nat.zero_add] at this
  simpa using this

/-- A number for each two things, one of them turned. -/
def upd2 {α : Type} (f : Nat → Nat → α) (a b : Nat) (v : α) : Nat → Nat → α := fun x y => if x = a ∧ y = b then v else f x y
theorem upd2_val {α : Type} {F : α → Value} {f : Nat → Nat → α} {a b x y B : Nat} {v : α} (hb : b < 25) (hy : y < 25) : (if B + x * 25 + y = B + a * 25 + b then F v else F (f x y)) = F (upd2 f a b v x y) := by
  unfold upd2
  by_cases e : x = a ∧ y = b
  · rw [if_pos (by omega), if_pos e]
  · rw [if_neg (by omega), if_neg e]
/-- Block g is a web: who is over whom, who is reached (by ObSame), who is before whom; same and apart are empty. -/
structure RBox (X : World) (g : Nat) (n : Int) (ov : Nat → Nat → Int) (re st : Nat → Nat → Bool) : Prop where
  n : X.cell? ⟨g, 0, none⟩ = some (.int .i64 n)
  ov : ∀ a b, a < 25 → b < 25 → X.cell? ⟨g, 1 + a * 25 + b, none⟩ = some (.int .i64 (ov a b))
  sa : ∀ a b, a < 25 → b < 25 → X.cell? ⟨g, 626 + a * 25 + b, none⟩ = some (.int .i64 0)
  ap : ∀ a b, a < 25 → b < 25 → X.cell? ⟨g, 1251 + a * 25 + b, none⟩ = some (.int .i64 0)
  re : ∀ a b, a < 25 → b < 25 → X.cell? ⟨g, 1876 + a * 25 + b, none⟩ = some (.bool (re a b))
  st : ∀ a b, a < 25 → b < 25 → X.cell? ⟨g, 2501 + a * 25 + b, none⟩ = some (.bool (st a b))
  free : ∀ o, X.frozen? ⟨g, o, none⟩ = false
section
variable {X Y : World} {g : Nat} {n : Int} {ov : Nat → Nat → Int} {re st : Nat → Nat → Bool}
theorem RBox.kept (h : RBox X g n ov re st) (hk : Kept X Y) : RBox Y g n ov re st :=
  ⟨hk.cell h.n, fun a b ha hb => hk.cell (h.ov a b ha hb), fun a b ha hb => hk.cell (h.sa a b ha hb), fun a b ha hb => hk.cell (h.ap a b ha hb), fun a b ha hb => hk.cell (h.re a b ha hb), fun a b ha hb => hk.cell (h.st a b ha hb),
   fun o => (hk.cells.2 g o (lt_of_cell h.n)).trans (h.free o)⟩
theorem RBox.lt (h : RBox X g n ov re st) : g < X.heap.size := lt_of_cell h.n
theorem RBox.setOv (h : RBox X g n ov re st) {a b : Nat} (ha : a < 25) (hb : b < 25) (v : Int) : RBox (X.setCell ⟨g, 1 + a * 25 + b, none⟩ (.int .i64 v)) g n (upd2 ov a b v) re st :=
  ⟨cell_set_off h.n (by omega), fun x y hx hy => by rw [cell_set_or (h.ov x y hx hy), upd2_val (F := .int .i64) hb hy],
   fun x y hx hy => cell_set_off (h.sa x y hx hy) (by omega), fun x y hx hy => cell_set_off (h.ap x y hx hy) (by omega), fun x y hx hy => cell_set_off (h.re x y hx hy) (by omega), fun x y hx hy => cell_set_off (h.st x y hx hy) (by omega),
   fun o => by rw [World.frozen?_setCell]; exact h.free o⟩
theorem RBox.setRe (h : RBox X g n ov re st) {a b : Nat} (ha : a < 25) (hb : b < 25) (v : Bool) : RBox (X.setCell ⟨g, 1876 + a * 25 + b, none⟩ (.bool v)) g n ov (upd2 re a b v) st :=
  ⟨cell_set_off h.n (by omega), fun x y hx hy => cell_set_off (h.ov x y hx hy) (by omega),
   fun x y hx hy => cell_set_off (h.sa x y hx hy) (by omega), fun x y hx hy => cell_set_off (h.ap x y hx hy) (by omega), fun x y hx hy => by rw [cell_set_or (h.re x y hx hy), upd2_val (F := .bool) hb hy],
   fun x y hx hy => cell_set_off (h.st x y hx hy) (by omega), fun o => by rw [World.frozen?_setCell]; exact h.free o⟩
theorem RBox.setSt (h : RBox X g n ov re st) {a b : Nat} (ha : a < 25) (hb : b < 25) (v : Bool) : RBox (X.setCell ⟨g, 2501 + a * 25 + b, none⟩ (.bool v)) g n ov re (upd2 st a b v) :=
  ⟨cell_set_off h.n (by omega), fun x y hx hy => cell_set_off (h.ov x y hx hy) (by omega),
   fun x y hx hy => cell_set_off (h.sa x y hx hy) (by omega), fun x y hx hy => cell_set_off (h.ap x y hx hy) (by omega), fun x y hx hy => cell_set_off (h.re x y hx hy) (by omega),
   fun x y hx hy => by rw [cell_set_or (h.st x y hx hy), upd2_val (F := .bool) hb hy], fun o => by rw [World.frozen?_setCell]; exact h.free o⟩
end
theorem alloc_rweb (w : World) (n : Int) : ∃ w0, w.alloc (.cells (Try.zeroCells83.setIfInBounds 0 (.int .i64 n)) 83) = w0 ∧ Kept w w0 ∧ w.heap.size < w0.heap.size ∧ RBox w0 w.heap.size n (fun _ _ => 0) (fun _ _ => false) (fun _ _ => false) := by
  have hh : (w.alloc (.cells (Try.zeroCells83.setIfInBounds 0 (.int .i64 n)) 83)).heap[w.heap.size]? = some (.cells (Try.zeroCells83.setIfInBounds 0 (.int .i64 n)) 83 (0, 0)) := heap_alloc_new w _
  have hz := fun i h0 hi => zero83_get n i h0 hi
  have hs := Try.zeroCells83_size
  have h0 : (Try.zeroCells83.setIfInBounds 0 (.int .i64 n))[0]? = some (.int .i64 n) := by
    rw [Array.getElem?_setIfInBounds, if_pos rfl, if_pos (by omega)]
  refine ⟨_, rfl, (Kept.refl w).alloc _, by simp, ?_, ?_, ?_, ?_, ?_, ?_, ?_⟩
  · rw [cell_of_row _ _ _ _ _ _ hh]; exact h0
  · intro a b ha hb; rw [cell_of_row _ _ _ _ _ _ hh, hz _ (by omega) (by omega), if_pos (by omega)]
  · intro a b ha hb; rw [cell_of_row _ _ _ _ _ _ hh, hz _ (by omega) (by omega), if_pos (by omega)]
  · intro a b ha hb; rw [cell_of_row _ _ _ _ _ _ hh, hz _ (by omega) (by omega), if_pos (by omega)]
  · intro a b ha hb; rw [cell_of_row _ _ _ _ _ _ hh, hz _ (by omega) (by omega), if_neg (by omega)]
  · intro a b ha hb; rw [cell_of_row _ _ _ _ _ _ hh, hz _ (by omega) (by omega), if_neg (by omega)]
  · intro o; exact frozen_of_row _ _ _ _ _ hh
/-- What put does to a table. -/
def putF (ov : Nat → Nat → Int) (a b : Nat) (id : Int) : Nat → Nat → Int := if ov a b = 0 ∨ id < ov a b then upd2 ov a b id else ov
def PutPost (g : Nat) (n : Int) (ov : Nat → Nat → Int) (re st : Nat → Nat → Bool) (w : World) (e : Ending) (w' : World) : Prop := e = .returned (.tuple #[]) ∧ RBox w' g n ov re st ∧ w.grownBy w' (some g)
theorem grownBy_refl (w : World) (r : Option Nat) : w.grownBy w r := ⟨rfl, rfl, rfl, Nat.le_refl _, fun _ _ _ => rfl⟩
theorem grownBy_setCell (w : World) (g o : Nat) (v : Value) : w.grownBy (w.setCell ⟨g, o, none⟩ v) (some g) :=
  ⟨rfl, rfl, rfl, Nat.le_of_eq (World.size_setCell ..).symm, fun i _ hi => Below.heap_setCell w _ v i (fun e => hi (by rw [e]))⟩
set_option maxHeartbeats 1000000 in
theorem put_any (g : Nat) (n : Int) (ov : Nat → Nat → Int) (re st : Nat → Nat → Bool) (a b : Nat) (id : Int) (w : World) (h : RBox w g n ov re st) (ha : a < 25) (hb : b < 25) :
    Calls Try.prog 55 #[.pointer (some ⟨g, 1, none⟩), .int .i64 a, .int .i64 b, .int .i64 id] w (PutPost g n (putF ov a b id) re st w) := by
  have HB := Lib.hid h
  have c := h.ov a b ha hb
  have hf := h.free (1 + a * 25 + b)
  have hg := h.lt
  have hai : (a : Int) < 25 := by omega
  have hbi : (b : Int) < 25 := by omega
  obtain ⟨o, ho⟩ : ∃ o, ov a b = o := ⟨_, rfl⟩
  rw [ho] at c
  have HO := Lib.hid ho
  clear h ho
  by_cases h0 : o = 0
  · have hp : Hid (putF ov a b id = upd2 ov a b id) := Lib.hid (by unfold putF; rw [if_pos (.inl (by rw [HO.out]; exact h0))])
    subst h0
    go_enter Try.func55, Try.ntmps55
    go_wp2
    exact bodyPost_ret (results_none rfl _ _ _) rfl ⟨rfl, by rw [hp.out]; exact HB.out.setOv ha hb id, grownBy_setCell _ _ _ _⟩
  · have e0 : (o == 0) = false := by simp [h0]
    by_cases h1 : id < o
    · have hp : Hid (putF ov a b id = upd2 ov a b id) := Lib.hid (by unfold putF; rw [if_pos (.inr (by rw [HO.out]; exact h1))])
      have e1 : decide (id < o) = true := decide_eq_true h1
      clear h0 h1
      go_enter Try.func55, Try.ntmps55
      go_wp2
      exact bodyPost_ret (results_none rfl _ _ _) rfl ⟨rfl, by rw [hp.out]; exact HB.out.setOv ha hb id, grownBy_setCell _ _ _ _⟩
    · have hp : Hid (putF ov a b id = ov) := Lib.hid (by unfold putF; rw [if_neg (by rw [HO.out]; omega)])
      have e1 : decide (id < o) = false := decide_eq_false h1
      clear h0 h1
      go_enter Try.func55, Try.ntmps55
      go_wp2
      exact bodyPost_ret (results_none rfl _ _ _) rfl ⟨rfl, by rw [hp.out]; exact HB.out, grownBy_refl _ _⟩
set_option maxHeartbeats 1000000 in
theorem parted_any (g N : Nat) (ov : Nat → Nat → Int) (re st : Nat → Nat → Bool) (a b : Int) (w : World) (h : RBox w g N ov re st) (hN : N ≤ 24) :
    Calls Try.prog 57 #[.pointer (some ⟨g, 0, none⟩), .int .i64 a, .int .i64 b] w (Tells (.bool false) w) := by
  have HB := Lib.hid h
  have hn := h.n
  have hg := h.lt
  clear h
  go_enter Try.func57, Try.ntmps57
  go_wp2
  go_loop [7] (fun cv => ∃ c : Nat, 1 ≤ c ∧ c ≤ N + 1 ∧ cv = .int .i64 c) (fun cv => N + 1 - (intOf cv).toNat)
  case atStart => exact ⟨1, by omega, by omega, rfl⟩
  case round =>
    obtain ⟨c, hc1, hc2, rfl⟩ := hrel
    by_cases hlt : c ≤ N
    · go_wp2
      go_loop [8] (fun dv => ∃ d : Nat, 1 ≤ d ∧ d ≤ N + 1 ∧ dv = .int .i64 d) (fun dv => N + 1 - (intOf dv).toNat)
      case atStart => exact ⟨1, by omega, by omega, rfl⟩
      case round =>
        obtain ⟨d, hd1, hd2, rfl⟩ := hrel
        by_cases hdt : d ≤ N
        · have cc := HB.out.ap c d (by omega) (by omega)
          have hci : (c : Int) < 25 := by omega
          have hdi : (d : Int) < 25 := by omega
          go_wp2
          go_round
          case measure => simp [intOf]; omega
          case rel => exact ⟨d + 1, by omega, by omega, by go_num⟩
        · go_wp2
          go_round
          case measure => simp [intOf]; omega
          case rel => exact ⟨c + 1, by omega, by omega, by go_num⟩
    · go_wp2
      go_ret
      exact ⟨rfl, rfl⟩
set_option maxHeartbeats 1000000 in
theorem agrees_any (g N : Nat) (ov : Nat → Nat → Int) (re st : Nat → Nat → Bool) (w : World) (h : RBox w g N ov re st) (hN : N ≤ 24) (hst : ∀ a, a < 25 → st a a = false) :
    Calls Try.prog 56 #[.pointer (some ⟨g, 0, none⟩)] w (Tells (.bool true) w) := by
  have HB := Lib.hid h
  have HS := Lib.hid hst
  have hn := h.n
  have hg := h.lt
  clear h hst
  go_enter Try.func56, Try.ntmps56
  go_wp2
  go_loop [3] (fun cv => ∃ c : Nat, 1 ≤ c ∧ c ≤ N + 1 ∧ cv = .int .i64 c) (fun cv => N + 1 - (intOf cv).toNat)
  case atStart => exact ⟨1, by omega, by omega, rfl⟩
  case round =>
    obtain ⟨c, hc1, hc2, rfl⟩ := hrel
    by_cases hlt : c ≤ N
    · have cc := HB.out.st c c (by omega) (by omega)
      rw [HS.out c (by omega)] at cc
      have hci : (c : Int) < 25 := by omega
      go_wp2_with fail
      refine (parted_any g N ov re st c c w HB.out hN).mono ?_
      rintro e w1 ⟨rfl, rfl⟩
      go_wp2
      go_round
      case measure => simp [intOf]; omega
      case rel => exact ⟨c + 1, by omega, by omega, by go_num⟩
    · go_wp2
      go_ret
      exact ⟨rfl, rfl⟩
def ReadPost (st : Nat → Nat → Bool) (a b : Nat) (w : World) (e : Ending) (w' : World) : Prop := ∃ k : Int, e = .returned (.int .u8 k) ∧ k = (if st a b then 1 else if st b a then 2 else 0) ∧ w = w'
set_option maxHeartbeats 1000000 in
theorem wread_any (g N : Nat) (ov : Nat → Nat → Int) (re st : Nat → Nat → Bool) (a b : Nat) (w : World) (h : RBox w g N ov re st) (hN : N ≤ 24) (hst : ∀ a, a < 25 → st a a = false) (ha : a < 25) (hb : b < 25) (hre : re a b = false) :
    Calls Try.prog 32 #[.pointer (some ⟨g, 0, none⟩), .int .i64 a, .int .i64 b] w (ReadPost st a b w) := by
  have HB := Lib.hid h
  have HS := Lib.hid hst
  have hg := h.lt
  have c1 := h.st a b ha hb
  have c2 := h.st b a hb ha
  have c3 := h.re a b ha hb
  rw [hre] at c3
  obtain ⟨s1, hs1⟩ : ∃ x, st a b = x := ⟨_, rfl⟩
  obtain ⟨s2, hs2⟩ : ∃ x, st b a = x := ⟨_, rfl⟩
  rw [hs1] at c1
  rw [hs2] at c2
  have HS1 := Lib.hid hs1
  have HS2 := Lib.hid hs2
  have hai : (a : Int) < 25 := by omega
  have hbi : (b : Int) < 25 := by omega
  clear h hst hs1 hs2 hre
  go_enter Try.func32, Try.ntmps32
  go_wp2_with fail
  refine (agrees_any g N ov re st w HB.out hN HS.out).mono ?_
  rintro e w1 ⟨rfl, rfl⟩
  cases s1
  · cases s2
    · go_wp2_with fail
      refine (parted_any g N ov re st a b w HB.out hN).mono ?_
      rintro e w1 ⟨rfl, rfl⟩
      go_wp2
      go_ret
      exact ⟨0, rfl, by rw [HS1.out, HS2.out]; rfl, rfl⟩
    · go_wp2
      go_ret
      exact ⟨2, rfl, by rw [HS1.out, HS2.out]; rfl, rfl⟩
  · go_wp2
    go_ret
    exact ⟨1, rfl, by rw [HS1.out]; rfl, rfl⟩
end Go.Proofs.Ytgmodcipbklejaa
