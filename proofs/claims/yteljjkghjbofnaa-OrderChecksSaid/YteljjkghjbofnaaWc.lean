/- woven: the web of a valid problem. -/
import Derived.Test.YteljjkghjbofnaaWb
import Derived.Deep.MidRow
set_option maxRecDepth 100000
namespace Go.Proofs.Yteljjkghjbofnaa
open Go Go.Proofs Go.RowKit

/-! ### The web, plainly -/

structure Web where
  n : Nat
  to : Nat → S
  reach : Nat → S
  near : Nat → S

def upd (f : Nat → S) (a : Nat) (s : S) : Nat → S := fun x => if x = a then s else f x

def stepTo (f : Nat → S) (x : Int × Int) : Nat → S := upd f x.1.toNat (f x.1.toNat ||| oneS x.2.toNat)
def toS (l : List (Int × Int)) : Nat → S := l.foldl stepTo (fun _ => 0#32)
def stepBack (f : Nat → S) (x : Int × Int) : Nat → S := upd f x.2.toNat (f x.2.toNat ||| oneS x.1.toNat)
def nearS (l : List (Int × Int)) : Nat → S := l.foldl (fun f x => stepBack (stepTo f x) x) (fun _ => 0#32)
def stepR (c : Nat) (f : Nat → S) (a : Nat) : Nat → S := if hasS (f a) c then upd f a (f a ||| f c) else f
def roundR (n c : Nat) (f : Nat → S) : Nat → S := (List.range n).foldl (stepR c) f
def reachS (n : Nat) (f : Nat → S) : Nat → S := (List.range n).foldl (fun f c => roundR n c f) f

def webOf (o : Prob) : Web := { n := o.N.toNat, to := toS o.arcs, reach := reachS o.N.toNat (toS o.arcs), near := nearS o.near }

theorem toS_snoc (l : List (Int × Int)) (k : Nat) (hk : k < l.length) : toS (l.take (k + 1)) = stepTo (toS (l.take k)) l[k] := by
  rw [List.take_succ_eq_append_getElem hk]; unfold toS; rw [List.foldl_append]; rfl
theorem nearS_snoc (l : List (Int × Int)) (k : Nat) (hk : k < l.length) : nearS (l.take (k + 1)) = stepBack (stepTo (nearS (l.take k)) l[k]) l[k] := by
  rw [List.take_succ_eq_append_getElem hk]; unfold nearS; rw [List.foldl_append]; rfl
def partR (c : Nat) (f : Nat → S) (k : Nat) : Nat → S := (List.range k).foldl (stepR c) f
theorem partR_succ (c : Nat) (f : Nat → S) (k : Nat) : partR c f (k + 1) = stepR c (partR c f k) k := by simp [partR, List.range_succ]
def partS (n : Nat) (f : Nat → S) (k : Nat) : Nat → S := (List.range k).foldl (fun f c => roundR n c f) f
theorem partS_succ (n : Nat) (f : Nat → S) (k : Nat) : partS n f (k + 1) = partR k (partS n f k) n := by simp [partS, partR, roundR, List.range_succ]

/-! ### The web in memory -/

structure WebAt (w : World) (b : Nat) (W : Web) : Prop where
  n : w.cell? ⟨b, 0, none⟩ = some (.int .i64 W.n)
  to : ∀ a, a < 24 → w.cell? ⟨b, 1 + a, none⟩ = some (.int .u32 (sI (W.to a)))
  reach : ∀ a, a < 24 → w.cell? ⟨b, 25 + a, none⟩ = some (.int .u32 (sI (W.reach a)))
  near : ∀ a, a < 24 → w.cell? ⟨b, 49 + a, none⟩ = some (.int .u32 (sI (W.near a)))
  free : ∀ o, w.frozen? ⟨b, o, none⟩ = false

theorem WebAt.kept {w w' : World} {b : Nat} {W : Web} (h : WebAt w b W) (hk : Kept w w') : WebAt w' b W :=
  ⟨hk.cell h.n, fun a ha => hk.cell (h.to a ha), fun a ha => hk.cell (h.reach a ha), fun a ha => hk.cell (h.near a ha),
   fun o => (hk.cells.2 b o (lt_of_cell h.n)).trans (h.free o)⟩

theorem cell_set_same {w : World} {b o : Nat} {v u : Value} (h : w.cell? ⟨b, o, none⟩ = some v) : (w.setCell ⟨b, o, none⟩ u).cell? ⟨b, o, none⟩ = some u :=
  World.cell?_setCell_same' _ _ _ (by rw [h]; rfl)
theorem cell_set_off {w : World} {b o o' : Nat} {v u : Value} (h : w.cell? ⟨b, o', none⟩ = some v) (hne : o' ≠ o) : (w.setCell ⟨b, o, none⟩ u).cell? ⟨b, o', none⟩ = some v := by
  rw [World.cell?_setCell_other]
  · exact h
  · intro e; exact hne (by simpa using e.symm)
theorem cell_set_block {w : World} {b b' o o' : Nat} {v u : Value} (h : w.cell? ⟨b', o', none⟩ = some v) (hne : b' ≠ b) : (w.setCell ⟨b, o, none⟩ u).cell? ⟨b', o', none⟩ = some v := by
  rw [World.cell?_setCell_other]
  · exact h
  · intro e; simp only [Addr.mk.injEq] at e; exact hne e.1.symm
theorem cell_set_or {w : World} {b o o' : Nat} {v u : Value} (h : w.cell? ⟨b, o', none⟩ = some v) : (w.setCell ⟨b, o, none⟩ u).cell? ⟨b, o', none⟩ = some (if o' = o then u else v) := by
  by_cases e : o' = o
  · subst e; rw [if_pos rfl]; exact cell_set_same h
  · rw [if_neg e]; exact cell_set_off h e

theorem WebAt.setOther {w : World} {b b' o : Nat} {W : Web} {u : Value} (h : WebAt w b W) (hne : b ≠ b') : WebAt (w.setCell ⟨b', o, none⟩ u) b W :=
  ⟨cell_set_block h.n hne, fun a ha => cell_set_block (h.to a ha) hne, fun a ha => cell_set_block (h.reach a ha) hne, fun a ha => cell_set_block (h.near a ha) hne,
   fun o => by rw [World.frozen?_setCell]; exact h.free o⟩
theorem ProbBox.setOther {w : World} {b b' o' : Nat} {o : Prob} {ao : Option Addr} {ca : Nat} {bo : Option Addr} {cb : Nat} {u : Value} (h : ProbBox w b o ao ca bo cb) (hne : b ≠ b') :
    ProbBox (w.setCell ⟨b', o', none⟩ u) b o ao ca bo cb := ⟨cell_set_block h.c0 hne, cell_set_block h.c1 hne, cell_set_block h.c2 hne⟩
theorem WebAt.setTo {w : World} {b a : Nat} {W : Web} (h : WebAt w b W) (ha : a < 24) (s : S) :
    WebAt (w.setCell ⟨b, 1 + a, none⟩ (.int .u32 (sI s))) b { W with to := upd W.to a s } :=
  ⟨cell_set_off h.n (by omega), fun x hx => by rw [cell_set_or (h.to x hx)]; unfold upd; by_cases e : x = a <;> simp [e],
   fun x hx => cell_set_off (h.reach x hx) (by omega), fun x hx => cell_set_off (h.near x hx) (by omega), fun o => by rw [World.frozen?_setCell]; exact h.free o⟩
theorem WebAt.setReach {w : World} {b a : Nat} {W : Web} (h : WebAt w b W) (ha : a < 24) (s : S) :
    WebAt (w.setCell ⟨b, 25 + a, none⟩ (.int .u32 (sI s))) b { W with reach := upd W.reach a s } :=
  ⟨cell_set_off h.n (by omega), fun x hx => cell_set_off (h.to x hx) (by omega), fun x hx => by rw [cell_set_or (h.reach x hx)]; unfold upd; by_cases e : x = a <;> simp [e],
   fun x hx => cell_set_off (h.near x hx) (by omega), fun o => by rw [World.frozen?_setCell]; exact h.free o⟩
theorem WebAt.setNear {w : World} {b a : Nat} {W : Web} (h : WebAt w b W) (ha : a < 24) (s : S) :
    WebAt (w.setCell ⟨b, 49 + a, none⟩ (.int .u32 (sI s))) b { W with near := upd W.near a s } :=
  ⟨cell_set_off h.n (by omega), fun x hx => cell_set_off (h.to x hx) (by omega), fun x hx => cell_set_off (h.reach x hx) (by omega),
   fun x hx => by rw [cell_set_or (h.near x hx)]; unfold upd; by_cases e : x = a <;> simp [e], fun o => by rw [World.frozen?_setCell]; exact h.free o⟩

def cells24 (f : Nat → S) : List Value := (List.range 24).map (fun a => .int .u32 (sI (f a)))
theorem cells24_length (f : Nat → S) : (cells24 f).length = 24 := by simp [cells24]
theorem cells24_get (f : Nat → S) (a : Nat) (ha : a < 24) : (cells24 f)[a]? = some (.int .u32 (sI (f a))) := by
  unfold cells24; rw [List.getElem?_map, List.getElem?_range ha]; rfl
theorem cells24_one (f : Nat → S) : (cells24 f).toArray.all (·.oneCell') = true := by
  apply all_oneCell_toArray
  intro v hv
  obtain ⟨_, _, rfl⟩ := List.mem_map.1 hv
  rfl
theorem range24 {w : World} {b o : Nat} {f : Nat → S} (h : ∀ a, a < 24 → w.cell? ⟨b, o + a, none⟩ = some (.int .u32 (sI (f a)))) : w.rangeAt b o (cells24 f) := by
  intro j v hv
  have hj : j < 24 := by have := (List.getElem?_eq_some_iff.1 hv).1; rwa [cells24_length] at this
  rw [cells24_get f j hj] at hv
  rw [← hv]; exact h j hj
theorem there24 {w : World} {b o : Nat} {f : Nat → S} (h : ∀ a, a < 24 → w.cell? ⟨b, o + a, none⟩ = some (.int .u32 (sI (f a)))) (hf : ∀ o, w.frozen? ⟨b, o, none⟩ = false) (n : Nat) (hn : n ≤ 24) : w.there b o n :=
  fun j hj => ⟨by rw [h j (by omega)]; rfl, hf _⟩
theorem WebAt.copy {w : World} {b : Nat} {W : Web} (h : WebAt w b W) : WebAt (w.setCells b 25 (cells24 W.to)) b { W with reach := W.to } := by
  have hout : ∀ o v, w.cell? ⟨b, o, none⟩ = some v → (o < 25 ∨ 49 ≤ o) → (w.setCells b 25 (cells24 W.to)).cell? ⟨b, o, none⟩ = some v := fun o v hv ho => by
    rw [World.cell?_setCells_out b _ _ w _ (fun _ _ => by rw [cells24_length]; exact ho)]; exact hv
  refine ⟨hout _ _ h.n (by omega), fun a ha => hout _ _ (h.to a ha) (by omega), fun a ha => ?_, fun a ha => hout _ _ (h.near a ha) (by omega), fun o => by rw [World.frozen?_setCells]; exact h.free o⟩
  have := World.rangeAt_setCells_same w b 25 (cells24 W.to) (by rw [cells24_length]; exact there24 h.reach h.free 24 (Nat.le_refl _))
  exact this a _ (cells24_get _ a ha)
theorem Kept.setCells {a w : World} (h : Kept a w) {b : Nat} (hb : a.heap.size ≤ b) : ∀ (vs : List Value) (o : Nat), Kept a (w.setCells b o vs) := by
  intro vs
  induction vs generalizing w with
  | nil => intro o; exact h
  | cons v r ih => intro o; exact ih (h.setCell (p := ⟨b, o, none⟩) hb v) (o + 1)

theorem size94 : (Try.prog.info? 94).map (·.size) = some 24 := by kernel_rfl

theorem zero96 : Try.zeroCells96 = #[.int .i64 0] ++ Array.replicate 72 (.int .u32 0) := by kernel_rfl

theorem zero96_get (N : Int) (i : Nat) (h0 : 0 < i) (hi : i < 73) : (Try.zeroCells96.setIfInBounds 0 (.int .i64 N))[i]? = some (.int .u32 (sI 0#32)) := by
  rw [zero96, Array.getElem?_setIfInBounds, if_neg (by omega), Array.getElem?_append_right (by simp; omega)]
  rw [Array.getElem?_replicate, if_pos (by simp; omega)]; rfl

/-- The web's block as it is made. -/
theorem alloc_web (w : World) (n : Nat) : ∃ w0, w.alloc (.cells (Try.zeroCells96.setIfInBounds 0 (.int .i64 n)) 96) = w0 ∧ Kept w w0 ∧ w.heap.size < w0.heap.size ∧
    WebAt w0 w.heap.size { n, to := fun _ => 0#32, reach := fun _ => 0#32, near := fun _ => 0#32 } := by
  have hh : (w.alloc (.cells (Try.zeroCells96.setIfInBounds 0 (.int .i64 n)) 96)).heap[w.heap.size]? = some (.cells (Try.zeroCells96.setIfInBounds 0 (.int .i64 n)) 96 (0, 0)) := heap_alloc_new w _
  have hz := fun i h0 hi => zero96_get n i h0 hi
  refine ⟨_, rfl, (Kept.refl w).alloc _, by simp, ?_, ?_, ?_, ?_, ?_⟩
  · rw [cell_of_row _ _ _ _ _ _ hh, zero96]; simp
  · intro a ha; rw [cell_of_row _ _ _ _ _ _ hh]; exact hz (1 + a) (by omega) (by omega)
  · intro a ha; rw [cell_of_row _ _ _ _ _ _ hh]; exact hz (25 + a) (by omega) (by omega)
  · intro a ha; rw [cell_of_row _ _ _ _ _ _ hh]; exact hz (49 + a) (by omega) (by omega)
  · intro o; exact frozen_of_row _ _ _ _ _ hh

/-! ### woven -/

/-- What a valid problem's pairs are. -/
theorem pair_of_chk {o : Prob} (h : chk o = 0) : 0 ≤ o.N ∧ o.N ≤ 24 ∧ (∀ x ∈ o.arcs, 0 ≤ x.1 ∧ x.1 < o.N ∧ 0 ≤ x.2 ∧ x.2 < o.N ∧ x.1 ≠ x.2) ∧ (∀ x ∈ o.near, 0 ≤ x.1 ∧ x.2 < o.N ∧ x.1 < x.2) := by
  unfold chk at h
  split at h
  · cases h
  · split at h
    · cases h
    · rename_i h1 h2
      simp only [not_or, List.any_eq_true, not_exists, not_and] at h2
      obtain ⟨h3, h4, h5, -, -, h6⟩ := h2
      refine ⟨by omega, by omega, fun x hx => ?_, fun x hx => ?_⟩
      · have := h4 x hx; unfold badB at this; simp at this; omega
      · have := h5 x hx; have h7 := h6 x hx; unfold badB at this; simp at this h7; omega

def WovenPost (o : Prob) (w : World) (e : Ending) (w' : World) : Prop :=
  ∃ b, e = .returned (.pointer (some ⟨b, 0, none⟩)) ∧ WebAt w' b (webOf o) ∧ Kept w w'

set_option maxHeartbeats 1600000 in
theorem woven_any (o : Prob) (ao bo : Option Addr) (ca cb : Nat) (w : World) (ho : IsProb w o ao bo) (hv : chk o = 0) :
    Calls Try.prog 121 #[probV o ao ca bo cb] w (WovenPost o w) := by
  obtain ⟨hA, hB, hla, hlb⟩ := ho
  obtain ⟨h0, h24, hpa, hpn⟩ := pair_of_chk hv
  obtain ⟨N, A, B⟩ := o
  dsimp only at *
  obtain ⟨N, rfl⟩ := Int.eq_ofNat_of_zero_le h0
  have HA := Lib.hid hA
  have HB := Lib.hid hB
  have HPA := Lib.hid hpa
  have HPN := Lib.hid hpn
  clear hA hB hpa hpn hv
  go_enter Try.func121, Try.ntmps121
  go_wp2
  obtain ⟨w0, e0, hk0, hb0, hs0⟩ := alloc_prob w N A B ao ca bo cb
  rw [e0, hs0]
  clear e0
  obtain ⟨w1, e1, hk1, hs1, hw1⟩ := alloc_web w0 N
  rw [e1]
  clear e1
  have HB1 := Lib.hid (hb0.kept hk1)
  have HK1 := Lib.hid (hk0.trans hk1)
  have HW1 := Lib.hid hw1
  have hS : w.heap.size < w0.heap.size := by rw [← hs0]; omega
  clear hs0
  have HS := Lib.hid hS
  clear hS
  generalize w0.heap.size = b at *
  clear hk0 hb0 hk1 hs1 hw1
  go_loopw [17] (fun i wr => ∃ k : Nat, k ≤ A.length ∧ i = .int .i64 k ∧ Kept w wr ∧ ProbBox wr w.heap.size ⟨N, A, B⟩ ao ca bo cb ∧ WebAt wr b { n := N, to := toS (A.take k), reach := fun _ => 0#32, near := fun _ => 0#32 })
    (fun i _ => A.length - (intOf i).toNat)
  case atStart => exact ⟨0, Nat.zero_le _, rfl, HK1.out, HB1.out, HW1.out⟩
  case round =>
    obtain ⟨k, hk, rfl, hkw, hbx, hwb⟩ := hrel
    have HKW := Lib.hid hkw
    have HBX := Lib.hid hbx
    have HWB := Lib.hid hwb
    clear hkw hbx hwb HB1 HK1 HW1
    by_cases hlt : k < A.length
    · obtain ⟨p0, p1, p2, p3, -⟩ := HPA.out A[k] (List.getElem_mem hlt)
      obtain ⟨ab, off, rfl, hc, hd⟩ := (HA.out.kept HKW.out) k hlt
      obtain ⟨x, hx⟩ := Int.eq_ofNat_of_zero_le p0
      obtain ⟨y, hy⟩ := Int.eq_ofNat_of_zero_le p2
      rw [hx] at p1 hc
      rw [hy] at p3 hd
      have HX := Lib.hid hx
      have HY := Lib.hid hy
      have hl := lt_of_cell hc
      clear hx hy p0 p2
      have hx24 : x < 24 := by omega
      have hy32 : y < 32 := by omega
      have hxi : (x : Int) < 24 := by omega
      have hto := HWB.out.to x hx24
      have hfr := HWB.out.free (1 + x)
      have hlb' := lt_of_cell hto
      go_wp2
      refine region_tail 13 (by kernel_rfl) (by kernel_rfl) ?_
      simp only [List.take_succ_cons, List.take_zero, List.drop_succ_cons, List.drop_zero]
      repeat still_step
      still_call Calls_still (one_any _ _ hy32)
      repeat still_step
      refine wpStill_nil ?_
      go_wp2
      go_roundw
      case rel =>
        refine ⟨k + 1, by omega, by go_num, ((HKW.out.setCell (Nat.le_of_lt HS.out) _).alloc _).drew, ((HBX.out.setOther (Nat.ne_of_lt HS.out)).kept ((Kept.refl _).alloc _)).kept (Kept.refl _).drew, ?_⟩
        have e : toS (A.take (k + 1)) = upd (toS (A.take k)) x (toS (A.take k) x ||| oneS y) := by
          rw [toS_snoc A k hlt, stepTo, HX.out, HY.out]; rfl
        rw [e]
        exact (((HWB.out.setTo hx24 _).kept ((Kept.refl _).alloc _)).kept (Kept.refl _).drew)
      case measure => simp [intOf]; omega
    · obtain ⟨q0, q1, q2⟩ := HBX.out
      have ek : A.take k = A := List.take_of_length_le (by omega)
      rw [ek] at HWB
      clear ek
      go_wp2
      clear q0 q1 q2
      go_loopw [39] (fun i wr => ∃ k : Nat, k ≤ B.length ∧ i = .int .i64 k ∧ Kept w wr ∧ WebAt wr b { n := N, to := toS A, reach := fun _ => 0#32, near := nearS (B.take k) })
        (fun i _ => B.length - (intOf i).toNat)
      case atStart => exact ⟨0, Nat.zero_le _, rfl, HKW.out, HWB.out⟩
      case round =>
        clear HKW HBX HWB hlt hk
        obtain ⟨m, hm, rfl, hkw, hwb⟩ := hrel
        have HKW := Lib.hid hkw
        have HWB := Lib.hid hwb
        clear hkw hwb
        by_cases hlt : m < B.length
        · obtain ⟨p0, p1, p2⟩ := HPN.out B[m] (List.getElem_mem hlt)
          obtain ⟨ab, off, rfl, hc, hd⟩ := (HB.out.kept HKW.out) m hlt
          obtain ⟨x, hx⟩ := Int.eq_ofNat_of_zero_le p0
          obtain ⟨y, hy⟩ := Int.eq_ofNat_of_zero_le (show 0 ≤ B[m].2 by omega)
          rw [hx] at p2 hc
          rw [hy] at p1 p2 hd
          have HX := Lib.hid hx
          have HY := Lib.hid hy
          have hl := lt_of_cell hc
          clear hx hy p0
          have hx24 : x < 24 := by omega
          have hy24 : y < 24 := by omega
          have hx32 : x < 32 := by omega
          have hy32 : y < 32 := by omega
          have hxi : (x : Int) < 24 := by omega
          have hyi : (y : Int) < 24 := by omega
          have hto := HWB.out.near x hx24
          have hfr := HWB.out.free (49 + x)
          have hlb' := lt_of_cell hto
          go_wp2
          refine region_tail 13 (by kernel_rfl) (by kernel_rfl) ?_
          simp only [List.take_succ_cons, List.take_zero, List.drop_succ_cons, List.drop_zero]
          repeat still_step
          still_call Calls_still (one_any _ _ hy32)
          repeat still_step
          refine wpStill_nil ?_
          have hne : b ≠ wr.heap.size := by omega
          go_wp2
          have HW1 := Lib.hid (((HWB.out.setNear hx24 (nearS (B.take m) x ||| oneS y)).kept ((Kept.refl _).alloc (.cells #[.int .i64 x, .int .i64 y] 83))).kept (Kept.refl _).drew)
          have HK1 := Lib.hid ((HKW.out.setCell (p := ⟨b, 49 + x, none⟩) (Nat.le_of_lt HS.out) (.int .u32 (sI (nearS (B.take m) x ||| oneS y)))).alloc (.cells #[.int .i64 x, .int .i64 y] 83)).drew
          have hx0 : (((wr.setCell ⟨b, 49 + x, none⟩ (.int .u32 (sI (nearS (B.take m) x ||| oneS y)))).alloc (.cells #[.int .i64 x, .int .i64 y] 83)).drew).cell? ⟨wr.heap.size, 0, none⟩ = some (.int .i64 x) := by simp [go_sem]
          have hx1 : (((wr.setCell ⟨b, 49 + x, none⟩ (.int .u32 (sI (nearS (B.take m) x ||| oneS y)))).alloc (.cells #[.int .i64 x, .int .i64 y] 83)).drew).cell? ⟨wr.heap.size, 1, none⟩ = some (.int .i64 y) := by simp [go_sem]
          generalize (((wr.setCell ⟨b, 49 + x, none⟩ (.int .u32 (sI (nearS (B.take m) x ||| oneS y)))).alloc (.cells #[.int .i64 x, .int .i64 y] 83)).drew) = w2 at *
          generalize wr.heap.size = bx at *
          clear hto hfr hc hd hl hlb' HWB HKW
          have hto := HW1.out.near y hy24
          have hfr := HW1.out.free (49 + y)
          refine region_tail 13 (by kernel_rfl) (by kernel_rfl) ?_
          simp only [List.take_succ_cons, List.take_zero, List.drop_succ_cons, List.drop_zero]
          repeat still_step
          still_call Calls_still (one_any _ _ hx32)
          repeat still_step
          refine wpStill_nil ?_
          go_wp2
          go_roundw
          case rel =>
            refine ⟨m + 1, by omega, by go_num, (HK1.out.setCell (Nat.le_of_lt HS.out) _).drew, ?_⟩
            have e : nearS (B.take (m + 1)) = upd (upd (nearS (B.take m)) x (nearS (B.take m) x ||| oneS y)) y (upd (nearS (B.take m)) x (nearS (B.take m) x ||| oneS y) y ||| oneS x) := by
              rw [nearS_snoc B m hlt, stepTo, stepBack, HX.out, HY.out]; rfl
            rw [e]
            exact ((HW1.out.setNear hy24 _).kept (Kept.refl _).drew)
          case measure => simp [intOf]; omega
        · have em : B.take m = B := List.take_of_length_le (by omega)
          rw [em] at HWB
          clear em
          have HW1 := Lib.hid HWB.out.copy
          have HK1 := Lib.hid (HKW.out.setCells (b := b) (Nat.le_of_lt HS.out) (cells24 (toS A)) 25)
          have hn0 := HW1.out.n
          go_wp2_with (first
            | (refine wpList_load_mid rfl 94 _ rfl b 1 rfl (cells24 (toS A)) _ (range24 HWB.out.to) Try.underlying94 rfl (by rw [cells24_length]; exact size94) ?_)
            | (refine wpList_store_mid rfl 94 _ _ rfl b 25 (cells24 (toS A)).toArray rfl rfl (there24 HWB.out.reach HWB.out.free _ (by simp [cells24_length])) (by simp [cells24_length, size94]) (cells24_one _) ?_; generalize wr.setCells b 25 (cells24 (toS A)) = w2 at *))
          clear hn0 HKW HWB hlt hm HA HB HPA HPN
          go_loopw [83] (fun i wr => ∃ c : Nat, c ≤ N ∧ i = .int .i64 c ∧ Kept w wr ∧ WebAt wr b { n := N, to := toS A, reach := partS N (toS A) c, near := nearS B }) (fun i _ => N - (intOf i).toNat)
          case atStart => exact ⟨0, Nat.zero_le _, rfl, HK1.out, HW1.out⟩
          case round =>
            clear HK1 HW1
            obtain ⟨c, hc, rfl, hkw, hwb⟩ := hrel
            have HKW := Lib.hid hkw
            have HWB := Lib.hid hwb
            clear hkw hwb
            by_cases hlt : c < N
            · have hn0 := HWB.out.n
              go_wp2
              clear hn0
              go_loopw [90] (fun i wr => ∃ a : Nat, a ≤ N ∧ i = .int .i64 a ∧ Kept w wr ∧ WebAt wr b { n := N, to := toS A, reach := partR c (partS N (toS A) c) a, near := nearS B }) (fun i _ => N - (intOf i).toNat)
              case atStart => exact ⟨0, Nat.zero_le _, rfl, HKW.out, HWB.out⟩
              case round =>
                clear HKW HWB
                obtain ⟨a, ha, rfl, hkw, hwb⟩ := hrel
                have HKW := Lib.hid hkw
                have HWB := Lib.hid hwb
                clear hkw hwb
                by_cases hlta : a < N
                · have ha24 : a < 24 := by omega
                  have hc32 : c < 32 := by omega
                  have hai : (a : Int) < 24 := by omega
                  have hci : (c : Int) < 24 := by omega
                  have hra := HWB.out.reach a ha24
                  have hrc := HWB.out.reach c (by omega)
                  have hfr := HWB.out.free (25 + a)
                  go_wp2_with fail
                  refine (has_any _ c _ hc32).mono ?_
                  rintro e w2 ⟨rfl, rfl⟩
                  cases hh : hasS (partR c (partS N (toS A) c) a a) c
                  all_goals
                    have HH := Lib.hid hh
                    clear hh
                  · go_wp2
                    go_roundw
                    case rel =>
                      refine ⟨a + 1, by omega, by go_num, HKW.out, ?_⟩
                      rw [partR_succ, stepR, if_neg (by rw [HH.out]; simp)]
                      exact HWB.out
                    case measure => simp [intOf]; omega
                  · go_wp2
                    refine region_tail 15 (by kernel_rfl) (by kernel_rfl) ?_
                    simp only [List.take_succ_cons, List.take_zero, List.drop_succ_cons, List.drop_zero]
                    repeat still_step
                    refine wpStill_nil ?_
                    go_wp2
                    go_roundw
                    case rel =>
                      refine ⟨a + 1, by omega, by go_num, (HKW.out.setCell (Nat.le_of_lt HS.out) _).drew, ?_⟩
                      rw [partR_succ, stepR, if_pos HH.out]
                      exact ((HWB.out.setReach ha24 _).kept (Kept.refl _).drew)
                    case measure => simp [intOf]; omega
                · have ea : a = N := by omega
                  rw [ea] at HWB
                  clear ea
                  go_wp2
                  go_roundw
                  case rel =>
                    refine ⟨c + 1, by omega, by go_num, HKW.out, ?_⟩
                    rw [partS_succ]
                    exact HWB.out
                  case measure => simp [intOf]; omega
            · have ec : c = N := by omega
              go_wp2
              go_ret
              refine ⟨b, rfl, ?_, HKW.out⟩
              rw [ec] at HWB
              exact HWB.out

end Go.Proofs.Yteljjkghjbofnaa
