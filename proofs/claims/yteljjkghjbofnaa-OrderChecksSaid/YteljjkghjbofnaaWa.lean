/- The small functions of package order and of the library that it calls: their contracts. -/
import Derived.Test.YteljjkghjbofnaaBase
set_option maxRecDepth 100000
namespace Go.Proofs.Yteljjkghjbofnaa
open Go Go.Proofs Go.RowKit

theorem shr_and_one (s : S) (p : Nat) : (bits BinOp.and IntKind.u32 (sI s / 2 ^ p) 1 == 1) = hasS s p := by
  have h1 : (1 : Int) = sI 1#32 := rfl
  have h2 : sI s / 2 ^ p = sI (s >>> p) := by
    unfold sI
    rw [BitVec.toNat_ushiftRight, Nat.shiftRight_eq_div_pow]
    push_cast
    rfl
  rw [h2, h1, bits_and_sI]
  unfold hasS
  rw [Bool.eq_iff_iff, beq_iff_eq, sI_inj]
  constructor
  · intro h
    have := congrArg (fun x : S => x.getLsbD 0) h
    simpa using this
  · intro h
    apply BitVec.eq_of_getLsbD_eq
    intro i hi
    rcases Nat.eq_zero_or_pos i with rfl | hp
    · simpa using h
    · simp; omega

theorem one_val (p : Nat) : (2 : Int) ^ p % 4294967296 = sI (oneS p) := by
  unfold sI oneS
  rw [BitVec.toNat_shiftLeft]
  simp [Nat.shiftLeft_eq]

set_option maxHeartbeats 400000 in
theorem has_any (s : S) (p : Nat) (w : World) (hp : p < 32) :
    Calls Try.prog 77 #[.int .u32 (sI s), .int .i64 p] w (Tells (.bool (hasS s p)) w) := by
  have hs := sI_nonneg s
  have hl := sI_lt s
  go_enter Try.func77, Try.ntmps77
  go_wp2
  go_ret
  refine ⟨?_, rfl⟩
  rw [← shr_and_one]
  rfl

set_option maxHeartbeats 400000 in
theorem one_any (p : Nat) (w : World) (hp : p < 32) :
    Calls Try.prog 116 #[.int .i64 p] w (Tells (.int .u32 (sI (oneS p))) w) := by
  go_enter Try.func116, Try.ntmps116
  go_wp2
  go_ret
  refine ⟨?_, rfl⟩
  rw [← one_val p]
  rfl

set_option maxHeartbeats 400000 in
theorem isNaN_any (x : Int) (w : World) : Calls Try.prog 150 #[.int .i64 x] w (Tells (.bool false) w) := by
  go_enter Try.func150, Try.ntmps150
  go_wp2
  go_ret
  exact ⟨rfl, rfl⟩

/-- cmp.Compare. -/
def cmpI (x y : Int) : Int := if x < y then -1 else if y < x then 1 else 0

set_option maxHeartbeats 400000 in
theorem compareInt_any (x y : Int) (w : World) : Calls Try.prog 130 #[.int .i64 x, .int .i64 y] w (Tells (.int .i64 (cmpI x y)) w) := by
  by_cases h1 : x < y
  · have e : cmpI x y = -1 := by simp [cmpI, h1]
    rw [e]
    clear e
    go_enter Try.func130, Try.ntmps130
    go_wp2
    go_ret
    exact ⟨rfl, rfl⟩
  · by_cases h2 : y < x
    · have e : cmpI x y = 1 := by simp [cmpI, h1, h2]
      rw [e]
      clear e
      go_enter Try.func130, Try.ntmps130
      go_wp2
      go_ret
      exact ⟨rfl, rfl⟩
    · have e : cmpI x y = 0 := by simp [cmpI, h1, h2]
      rw [e]
      clear e
      go_enter Try.func130, Try.ntmps130
      go_wp2
      go_ret
      exact ⟨rfl, rfl⟩

set_option maxHeartbeats 400000 in
theorem isDry_any (d : Int) (w : World) : Calls Try.prog 85 #[.int .i64 d] w (Tells (.bool (decide (0 ≤ d) && decide (d ≤ 30))) w) := by
  by_cases h1 : 0 ≤ d
  · go_enter Try.func85, Try.ntmps85
    go_wp2
    go_ret
    refine ⟨?_, rfl⟩
    simp [h1]
  · go_enter Try.func85, Try.ntmps85
    go_wp2
    go_ret
    refine ⟨?_, rfl⟩
    simp; omega

/-- cmp.Or. -/
def orI : List Int → Int
  | [] => 0
  | x :: l => if x = 0 then orI l else x

theorem orI_drop (l : List Int) (k : Nat) (hk : k < l.length) (h0 : l[k] = 0) : orI (l.drop k) = orI (l.drop (k + 1)) := by
  rw [List.drop_eq_getElem_cons hk]; simp [orI, h0]
theorem orI_drop' (l : List Int) (k : Nat) (hk : k < l.length) (h0 : l[k] ≠ 0) : orI (l.drop k) = l[k] := by
  rw [List.drop_eq_getElem_cons hk]; simp [orI, h0]

set_option maxHeartbeats 400000 in
theorem or_any (l : List Int) (ao : Option Addr) (c : Nat) (w : World) (hl : l.length < 1152921504606846976) (hp : Ints w ao l) :
    Calls Try.prog 141 #[.slice ao l.length c] w (Tells (.int .i64 (orI l)) w) := by
  go_enter Try.func141, Try.ntmps141
  go_wp2
  go_loop [8] (fun i => ∃ k : Nat, k ≤ l.length ∧ i = .int .i64 k ∧ orI l = orI (l.drop k)) (fun i => l.length - (intOf i).toNat)
  case atStart => exact ⟨0, Nat.zero_le _, rfl, by simp⟩
  case round =>
    obtain ⟨k, hk, rfl, hn⟩ := hrel
    have HN := Lib.hid hn
    clear hn
    by_cases hlt : k < l.length
    · obtain ⟨B, off, rfl, hc⟩ := hp k hlt
      have HP := Lib.hid hp
      clear hp
      have e0 := orI_drop l k hlt
      have e1 := orI_drop' l k hlt
      have E0 := Lib.hid e0
      have E1 := Lib.hid e1
      clear e0 e1
      by_cases hz : l[k] = 0
      · have HZ := Lib.hid hz
        have hz' : (l[k] != 0) = false := by simp [hz]
        clear hz
        go_wp2
        go_round
        case rel => exact ⟨k + 1, by omega, by go_num, HN.out.trans (E0.out HZ.out)⟩
        case measure => simp [intOf]; omega
      · have hz' : (l[k] != 0) = true := by simp [hz]
        have HZ := Lib.hid hz
        clear hz
        go_wp2
        go_ret
        exact ⟨by rw [HN.out, E1.out HZ.out]; rfl, rfl⟩
    · have HP := Lib.hid hp
      clear hp
      go_wp2
      go_ret
      exact ⟨by rw [HN.out, List.drop_of_length_le (by omega)]; rfl, rfl⟩

/-- order.compare. -/
def cmpP (a b : Int × Int) : Int := orI [cmpI a.1 b.1, cmpI a.2 b.2]

set_option maxHeartbeats 400000 in
theorem compare_any (a b c d : Int) (w : World) :
    Calls Try.prog 81 #[.agg #[.int .i64 a, .int .i64 b], .agg #[.int .i64 c, .int .i64 d]] w (Gives (.int .i64 (cmpP (a, b) (c, d))) w) := by
  go_enter Try.func81, Try.ntmps81
  go_wp2
  refine region_tail 10 (by kernel_rfl) (by kernel_rfl) ?_
  simp only [List.take_succ_cons, List.take_zero, List.drop_succ_cons, List.drop_zero]
  repeat still_step
  still_call Calls_still (compareInt_any _ _ _)
  repeat still_step
  still_call Calls_still (compareInt_any _ _ _)
  refine wpStill_nil ?_
  go_wp2_with fail
  refine (or_any [cmpI a c, cmpI b d] _ 2 _ (by simp) ?_).mono ?_
  · intro i hi
    match i, hi with
    | 0, _ => exact ⟨_, _, rfl, by simp [go_sem]⟩
    | 1, _ => exact ⟨_, _, rfl, by simp [go_sem]⟩
  rintro e w' ⟨rfl, rfl⟩
  go_wp2
  go_ret
  exact ⟨rfl, ((((Kept.refl w).alloc _).alloc _).alloc _).drew⟩

/-- Check's closure 'bad'. -/
def badB (N a b : Int) : Bool := decide (min a b < 0) || decide (N ≤ max a b) || decide (a = b)

set_option maxHeartbeats 400000 in
theorem check1_any (a b N : Int) (bo : Nat) (w : World) (hN : w.cell? ⟨bo, 0, none⟩ = some (.int .i64 N)) :
    Calls Try.prog 78 #[.agg #[.int .i64 a, .int .i64 b], .pointer (some ⟨bo, 0, none⟩)] w (Gives (.bool (badB N a b)) w) := by
  have hlt := lt_of_cell hN
  go_enter Try.func78, Try.ntmps78
  go_wp2
  all_goals (go_ret; exact ⟨ret_bool (by unfold badB; rw [Bool.eq_iff_iff]; simp; omega), (Kept.refl w).alloc _⟩)

set_option maxHeartbeats 400000 in
theorem check2_any (a b : Int) (w : World) :
    Calls Try.prog 82 #[.agg #[.int .i64 a, .int .i64 b]] w (Gives (.bool (decide (b < a))) w) := by
  go_enter Try.func82, Try.ntmps82
  go_wp2
  all_goals (go_ret; exact ⟨rfl, (Kept.refl w).alloc _⟩)

/-- The place of the first element of which p is true; -1. -/
def idxI {α : Type} (p : α → Bool) : List α → Int
  | [] => -1
  | x :: l => if p x then 0 else if idxI p l < 0 then -1 else idxI p l + 1

theorem idxI_neg {α : Type} (p : α → Bool) (l : List α) : (idxI p l < 0) = (l.any p = false) := by
  induction l with
  | nil => simp [idxI]
  | cons x l ih =>
    simp only [idxI, List.any_cons]
    by_cases h : p x
    · simp [h]
    · simp only [h, Bool.false_or, Bool.false_eq_true, if_false]
      by_cases h2 : idxI p l < 0
      · simp only [h2, if_true]; rw [← ih]; simp [h2]
      · simp only [h2, if_false]; rw [← ih]; simp [h2]; omega

/-- What slices.IndexFunc hands back: a place, not negative just where p is true of some element. -/
def IdxPost {α : Type} (p : α → Bool) (l : List α) (w : World) (e : Ending) (w' : World) : Prop :=
  ∃ i : Int, e = .returned (.int .i64 i) ∧ decide (0 ≤ i) = l.any p ∧ Kept w w'

theorem any_take_succ {α : Type} (p : α → Bool) (l : List α) (k : Nat) (hk : k < l.length) (h : (l.take k).any p = false) : (l.take (k + 1)).any p = p l[k] := by
  rw [List.take_succ_eq_append_getElem hk, List.any_append, h]; simp
theorem any_of_get {α : Type} (p : α → Bool) (l : List α) (k : Nat) (hk : k < l.length) (h : p l[k] = true) : l.any p = true :=
  List.any_eq_true.2 ⟨l[k], List.getElem_mem hk, h⟩

set_option maxHeartbeats 800000 in
/-- slices.IndexFunc at pairs: whatever function of a pair is handed in, if it answers p wherever nothing of w has turned. -/
theorem indexFuncP_any (l : List (Int × Int)) (ao : Option Addr) (c g : Nat) (caps : Array Value) (p : Int × Int → Bool) (w : World) (hl : l.length < 1152921504606846976) (hp : Pairs w ao l)
    (hf : ∀ a b W, Kept w W → Calls Try.prog g (#[.agg #[.int .i64 a, .int .i64 b]] ++ caps) W (Gives (.bool (p (a, b))) W)) (hg : ∀ args W, (callFunc g args).run Try.prog W = .ok (.enter g args) W) :
    Calls Try.prog 140 #[.slice ao l.length c, .func (.func g) #[] caps] w (IdxPost p l w) := by
  have HF := Lib.hid hf
  clear hf
  go_enter Try.func140, Try.ntmps140
  go_wp2
  go_loopw [8] (fun i wr => ∃ k : Nat, k ≤ l.length ∧ i = .int .i64 k ∧ (l.take k).any p = false ∧ Kept w wr) (fun i _ => l.length - (intOf i).toNat)
  case atStart => exact ⟨0, Nat.zero_le _, rfl, by simp, Kept.refl w⟩
  case round =>
    obtain ⟨k, hk, rfl, hn, hkw⟩ := hrel
    have HN := Lib.hid hn
    clear hn
    by_cases hlt : k < l.length
    · obtain ⟨B, off, rfl, hc, hd⟩ := (hp.kept hkw) k hlt
      have HP := Lib.hid hp
      clear hp
      have HKW := Lib.hid hkw
      clear hkw
      cases hpk : p l[k]
      all_goals
        go_wp2_with fail
        refine (HF.out _ _ _ HKW.out).mono ?_
        rintro e w1 ⟨rfl, hk1⟩
        have HK1 := Lib.hid (HKW.out.trans hk1)
        clear hk1
      · go_wp2
        go_roundw
        case rel => exact ⟨k + 1, by omega, by go_num, (any_take_succ p l k hlt HN.out).trans hpk, HK1.out⟩
        case measure => simp [intOf]; omega
      · go_wp2
        go_ret
        exact ⟨k, rfl, by rw [any_of_get p l k hlt hpk]; simp, HK1.out⟩
    · have HP := Lib.hid hp
      clear hp
      have HKW := Lib.hid hkw
      clear hkw
      go_wp2
      go_ret
      refine ⟨-1, rfl, ?_, HKW.out⟩
      rw [List.take_of_length_le (by omega)] at HN
      rw [HN.out]; rfl

end Go.Proofs.Yteljjkghjbofnaa
