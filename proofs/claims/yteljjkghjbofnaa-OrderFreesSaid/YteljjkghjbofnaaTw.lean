/- ref.counted, ref.ways. -/
import Derived.Test.YteljjkghjbofnaaYi
set_option maxRecDepth 100000
namespace Go.Proofs.Yteljjkghjbofnaa
open Go Go.Proofs Go.RowKit
attribute [local go_sem] Oper.semAt_some

set_option maxHeartbeats 400000 in
theorem Rcounted_any (o : Prob) (ao bo : Option Addr) (ca cb : Nat) (w : World) (ho : IsProb w o ao bo) :
    Calls Try.prog 113 #[probV o ao ca bo cb] w (Gives (.int .i64 (errC o)) w) := by
  have HO := Lib.hid ho
  clear ho
  obtain ⟨er, her⟩ : ∃ er, errC o = er := ⟨_, rfl⟩
  rw [her]
  have HER := Lib.hid her
  clear her
  go_enter Try.func113, Try.ntmps113
  go_wp2_with fail
  obtain ⟨w0, e0, hk0, hb0, -⟩ := alloc_prob w o.N o.arcs o.near ao ca bo cb
  rw [e0]
  clear e0
  have HK0 := Lib.hid hk0
  have HB0 := Lib.hid hb0
  clear hk0
  obtain ⟨q0, q1, q2⟩ := hb0
  have qb := lt_of_cell q0
  go_wp2_with fail
  clear q0 q1 q2 qb
  refine (RCheck_any o ao bo ca cb w0 (HO.out.kept HK0.out)).mono ?_
  rintro e w1 ⟨rfl, hk⟩
  have HK1 := Lib.hid (HK0.out.trans hk)
  have HB1 := Lib.hid (HB0.out.kept hk)
  clear hk HK0 HB0
  by_cases hc : chk o = 0
  · have hN := webOf_nI hc
    obtain ⟨q0, q1, q2⟩ := HB1.out
    have qb := lt_of_cell q0
    rw [hc]
    by_cases h12 : 12 < (webOf o).n
    · have HX : Hid (2 = er) := Lib.hid (by rw [← HER.out]; unfold errC; rw [if_pos hc, if_pos h12])
      have e1 : decide (o.N > 12) = true := decide_eq_true (by omega)
      clear hc hN h12
      go_wp2
      go_ret
      rw [← HX.out]
      exact ⟨rfl, HK1.out⟩
    · have HX : Hid (0 = er) := Lib.hid (by rw [← HER.out]; unfold errC; rw [if_pos hc, if_neg h12])
      have e1 : decide (o.N > 12) = false := decide_eq_false (by omega)
      clear hc hN h12
      go_wp2
      go_ret
      rw [← HX.out]
      exact ⟨rfl, HK1.out⟩
  · have HX : Hid (chk o = er) := Lib.hid (by rw [← HER.out]; unfold errC; rw [if_neg hc])
    have e1 : (chk o != 0) = true := by simp [hc]
    clear hc
    go_wp2
    go_ret
    rw [← HX.out]
    exact ⟨rfl, HK1.out⟩

/-! ### Bits of int -/

theorem ofInt_nat (n : Nat) : BitVec.ofInt 64 (n : Int) = BitVec.ofNat 64 n := by
  rw [BitVec.ofInt_natCast]
theorem bits_and_nat (x y : Nat) (hx : x < 9223372036854775808) : bits .and .i64 (x : Int) (y : Int) = ((x &&& (y % 18446744073709551616) : Nat) : Int) := by
  have h : (BitVec.ofNat 64 x &&& BitVec.ofNat 64 y).toNat = x &&& (y % 18446744073709551616) := by
    rw [BitVec.toNat_and, BitVec.toNat_ofNat, BitVec.toNat_ofNat, Nat.mod_eq_of_lt (show x < 2 ^ 64 by omega)]
  have hle : x &&& (y % 18446744073709551616) ≤ x := Nat.and_le_left
  unfold bits
  show IntKind.i64.wrap ((BitVec.ofInt 64 (x : Int) &&& BitVec.ofInt 64 (y : Int)).toNat : Int) = _
  rw [ofInt_nat, ofInt_nat, h]
  exact IntWalk.i64_in _ (by omega)
theorem bits_or_nat (x y : Nat) (hx : x < 4096) (hy : y < 4096) : bits .or .i64 (x : Int) (y : Int) = ((x ||| y : Nat) : Int) := by
  have h : (BitVec.ofNat 64 x ||| BitVec.ofNat 64 y).toNat = x ||| y := by
    rw [BitVec.toNat_or, BitVec.toNat_ofNat, BitVec.toNat_ofNat, Nat.mod_eq_of_lt (show x < 2 ^ 64 by omega), Nat.mod_eq_of_lt (show y < 2 ^ 64 by omega)]
  have hlt : x ||| y < 2 ^ 12 := Nat.or_lt_two_pow hx hy
  unfold bits
  show IntKind.i64.wrap ((BitVec.ofInt 64 (x : Int) ||| BitVec.ofInt 64 (y : Int)).toNat : Int) = _
  rw [ofInt_nat, ofInt_nat, h]
  exact IntWalk.i64_in _ (by omega)
theorem bit_one (x a : Nat) (hx : x < 4096) : bits .and .i64 ((x : Int) / 2 ^ a) 1 = if hasS (BitVec.ofNat 32 x) a = true then 1 else 0 := by
  have e : ((x : Int) / 2 ^ a) = ((x / 2 ^ a : Nat) : Int) := by simp
  have hle : x / 2 ^ a ≤ x := Nat.div_le_self _ _
  have h1 := bits_and_nat (x / 2 ^ a) 1 (by omega)
  rw [e, show (1 : Int) = ((1 : Nat) : Int) from rfl, h1]
  have h2 : x / 2 ^ a &&& (1 % 18446744073709551616) = x / 2 ^ a % 2 := by rw [show 1 % 18446744073709551616 = 1 by decide, Nat.and_one_is_mod]
  rw [h2]
  have h3 : hasS (BitVec.ofNat 32 x) a = decide (x / 2 ^ a % 2 = 1) := by
    unfold hasS
    rw [BitVec.getLsbD_ofNat, Nat.testBit_eq_decide_div_mod_eq]
    by_cases ha : a < 32
    · simp [ha]
    · have : x / 2 ^ a = 0 := Nat.div_eq_of_lt (Nat.lt_of_lt_of_le hx (Nat.le_trans (show 4096 ≤ 2 ^ 32 by decide) (Nat.pow_le_pow_right (by decide) (by omega))))
      rw [this]
      simp [ha]
  rw [h3]
  by_cases h4 : x / 2 ^ a % 2 = 1
  · simp [h4]
  · simp [h4]
    omega
theorem bit_is (x a : Nat) (hx : x < 4096) : (bits .and .i64 ((x : Int) / 2 ^ a) 1 == 1) = hasS (BitVec.ofNat 32 x) a := by
  rw [bit_one x a hx]
  cases hasS (BitVec.ofNat 32 x) a <;> rfl
theorem bit_not (x a : Nat) (hx : x < 4096) : (bits .and .i64 ((x : Int) / 2 ^ a) 1 == 0) = !hasS (BitVec.ofNat 32 x) a := by
  rw [bit_one x a hx]
  cases hasS (BitVec.ofNat 32 x) a <;> rfl
theorem shl_one (a : Nat) (ha : a < 12) : wrap64 (2 ^ min (IntKind.u64.wrap (a : Int)).toNat 64) = ((2 ^ a : Nat) : Int) := by
  rw [IntWalk.u64_in _ (by omega), Int.toNat_natCast, Nat.min_eq_left (by omega)]
  have : (2 : Int) ^ a = ((2 ^ a : Nat) : Int) := by simp
  rw [this]
  have h : 2 ^ a ≤ 2 ^ 12 := Nat.pow_le_pow_right (by decide) (by omega)
  generalize 2 ^ a = z at *
  unfold wrap64; omega
theorem or_one (x a : Nat) (hx : x < 4096) (ha : a < 12) : bits .or .i64 (x : Int) ((2 ^ a : Nat) : Int) = ((x ||| 2 ^ a : Nat) : Int) :=
  bits_or_nat x _ hx (Nat.lt_of_lt_of_le (Nat.pow_lt_pow_right (by decide) ha) (by decide))
theorem ofNat_or (x a : Nat) (ha : a < 12) : BitVec.ofNat 32 (x ||| 2 ^ a) = BitVec.ofNat 32 x ||| oneS a := by
  unfold oneS
  rw [BitVec.ofNat_or]
  congr 1
  apply BitVec.eq_of_toNat_eq
  have h : 2 ^ a ≤ 2 ^ 12 := Nat.pow_le_pow_right (by decide) (by omega)
  simp [BitVec.toNat_shiftLeft, Nat.shiftLeft_eq]
theorem or_bound {n x a : Nat} (hx : x < 2 ^ n) (ha : a < n) : x ||| 2 ^ a < 2 ^ n := Nat.or_lt_two_pow hx (Nat.pow_lt_pow_right (by decide) ha)
theorem or_gt {n x a : Nat} (_hx : x < 2 ^ n) (hn : n ≤ 12) (h : hasS (BitVec.ofNat 32 x) a = false) (ha : a < n) : x < x ||| 2 ^ a := by
  have h1 : x ≤ x ||| 2 ^ a := Nat.left_le_or
  rcases Nat.lt_or_eq_of_le h1 with h2 | h2
  · exact h2
  · exfalso
    have h3 : (x ||| 2 ^ a).testBit a = true := by rw [Nat.testBit_or, Nat.testBit_two_pow_self]; simp
    rw [← h2] at h3
    unfold hasS at h
    rw [BitVec.getLsbD_ofNat, h3] at h
    simp at h
    omega
end Go.Proofs.Yteljjkghjbofnaa
