/- OnesCount32, broad, free. -/
import Derived.Test.YteljjkghjbofnaaWv
import Derived.Lib.BitFns
import Derived.Lib.Walk
import Derived.Lib.Small
set_option maxRecDepth 100000
namespace Go.Proofs.Yteljjkghjbofnaa
open Go Go.Proofs Go.RowKit
attribute [local go_sem] Oper.semAt_some

theorem shr_sI (s : S) (k : Nat) : sI s / ((2 ^ k : Nat) : Int) = sI (s >>> k) := by
  unfold sI
  rw [BitVec.toNat_ushiftRight, Nat.shiftRight_eq_div_pow]
  omega
theorem and255 (t : S) : bits .and .u32 (sI t) 255 = sI (t &&& 255#32) := bits_and_sI t 255#32
theorem tab_size : (Lib.pop8tab.size : Int) = 256 := by kernel_rfl

/-- How many of the first n numbers f has. -/
def cntB (f : Nat → Bool) (n : Nat) : Nat := ((List.range n).filter f).length
theorem cntB_add (f : Nat → Bool) (a b : Nat) : cntB f (a + b) = cntB f a + cntB (fun i => f (a + i)) b := by
  unfold cntB
  rw [List.range_add, List.filter_append, List.length_append, List.filter_map, List.length_map]
  rfl
theorem cntB_congr {f g : Nat → Bool} {n : Nat} (h : ∀ i, i < n → f i = g i) : cntB f n = cntB g n := by
  unfold cntB
  rw [List.filter_congr (fun x hx => h x (List.mem_range.1 hx))]
theorem cntB_le (f : Nat → Bool) (n : Nat) : cntB f n ≤ n := by
  unfold cntB
  refine Nat.le_trans (List.length_filter_le _ _) ?_
  simp
theorem tab_val : ∀ n : Fin 256, (Lib.pop8tab[n.val]'(by rw [Lib.pop8tab_size]; exact n.isLt)).toNat = cntB (fun i => n.val.testBit i) 8 := by decide +kernel
theorem tab_at {t : S} (h : t.toNat < 256) : ∀ (hi : (sI t).toNat < Lib.pop8tab.size), (Lib.pop8tab[(sI t).toNat]'hi).toNat = cntB (fun i => hasS t i) 8 := fun _ => tab_val ⟨t.toNat, h⟩

set_option maxHeartbeats 800000 in
theorem ones_any (s : S) (w : World) : Calls Try.prog 148 #[.int .u32 (sI s)] w (Gives (.int .i64 (popS s)) w) := by
  have e24 : sI s / (16777216 : Int) = sI (s >>> 24) := shr_sI s 24
  have e16 : sI s / (65536 : Int) = sI (s >>> 16) := shr_sI s 16
  have e8 : sI s / (256 : Int) = sI (s >>> 8) := shr_sI s 8
  have a16 := and255 (s >>> 16)
  have a8 := and255 (s >>> 8)
  have a0 := and255 s
  have lt : ∀ t : S, t.toNat < 256 → (0 : Int) ≤ sI t ∧ sI t < (Lib.pop8tab.size : Int) := fun t h => by
    rw [tab_size]
    refine ⟨sI_nonneg _, ?_⟩
    unfold sI
    omega
  have lt255 : ∀ t : S, (t &&& 255#32).toNat < 256 := fun t => by
    rw [BitVec.toNat_and]
    have := Nat.and_le_right (n := t.toNat) (m := (255#32 : S).toNat)
    have e : (255#32 : S).toNat = 255 := rfl
    omega
  have b24 : (s >>> 24).toNat < 256 := by
    have h := sI_lt s
    rw [show (s >>> 24).toNat = (sI (s >>> 24)).toNat from rfl, ← e24]
    omega
  have b16 := lt255 (s >>> 16)
  have b8 := lt255 (s >>> 8)
  have b0 := lt255 s
  have l24 := lt _ b24
  have l16 := lt _ b16
  have l8 := lt _ b8
  have l0 := lt _ b0
  have c24 := tab_at b24
  have c16 := tab_at b16
  have c8 := tab_at b8
  have c0 := tab_at b0
  have hmask : ∀ i, i < 8 → hasS 255#32 i = true := by decide
  have hsum : popS s = cntB (fun i => hasS (s &&& 255#32) i) 8 + cntB (fun i => hasS ((s >>> 8) &&& 255#32) i) 8 + cntB (fun i => hasS ((s >>> 16) &&& 255#32) i) 8 + cntB (fun i => hasS (s >>> 24) i) 8 := by
    have h0 : popS s = cntB (fun i => hasS s i) (8 + 8 + 8 + 8) := rfl
    rw [h0, cntB_add, cntB_add, cntB_add]
    have sh : ∀ k i, hasS (s >>> k) i = hasS s (k + i) := fun k i => by unfold hasS; rw [BitVec.getLsbD_ushiftRight]
    rw [cntB_congr (f := fun i => hasS s i) (g := fun i => hasS (s &&& 255#32) i) (fun i hi => by rw [hasS_and, hmask i hi, Bool.and_true]),
      cntB_congr (f := fun i => hasS s (8 + i)) (g := fun i => hasS ((s >>> 8) &&& 255#32) i) (fun i hi => by rw [hasS_and, hmask i hi, Bool.and_true, sh]),
      cntB_congr (f := fun i => hasS s (8 + 8 + i)) (g := fun i => hasS ((s >>> 16) &&& 255#32) i) (fun i hi => by rw [hasS_and, hmask i hi, Bool.and_true, sh]),
      cntB_congr (f := fun i => hasS s (8 + 8 + 8 + i)) (g := fun i => hasS (s >>> 24) i) (fun i hi => by rw [sh])]
  have hle : cntB (fun i => hasS (s &&& 255#32) i) 8 ≤ 8 ∧ cntB (fun i => hasS ((s >>> 8) &&& 255#32) i) 8 ≤ 8 ∧ cntB (fun i => hasS ((s >>> 16) &&& 255#32) i) 8 ≤ 8 ∧ cntB (fun i => hasS (s >>> 24) i) 8 ≤ 8 := ⟨cntB_le _ _, cntB_le _ _, cntB_le _ _, cntB_le _ _⟩
  have HSUM := Lib.hid hsum
  have HLE := Lib.hid hle
  have C24 := Lib.hid c24
  have C16 := Lib.hid c16
  have C8 := Lib.hid c8
  have C0 := Lib.hid c0
  clear lt lt255 hmask hsum hle c24 c16 c8 c0 b24 b16 b8 b0
  generalize s >>> 24 = s24 at *
  generalize (s >>> 16) &&& 255#32 = s16 at *
  generalize (s >>> 8) &&& 255#32 = s8 at *
  generalize s &&& 255#32 = s0 at *
  go_enter Try.func148, Try.ntmps148
  go_wp2
  refine region_tail 18 (by kernel_rfl) (by kernel_rfl) ?_
  simp only [List.take_succ_cons, List.take_zero, List.drop_succ_cons, List.drop_zero]
  iterate 18 still_step
  refine wpStill_nil ?_
  go_wp2
  go_ret
  refine ⟨?_, (Kept.refl w).drew⟩
  refine ret_int ?_
  rw [C24.out, C16.out, C8.out, C0.out, HSUM.out]
  obtain ⟨h1, h2, h3, h4⟩ := HLE.out
  generalize cntB (fun i => hasS s0 i) 8 = n0 at *
  generalize cntB (fun i => hasS s8 i) 8 = n8 at *
  generalize cntB (fun i => hasS s16 i) 8 = n16 at *
  generalize cntB (fun i => hasS s24 i) 8 = n24 at *
  simp only [IntKind.wrap_u8, IntKind.wrap_i64]
  omega

/-! ### free -/

set_option maxHeartbeats 800000 in
theorem free_any (b : Nat) (W : Web) (some_ : S) (p : Nat) (w : World) (hw : WebAt w b W) (hn : W.n ≤ 24) (hp : p < W.n) : Calls Try.prog 127 #[.pointer (some ⟨b, 0, none⟩), .int .u32 (sI some_), .int .i64 p] w (Tells (.int .u32 (sI (freeS W some_ p))) w) := by
  have HW := Lib.hid hw
  have q1 := hw.n
  have q2 := hw.reach p (by omega)
  have hp24 : (p : Int) < 24 := by omega
  have hp32 : p < 32 := by omega
  clear hw
  go_enter Try.func127, Try.ntmps127
  go_wp2
  go_loop [7, 13] (fun o i => ∃ k : Nat, k ≤ W.n ∧ i = .int .i64 k ∧ o = .int .u32 (sI (freePart W some_ p k))) (fun _ i => W.n - (intOf i).toNat)
  case atStart => exact ⟨0, Nat.zero_le _, rfl, rfl⟩
  case round =>
    obtain ⟨k, hk, rfl, rfl⟩ := hrel
    by_cases hlt : k < W.n
    · have hk32 : k < 32 := by omega
      have hk24 : (k : Int) < 24 := by omega
      have q3 := HW.out.reach k (by omega)
      go_wp2_with fail
      refine (has_any some_ k _ hk32).mono ?_
      rintro e w2 ⟨rfl, rfl⟩
      cases h1 : hasS some_ k
      all_goals
        have H1 := Lib.hid h1
        clear h1
      · go_wp2
        go_round
        case rel => exact ⟨k + 1, by omega, by go_num, by rw [freePart_succ]; unfold freeB; rw [H1.out]; rfl⟩
        case measure => simp [intOf]; omega
      · by_cases hkp : k = p
        · have hne : ((k : Int) != (p : Int)) = false := by simp [hkp]
          have HKP := Lib.hid hkp
          clear hkp
          go_wp2
          go_round
          case rel => exact ⟨k + 1, by omega, by go_num, by rw [freePart_succ]; unfold freeB; rw [H1.out, HKP.out]; simp⟩
          case measure => simp [intOf]; omega
        · have hne : ((k : Int) != (p : Int)) = true := by simp; omega
          have HKP := Lib.hid hkp
          clear hkp
          go_wp2_with fail
          refine (has_any (W.reach p) k _ hk32).mono ?_
          rintro e w2 ⟨rfl, rfl⟩
          cases h2 : hasS (W.reach p) k
          all_goals
            have H2 := Lib.hid h2
            clear h2
          · go_wp2_with fail
            refine (has_any (W.reach k) p _ hp32).mono ?_
            rintro e w2 ⟨rfl, rfl⟩
            cases h3 : hasS (W.reach k) p
            all_goals
              have H3 := Lib.hid h3
              clear h3
            · go_wp2_with fail
              refine (one_any k _ hk32).mono ?_
              rintro e w2 ⟨rfl, rfl⟩
              go_wp2
              go_round
              case rel => exact ⟨k + 1, by omega, by go_num, by rw [freePart_succ]; unfold freeB; rw [H1.out, H2.out, H3.out]; simp [HKP.out]⟩
              case measure => simp [intOf]; omega
            · go_wp2
              go_round
              case rel => exact ⟨k + 1, by omega, by go_num, by rw [freePart_succ]; unfold freeB; rw [H1.out, H2.out, H3.out]; simp⟩
              case measure => simp [intOf]; omega
          · go_wp2
            go_round
            case rel => exact ⟨k + 1, by omega, by go_num, by rw [freePart_succ]; unfold freeB; rw [H1.out, H2.out]; simp⟩
            case measure => simp [intOf]; omega
    · have hkn : k = W.n := by omega
      have HK := Lib.hid hkn
      clear hkn
      go_wp2
      go_ret
      refine ⟨?_, rfl⟩
      rw [HK.out]
      rfl
end Go.Proofs.Yteljjkghjbofnaa
