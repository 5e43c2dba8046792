/- open, circular, straight, is, whole, each, ordered, isDry: contracts over the web. -/
import Derived.Test.YteljjkghjbofnaaWc
set_option maxRecDepth 100000
namespace Go.Proofs.Yteljjkghjbofnaa
open Go Go.Proofs Go.RowKit

/-! ### open -/

def OpenPost (o : Prob) (w : World) (e : Ending) (w' : World) : Prop :=
  ∃ b, e = .returned (.tuple #[.pointer (some ⟨b, 0, none⟩), .int .i64 0]) ∧ WebAt w' b (webOf o) ∧ Kept w w'

set_option maxHeartbeats 400000 in
theorem open_ok (o : Prob) (ao bo : Option Addr) (ca cb : Nat) (w : World) (ho : IsProb w o ao bo) (hv : chk o = 0) :
    Calls Try.prog 75 #[probV o ao ca bo cb] w (OpenPost o w) := by
  have HO := Lib.hid ho
  have HV := Lib.hid hv
  clear ho hv
  go_enter Try.func75, Try.ntmps75
  go_wp2_with fail
  obtain ⟨w0, e0, hk0, hb0, -⟩ := alloc_prob w o.N o.arcs o.near ao ca bo cb
  rw [e0]
  clear e0
  have HK0 := Lib.hid hk0
  have HB0 := Lib.hid hb0
  clear hk0 hb0
  refine (Check_any o ao bo ca cb w0 (HO.out.kept HK0.out)).mono ?_
  rintro e w1 ⟨rfl, hk1⟩
  have HB1 := Lib.hid (HB0.out.kept hk1)
  have HK1 := Lib.hid (HK0.out.trans hk1)
  clear hk1
  obtain ⟨q0, q1, q2⟩ := HB1.out
  rw [HV.out]
  go_wp2_with fail
  refine (woven_any o ao bo ca cb w1 (HO.out.kept HK1.out) HV.out).mono ?_
  rintro e w2 ⟨b, rfl, hw2, hk2⟩
  have HW2 := Lib.hid hw2
  have HK2 := Lib.hid (HK1.out.trans hk2)
  clear hw2 hk2
  go_wp2
  go_ret2
  exact ⟨b, rfl, HW2.out, HK2.out⟩

set_option maxHeartbeats 400000 in
theorem open_bad (o : Prob) (ao bo : Option Addr) (ca cb : Nat) (w : World) (ho : IsProb w o ao bo) (hv : chk o ≠ 0) :
    Calls Try.prog 75 #[probV o ao ca bo cb] w (Gives (.tuple #[.pointer none, .int .i64 (chk o)]) w) := by
  have HO := Lib.hid ho
  have hv' : (chk o != 0) = true := by simp [hv]
  clear ho hv
  go_enter Try.func75, Try.ntmps75
  go_wp2_with fail
  obtain ⟨w0, e0, hk0, hb0, -⟩ := alloc_prob w o.N o.arcs o.near ao ca bo cb
  rw [e0]
  clear e0
  have HK0 := Lib.hid hk0
  have HB0 := Lib.hid hb0
  clear hk0 hb0
  refine (Check_any o ao bo ca cb w0 (HO.out.kept HK0.out)).mono ?_
  rintro e w1 ⟨rfl, hk1⟩
  have HK1 := Lib.hid (HK0.out.trans hk1)
  clear hk1
  go_wp2
  go_ret2
  exact ⟨rfl, HK1.out⟩

/-! ### methods of the web -/

def circB (W : Web) : Bool := (List.range W.n).any fun a => hasS (W.reach a) a

theorem any_range_succ (p : Nat → Bool) (k : Nat) : (List.range (k + 1)).any p = ((List.range k).any p || p k) := by simp [List.range_succ, List.any_append]

set_option maxHeartbeats 800000 in
theorem circular_any (b : Nat) (W : Web) (w : World) (hw : WebAt w b W) (hn : W.n ≤ 24) :
    Calls Try.prog 86 #[.pointer (some ⟨b, 0, none⟩)] w (Tells (.bool (circB W)) w) := by
  have hn0 := hw.n
  have HW := Lib.hid hw
  clear hw
  go_enter Try.func86, Try.ntmps86
  go_wp2
  clear hn0
  go_loop [8] (fun i => ∃ k : Nat, k ≤ W.n ∧ i = .int .i64 k ∧ (List.range k).any (fun a => hasS (W.reach a) a) = false) (fun i => W.n - (intOf i).toNat)
  case atStart => exact ⟨0, Nat.zero_le _, rfl, rfl⟩
  case round =>
    obtain ⟨k, hk, rfl, hn1⟩ := hrel
    have HN := Lib.hid hn1
    clear hn1
    by_cases hlt : k < W.n
    · have hki : (k : Int) < 24 := by omega
      have hra := HW.out.reach k (by omega)
      go_wp2_with fail
      refine (has_any _ k _ (by omega)).mono ?_
      rintro e w2 ⟨rfl, rfl⟩
      cases hh : hasS (W.reach k) k
      all_goals
        have HH := Lib.hid hh
        clear hh
      · go_wp2
        go_round
        case rel => exact ⟨k + 1, by omega, by go_num, by rw [any_range_succ, HN.out, HH.out]; rfl⟩
        case measure => simp [intOf]; omega
      · go_wp2
        go_ret
        refine ⟨ret_bool ?_, rfl⟩
        unfold circB
        rw [Eq.comm, List.any_eq_true]
        exact ⟨k, List.mem_range.2 hlt, HH.out⟩
    · have ek : k = W.n := by omega
      rw [ek] at HN
      clear ek
      go_wp2
      go_ret
      exact ⟨ret_bool HN.out.symm, rfl⟩

set_option maxHeartbeats 400000 in
theorem is_any (b : Nat) (W : Web) (p : Int) (w : World) (hw : WebAt w b W) :
    Calls Try.prog 76 #[.pointer (some ⟨b, 0, none⟩), .int .i64 p] w (Tells (.bool (decide (0 ≤ p) && decide (p < W.n))) w) := by
  have hn0 := hw.n
  clear hw
  by_cases h1 : 0 ≤ p
  · go_enter Try.func76, Try.ntmps76
    go_wp2
    go_ret
    exact ⟨ret_bool (by simp [h1]), rfl⟩
  · go_enter Try.func76, Try.ntmps76
    go_wp2
    go_ret
    exact ⟨ret_bool (by simp; omega), rfl⟩

/-- All of n patches. -/
def wholeS (n : Nat) : S := oneS n - 1#32

theorem whole_val (n : Nat) (hn : n < 32) : IntKind.u32.wrap (sI (oneS n) - 1) = sI (wholeS n) := by
  rw [IntKind.wrap_u32]
  unfold wholeS sI
  rw [BitVec.toNat_sub]
  have h1 : (oneS n).toNat = 2 ^ n := by
    unfold oneS
    rw [BitVec.toNat_shiftLeft]
    simp [Nat.shiftLeft_eq]
    exact Nat.pow_lt_pow_right (by decide) hn
  have h2 : 0 < 2 ^ n := Nat.two_pow_pos n
  have h3 : 2 ^ n < 2 ^ 32 := Nat.pow_lt_pow_right (by decide) hn
  rw [h1]
  simp
  omega

set_option maxHeartbeats 400000 in
theorem whole_any (b : Nat) (W : Web) (w : World) (hw : WebAt w b W) (hn : W.n ≤ 24) :
    Calls Try.prog 125 #[.pointer (some ⟨b, 0, none⟩)] w (Tells (.int .u32 (sI (wholeS W.n))) w) := by
  have hn0 := hw.n
  clear hw
  go_enter Try.func125, Try.ntmps125
  go_wp2_with fail
  refine (one_any W.n _ (by omega)).mono ?_
  rintro e w2 ⟨rfl, rfl⟩
  go_wp2
  go_ret
  refine ⟨ret_int ?_, rfl⟩
  rw [← whole_val W.n (by omega), IntKind.wrap_u32]

/-- Does a list have different patches? -/
def eachB (n : Nat) (l : List Int) : Bool := decide ((∀ p ∈ l, 0 ≤ p ∧ p < n) ∧ l.Nodup)

theorem eachB_range {n : Nat} {l : List Int} {k : Nat} (hk : k < l.length) (h : ¬ (0 ≤ l[k] ∧ l[k] < n)) : eachB n l = false := by
  unfold eachB
  rw [decide_eq_false_iff_not]
  exact fun h' => h (h'.1 _ (List.getElem_mem hk))
theorem eachB_twice {n : Nat} {l : List Int} {k : Nat} (hk : k < l.length) (h : l[k] ∈ l.take k) : eachB n l = false := by
  unfold eachB
  rw [decide_eq_false_iff_not]
  intro h'
  have h2 := h'.2
  rw [← List.take_append_drop k l, List.nodup_append] at h2
  exact h2.2.2 _ h _ (by rw [List.drop_eq_getElem_cons hk]; exact List.mem_cons_self) rfl
theorem nodup_take_succ {l : List Int} {k : Nat} (hk : k < l.length) (h : (l.take k).Nodup) (hn : l[k] ∉ l.take k) : (l.take (k + 1)).Nodup := by
  rw [List.take_succ_eq_append_getElem hk, List.nodup_append]
  exact ⟨h, by simp, fun a ha b hb => by simp at hb; subst hb; exact fun e => hn (e ▸ ha)⟩
theorem forall_take_succ {P : Int → Prop} {l : List Int} {k : Nat} (hk : k < l.length) (h : ∀ p ∈ l.take k, P p) (hn : P l[k]) : ∀ p ∈ l.take (k + 1), P p := by
  rw [List.take_succ_eq_append_getElem hk]
  intro p hp
  rw [List.mem_append] at hp
  rcases hp with hp | hp
  · exact h p hp
  · simp at hp; subst hp; exact hn

set_option maxHeartbeats 800000 in
theorem each_any (b : Nat) (W : Web) (l : List Int) (ao : Option Addr) (c : Nat) (w : World) (hw : WebAt w b W) (hn : W.n ≤ 24) (hl : Ints w ao l) (hll : l.length < 1152921504606846976) :
    Calls Try.prog 99 #[.pointer (some ⟨b, 0, none⟩), .slice ao l.length c] w (Tells (.bool (eachB W.n l)) w) := by
  have HW := Lib.hid hw
  clear hw
  go_enter Try.func99, Try.ntmps99
  go_wp2
  go_loop [5, 10] (fun s i => ∃ k : Nat, k ≤ l.length ∧ i = .int .i64 k ∧ s = .int .u32 (sI (setS (l.take k))) ∧ (∀ p ∈ l.take k, 0 ≤ p ∧ p < (W.n : Int)) ∧ (l.take k).Nodup) (fun _ i => l.length - (intOf i).toNat)
  case atStart => exact ⟨0, Nat.zero_le _, rfl, rfl, by simp, by simp⟩
  case round =>
    obtain ⟨k, hk, rfl, rfl, hr, hd⟩ := hrel
    have HR := Lib.hid hr
    have HD := Lib.hid hd
    clear hr hd
    by_cases hlt : k < l.length
    · obtain ⟨B, off, rfl, hc⟩ := hl k hlt
      have HL := Lib.hid hl
      clear hl
      by_cases hin : 0 ≤ l[k] ∧ l[k] < W.n
      · obtain ⟨hp0, hp1⟩ := hin
        obtain ⟨p, hp⟩ := Int.eq_ofNat_of_zero_le hp0
        have HP := Lib.hid hp
        rw [hp] at hp1 hc
        clear hp hp0
        have hb1 : (decide ((0 : Int) ≤ (p : Int)) && decide ((p : Int) < (W.n : Int))) = true := by simp; omega
        go_wp2_with fail
        refine (is_any b W p _ HW.out).mono ?_
        rintro e w2 ⟨rfl, rfl⟩
        rw [hb1]
        clear hb1
        go_wp2_with fail
        refine (has_any _ p _ (by omega)).mono ?_
        rintro e w2 ⟨rfl, rfl⟩
        cases hh : hasS (setS (l.take k)) p
        all_goals
          have HH := Lib.hid hh
          clear hh
        · go_wp2_with fail
          refine (one_any p _ (by omega)).mono ?_
          rintro e w2 ⟨rfl, rfl⟩
          go_wp2
          go_round
          case rel =>
            have hnot : l[k] ∉ l.take k := by
              have h := HH.out
              rw [hasS_setS _ (fun q hq => by have := HR.out q hq; omega)] at h
              rw [HP.out]; simpa using h
            exact ⟨k + 1, by omega, by go_num, by rw [setS_take l k hlt, HP.out]; rfl, forall_take_succ hlt HR.out (by rw [HP.out]; omega), nodup_take_succ hlt HD.out hnot⟩
          case measure => simp [intOf]; omega
        · go_wp2
          go_ret
          refine ⟨ret_bool (Eq.symm (eachB_twice hlt ?_)), rfl⟩
          have h := HH.out
          rw [hasS_setS _ (fun q hq => by have := HR.out q hq; omega)] at h
          rw [HP.out]; simpa using h
      · have hb1 : (decide ((0 : Int) ≤ l[k]) && decide (l[k] < (W.n : Int))) = false := by simp; omega
        have HIN := Lib.hid hin
        clear hin
        go_wp2_with fail
        refine (is_any b W l[k] _ HW.out).mono ?_
        rintro e w2 ⟨rfl, rfl⟩
        rw [hb1]
        clear hb1
        go_wp2
        go_ret
        exact ⟨ret_bool (Eq.symm (eachB_range hlt HIN.out)), rfl⟩
    · have ek : l.take k = l := List.take_of_length_le (by omega)
      rw [ek] at HR HD
      clear ek hl
      go_wp2
      go_ret
      refine ⟨ret_bool ?_, rfl⟩
      unfold eachB
      rw [Eq.comm, decide_eq_true_eq]
      exact ⟨HR.out, HD.out⟩

/-! ### straight -/

/-- What 'straight' says is wrong: what Check says, or 50: a circle. -/
def errS (o : Prob) : Int := if chk o = 0 then (if circB (webOf o) then 50 else 0) else chk o

set_option maxHeartbeats 400000 in
theorem straight_ok (o : Prob) (ao bo : Option Addr) (ca cb : Nat) (w : World) (ho : IsProb w o ao bo) (hv : chk o = 0) (hc : circB (webOf o) = false) :
    Calls Try.prog 102 #[probV o ao ca bo cb] w (OpenPost o w) := by
  have HO := Lib.hid ho
  have HV := Lib.hid hv
  have HC := Lib.hid hc
  have h24 : (webOf o).n ≤ 24 := by have := (pair_of_chk hv).2.1; unfold webOf; simp; omega
  have H24 := Lib.hid h24
  clear ho hv hc h24
  go_enter Try.func102, Try.ntmps102
  go_wp2_with fail
  obtain ⟨w0, e0, hk0, hb0, -⟩ := alloc_prob w o.N o.arcs o.near ao ca bo cb
  rw [e0]
  clear e0
  have HK0 := Lib.hid hk0
  clear hk0 hb0
  refine (open_ok o ao bo ca cb w0 (HO.out.kept HK0.out) HV.out).mono ?_
  rintro e w1 ⟨b, rfl, hw1, hk1⟩
  have HW1 := Lib.hid hw1
  have HK1 := Lib.hid (HK0.out.trans hk1)
  clear hw1 hk1
  go_wp2_with fail
  refine (circular_any b (webOf o) _ HW1.out H24.out).mono ?_
  rintro e w2 ⟨rfl, rfl⟩
  rw [HC.out]
  go_wp2
  go_ret2
  exact ⟨b, rfl, HW1.out, HK1.out⟩

set_option maxHeartbeats 400000 in
theorem straight_bad (o : Prob) (ao bo : Option Addr) (ca cb : Nat) (w : World) (ho : IsProb w o ao bo) (hv : errS o ≠ 0) :
    Calls Try.prog 102 #[probV o ao ca bo cb] w (Gives (.tuple #[.pointer none, .int .i64 (errS o)]) w) := by
  have HO := Lib.hid ho
  clear ho
  by_cases hc : chk o = 0
  · have hcirc : circB (webOf o) = true := by
      cases h : circB (webOf o)
      · exact absurd (by simp [errS, hc, h]) hv
      · rfl
    have he : errS o = 50 := by simp [errS, hc, hcirc]
    rw [he]
    have HV := Lib.hid hc
    have HC := Lib.hid hcirc
    have h24 : (webOf o).n ≤ 24 := by have := (pair_of_chk hc).2.1; unfold webOf; simp; omega
    have H24 := Lib.hid h24
    clear hv hc h24 hcirc he
    go_enter Try.func102, Try.ntmps102
    go_wp2_with fail
    obtain ⟨w0, e0, hk0, hb0, -⟩ := alloc_prob w o.N o.arcs o.near ao ca bo cb
    rw [e0]
    clear e0
    have HK0 := Lib.hid hk0
    clear hk0 hb0
    refine (open_ok o ao bo ca cb w0 (HO.out.kept HK0.out) HV.out).mono ?_
    rintro e w1 ⟨b, rfl, hw1, hk1⟩
    have HW1 := Lib.hid hw1
    have HK1 := Lib.hid (HK0.out.trans hk1)
    clear hw1 hk1
    go_wp2_with fail
    refine (circular_any b (webOf o) _ HW1.out H24.out).mono ?_
    rintro e w2 ⟨rfl, rfl⟩
    rw [HC.out]
    go_wp2
    go_ret2
    exact ⟨rfl, HK1.out⟩
  · have he : errS o = chk o := by simp [errS, hc]
    rw [he]
    have hv' : (chk o != 0) = true := by simp [hc]
    have HC := Lib.hid hc
    clear hv he hc
    go_enter Try.func102, Try.ntmps102
    go_wp2_with fail
    obtain ⟨w0, e0, hk0, hb0, -⟩ := alloc_prob w o.N o.arcs o.near ao ca bo cb
    rw [e0]
    clear e0
    have HK0 := Lib.hid hk0
    clear hk0 hb0
    refine (open_bad o ao bo ca cb w0 (HO.out.kept HK0.out) HC.out).mono ?_
    rintro e w1 ⟨rfl, hk1⟩
    have HK1 := Lib.hid (HK0.out.trans hk1)
    clear hk1
    go_wp2
    go_ret2
    exact ⟨rfl, HK1.out⟩

/-! ### ordered -/

/-- Is a list of different patches one in which no arc leads back? -/
def orderedB (W : Web) (l : List Int) : Bool :=
  decide (l.length = W.n) && eachB W.n l && (List.range l.length).all fun i => W.to (l.getD i 0).toNat &&& setS (l.take i) == 0#32

theorem orderedB_back {W : Web} {l : List Int} {k : Nat} (hk : k < l.length) (h : ¬ (W.to l[k].toNat &&& setS (l.take k) = 0#32)) : orderedB W l = false := by
  unfold orderedB
  have : ((List.range l.length).all fun i => W.to (l.getD i 0).toNat &&& setS (l.take i) == 0#32) = false := by
    rw [List.all_eq_false]
    refine ⟨k, List.mem_range.2 hk, ?_⟩
    rw [List.getD_eq_getElem?_getD, List.getElem?_eq_getElem hk]
    simpa using h
  rw [this, Bool.and_false]

set_option maxHeartbeats 1200000 in
theorem ordered_any (b : Nat) (W : Web) (l : List Int) (ao : Option Addr) (c : Nat) (w : World) (hw : WebAt w b W) (hn : W.n ≤ 24) (hl : Ints w ao l) (hll : l.length < 1152921504606846976) :
    Calls Try.prog 104 #[.pointer (some ⟨b, 0, none⟩), .slice ao l.length c] w (Tells (.bool (orderedB W l)) w) := by
  have HW := Lib.hid hw
  have HL := Lib.hid hl
  have hn0 := hw.n
  clear hw hl
  by_cases hlen : l.length = W.n
  · have hb0 : ((l.length : Int) != (W.n : Int)) = false := by simp [hlen]
    have HLEN := Lib.hid hlen
    clear hlen
    go_enter Try.func104, Try.ntmps104
    go_wp2_with fail
    refine (each_any b W l ao c _ HW.out hn HL.out hll).mono ?_
    rintro e w2 ⟨rfl, rfl⟩
    cases he : eachB W.n l
    all_goals
      have HE := Lib.hid he
      clear he hn0 hb0
    · go_wp2
      go_ret
      exact ⟨ret_bool (by simp [orderedB, HE.out]), rfl⟩
    · have hin : ∀ p ∈ l, 0 ≤ p ∧ p < (W.n : Int) := by have := HE.out; unfold eachB at this; exact (of_decide_eq_true this).1
      have HIN := Lib.hid hin
      clear hin
      go_wp2
      go_loop [5, 23] (fun s i => ∃ k : Nat, k ≤ l.length ∧ i = .int .i64 k ∧ s = .int .u32 (sI (setS (l.take k))) ∧ (∀ i, (h : i < l.length) → i < k → W.to l[i].toNat &&& setS (l.take i) = 0#32)) (fun _ i => l.length - (intOf i).toNat)
      case atStart => exact ⟨0, Nat.zero_le _, rfl, rfl, fun i _ h => by omega⟩
      case round =>
        obtain ⟨k, hk, rfl, rfl, hr⟩ := hrel
        have HR := Lib.hid hr
        clear hr
        by_cases hlt : k < l.length
        · obtain ⟨B, off, rfl, hc⟩ := HL.out k hlt
          obtain ⟨hp0, hp1⟩ := HIN.out l[k] (List.getElem_mem hlt)
          obtain ⟨p, hp⟩ := Int.eq_ofNat_of_zero_le hp0
          have HP := Lib.hid hp
          rw [hp] at hp1 hc
          clear hp hp0
          have hpi : (p : Int) < 24 := by omega
          have hto := HW.out.to p (by omega)
          by_cases hz : W.to p &&& setS (l.take k) = 0#32
          · have hb1 : (sI (W.to p &&& setS (l.take k)) != 0) = false := by simp [sI_eq_zero, hz]
            have HZ := Lib.hid hz
            clear hz
            go_wp2_with fail
            refine (one_any p _ (by omega)).mono ?_
            rintro e w2 ⟨rfl, rfl⟩
            go_wp2
            go_round
            case rel =>
              refine ⟨k + 1, by omega, by go_num, by rw [setS_take l k hlt, HP.out]; rfl, fun i h hi => ?_⟩
              rcases Nat.lt_or_ge i k with h' | h'
              · exact HR.out i h h'
              · obtain rfl : i = k := by omega
                rw [HP.out]; exact HZ.out
            case measure => simp [intOf]; omega
          · have hb1 : (sI (W.to p &&& setS (l.take k)) != 0) = true := by simp [sI_eq_zero, hz]
            have HZ := Lib.hid hz
            clear hz
            go_wp2
            go_ret
            exact ⟨ret_bool (Eq.symm (orderedB_back hlt (by rw [HP.out]; exact HZ.out))), rfl⟩
        · go_wp2
          go_ret
          refine ⟨ret_bool ?_, rfl⟩
          unfold orderedB
          rw [HE.out, Eq.comm, Bool.and_true, Bool.and_eq_true]
          refine ⟨decide_eq_true HLEN.out, ?_⟩
          rw [List.all_eq_true]
          intro i hi
          have hi' := List.mem_range.1 hi
          rw [List.getD_eq_getElem?_getD, List.getElem?_eq_getElem hi']
          simpa using HR.out i hi' (by omega)
  · have hb0 : ((l.length : Int) != (W.n : Int)) = true := by simp; omega
    have HLEN := Lib.hid hlen
    clear hlen
    go_enter Try.func104, Try.ntmps104
    go_wp2
    go_ret
    exact ⟨ret_bool (by simp [orderedB, HLEN.out]), rfl⟩

end Go.Proofs.Yteljjkghjbofnaa
