/- broad, Free. -/
import Derived.Test.YteljjkghjbofnaaWw
import Derived.Test.YteljjkghjbofnaaWy
set_option maxRecDepth 100000
namespace Go.Proofs.Yteljjkghjbofnaa
open Go Go.Proofs Go.RowKit
attribute [local go_sem] Oper.semAt_some

def broadPart (some_ : S) (next : List Int) (m : Int) (k : Nat) : Int := (List.range k).foldl (broadStep some_ next) m
theorem broadPart_succ (some_ : S) (next : List Int) (m : Int) (k : Nat) : broadPart some_ next m (k + 1) = broadStep some_ next (broadPart some_ next m k) k := by unfold broadPart; rw [List.range_succ, List.foldl_append]; rfl
theorem broadPart_bound (some_ : S) (next : List Int) (m : Int) : ∀ k : Nat, m - (k : Int) ≤ broadPart some_ next m k ∧ broadPart some_ next m k ≤ m
  | 0 => by simp [broadPart]
  | k + 1 => by
    have := broadPart_bound some_ next m k
    rw [broadPart_succ]
    unfold broadStep
    split <;> omega
theorem popS_le (s : S) : popS s ≤ 32 := by
  unfold popS
  refine Nat.le_trans (List.length_filter_le _ _) ?_
  simp
theorem matchedL_ok {W : Web} {some_ : S} (hn : W.n ≤ 24) : (matchedL W some_).length = 24 := (matchSt_ok hn W.n (Nat.le_refl _)).next.1

theorem idx154 {l : List Int} {k : Nat} {x : Int} (h : l[k]? = some x) (hl : l.length = 24) (w : World) : Sem.run Try.prog (Instr.index 154 (.agg (l.map (Value.int .i64)).toArray) (.int .i64 k)) w = .ok (.int .i64 x) w := by
  have hk : k < 24 := by rw [← hl]; exact (List.getElem?_eq_some_iff.1 h).1
  simp [Instr.index, run_underlying Try.underlying154, asIntOf, go_sem, hk, h]

set_option maxHeartbeats 800000 in
theorem broad_any (b : Nat) (W : Web) (some_ : S) (w : World) (hw : WebAt w b W) (hn : W.n ≤ 24) : Calls Try.prog 126 #[.pointer (some ⟨b, 0, none⟩), .int .u32 (sI some_)] w (Gives (.int .i64 (broadI W some_)) w) := by
  have HW := Lib.hid hw
  clear hw
  have HLEN : Hid ((matchedL W some_).length = 24) := matchedL_ok hn
  have HB : Hid (broadI W some_ = broadPart some_ (matchedL W some_) (popS some_) 24) := Lib.hid rfl
  have hpop := popS_le some_
  go_enter Try.func126, Try.ntmps126
  go_wp2_with fail
  refine (ones_any some_ w).mono ?_
  rintro e w1 ⟨rfl, hk1⟩
  have HK1 := Lib.hid hk1
  clear hk1
  go_wp2_with fail
  refine (matched_any b W some_ w1 (HW.out.kept HK1.out) hn).mono ?_
  rintro e w2 ⟨rfl, hk2⟩
  have HK2 := Lib.hid (HK1.out.trans hk2)
  clear hk2
  unfold intsV
  generalize broadI W some_ = total at *
  generalize matchedL W some_ = next at *
  generalize popS some_ = m0 at *
  have hm0 : (m0 : Int) ≤ 32 := by omega
  go_wp2
  go_loop [5, 13] (fun m i => ∃ k : Nat, k ≤ 24 ∧ i = .int .i64 k ∧ m = .int .i64 (broadPart some_ next m0 k)) (fun _ i => 24 - (intOf i).toNat)
  case atStart => exact ⟨0, by omega, rfl, rfl⟩
  case round =>
    obtain ⟨k, hk, rfl, rfl⟩ := hrel
    by_cases hlt : k < 24
    · have hk32 : k < 32 := by omega
      have hki : (k : Int) < 24 := by omega
      have hkl : k < next.length := by rw [HLEN.out]; exact hlt
      have hx : next[k]? = some next[k] := List.getElem?_eq_getElem hkl
      have hxd : next.getD k 0 = next[k] := by rw [List.getD_eq_getElem?_getD, hx]; rfl
      generalize next[k] = x at hx hxd
      have hbd := broadPart_bound some_ next m0 k
      have hsc := broadPart_succ some_ next m0 k
      have HSC := Lib.hid hsc
      have HXD := Lib.hid hxd
      clear hsc hxd hkl
      generalize broadPart some_ next m0 k = m at *
      have hw1 : IntKind.i64.wrap (m - 1) = m - 1 := IntWalk.i64_in _ (by omega)
      have hidx := idx154 hx HLEN.out w2
      go_wp2_with fail
      refine (has_any some_ k _ hk32).mono ?_
      rintro e w3 ⟨rfl, rfl⟩
      cases h1 : hasS some_ k
      all_goals
        have H1 := Lib.hid h1
        clear h1
      · go_wp2
        go_round
        case rel => exact ⟨k + 1, by omega, by go_num, by rw [HSC.out]; unfold broadStep; rw [H1.out]; rfl⟩
        case measure => simp [intOf]; omega
      · by_cases hneg : 0 ≤ x
        · have HNEG := Lib.hid hneg
          have hd : decide (x ≥ 0) = true := decide_eq_true hneg
          clear hneg
          go_wp2
          go_round
          case rel => exact ⟨k + 1, by omega, by go_num, by rw [HSC.out]; unfold broadStep; rw [if_pos ⟨H1.out, by rw [HXD.out]; exact HNEG.out⟩]⟩
          case measure => simp [intOf]; omega
        · have HNEG := Lib.hid hneg
          have hd : decide (x ≥ 0) = false := decide_eq_false hneg
          clear hneg
          go_wp2
          go_round
          case rel => exact ⟨k + 1, by omega, by go_num, by rw [HSC.out]; unfold broadStep; rw [if_neg (fun h => by have h3 := HNEG.out; have h4 := h.2; rw [HXD.out] at h4; omega)]⟩
          case measure => simp [intOf]; omega
    · have hkn : k = 24 := by omega
      rw [hkn]
      have HE := Lib.hid HB.out.symm
      go_wp2
      go_ret
      exact ⟨ret_int HE.out, HK2.out⟩

/-! ### Free -/

theorem freeStep_facts (W : Web) : ∀ (k : Nat), k ≤ W.n → (freePt W k).1.length ≤ k ∧ broadI W (wholeS W.n) - (k : Int) ≤ (freePt W k).2.2 ∧ (freePt W k).2.2 ≤ broadI W (wholeS W.n)
  | 0, _ => by simp [freePt]
  | k + 1, h => by
    have := freeStep_facts W k (by omega)
    rw [freePt_succ]
    unfold freeStep
    split
    · omega
    · split
      · simp only [List.length_append, List.length_cons, List.length_nil]; omega
      · omega
theorem broadI_bound (W : Web) (some_ : S) : -24 ≤ broadI W some_ ∧ broadI W some_ ≤ 32 := by
  have h := broadPart_bound some_ (matchedL W some_) (popS some_) 24
  have h2 := popS_le some_
  have e : broadI W some_ = broadPart some_ (matchedL W some_) (popS some_) 24 := rfl
  omega
theorem sub_one_val (p : Nat) (hp : p < 32) : IntKind.u32.wrap (sI (oneS p) - 1) = sI (oneS p - 1#32) := whole_val p hp

set_option maxHeartbeats 1600000 in
theorem Free_ok (o : Prob) (ao bo : Option Addr) (ca cb : Nat) (w : World) (ho : IsProb w o ao bo) (h : errS o = 0) :
    Calls Try.prog 64 #[probV o ao ca bo cb] w (ListErr (freeL (webOf o)) 0 w) := by
  have HO := Lib.hid ho
  obtain ⟨h1, h2⟩ := errS_ok h
  have hn := webOf_n h1
  have H1 := Lib.hid h1
  have H2 := Lib.hid h2
  clear ho h h1 h2
  go_enter Try.func64, Try.ntmps64
  go_wp2_with fail
  obtain ⟨w0, e0, hk0, hb0, -⟩ := alloc_prob w o.N o.arcs o.near ao ca bo cb
  rw [e0]
  clear e0
  have HK0 := Lib.hid hk0
  clear hk0 hb0
  refine (straight_ok o ao bo ca cb w0 (HO.out.kept HK0.out) H1.out H2.out).mono ?_
  rintro e w1 ⟨b, rfl, hw1, hk1⟩
  have HW1 := Lib.hid hw1
  have HK1 := Lib.hid (HK0.out.trans hk1)
  clear hw1 hk1
  have HT : Hid ((freePt (webOf o) (webOf o).n).1 = freeL (webOf o)) := Lib.hid rfl
  generalize freeL (webOf o) = total at *
  generalize webOf o = W at *
  go_wp2_with fail
  refine (whole_any b W w1 HW1.out hn).mono ?_
  rintro e w2 ⟨rfl, rfl⟩
  go_wp2_with fail
  refine (broad_any b W (wholeS W.n) w1 HW1.out hn).mono ?_
  rintro e w2 ⟨rfl, hk2⟩
  have HW2 := Lib.hid (HW1.out.kept hk2)
  have HK2 := Lib.hid (HK1.out.trans hk2)
  have q0 := HW2.out.n
  have HB2 : Hid (b < w2.heap.size) := lt_of_cell HW2.out.n
  have HZ2 : Hid (w.heap.size ≤ w2.heap.size) := HK2.out.size
  clear hk2 HW1
  go_wp2
  clear q0
  go_loopw [6, 7, 8, 29] (fun ov sv lv i wr => ∃ k : Nat, k ≤ W.n ∧ i = .int .i64 k ∧ sv = .int .u32 (sI (freePt W k).2.1) ∧ lv = .int .i64 (freePt W k).2.2 ∧ OwnI wr w2.heap.size ov (freePt W k).1 ∧ w2.heap.size ≤ wr.heap.size ∧ WebAt wr b W ∧ Kept w wr) (fun _ _ _ i _ => W.n - (intOf i).toNat)
  case atStart => exact ⟨0, Nat.zero_le _, rfl, rfl, rfl, OwnI.nil _ _, Nat.le_refl _, HW2.out, HK2.out⟩
  case round =>
    clear HW2 HK2
    obtain ⟨k, hk, rfl, rfl, rfl, hown, hsz, hwb, hkw⟩ := hrel
    have HSZ := Lib.hid hsz
    clear hsz
    have HOWN := Lib.hid hown
    have HWB := Lib.hid hwb
    have HKW := Lib.hid hkw
    clear hown hwb hkw
    by_cases hlt : k < W.n
    · have hk32 : k < 32 := by omega
      have hk1 : k + 1 < 32 := by omega
      have hfs := freePt_succ W k
      obtain ⟨hf1, hf2, hf3⟩ := freeStep_facts W k hk
      have hbb := broadI_bound W (wholeS W.n)
      have HF1 := Lib.hid hf1
      have hlv : -100 ≤ (freePt W k).2.2 ∧ (freePt W k).2.2 ≤ 100 := by omega
      clear hf1 hf2 hf3 hbb
      have HFS := Lib.hid hfs
      clear hfs
      generalize freePt W k = st at *
      obtain ⟨out, some_, left⟩ := st
      simp only at hlv
      dsimp only
      have hw1 : IntKind.i64.wrap (left - 1) = left - 1 := IntWalk.i64_in _ (by omega)
      have hsub := sub_one_val (k + 1) hk1
      go_wp2_with fail
      refine (has_any some_ k _ hk32).mono ?_
      rintro e w3 ⟨rfl, rfl⟩
      cases h1 : hasS some_ k
      all_goals
        have H1 := Lib.hid h1
        clear h1
      · go_wp2
        go_roundw
        case rel =>
          refine ⟨k + 1, by omega, by go_num, ?_, ?_, ?_, HSZ.out, HWB.out, HKW.out⟩
          all_goals
            rw [HFS.out]
            unfold freeStep
            rw [if_pos (.inl H1.out)]
          exact HOWN.out
        case measure => simp [intOf]; omega
      · by_cases hz : left = 0
        · have hb : (left == 0) = true := by simp [hz]
          have HZ := Lib.hid hz
          clear hz
          go_wp2
          go_roundw
          case rel =>
            refine ⟨k + 1, by omega, by go_num, ?_, ?_, ?_, HSZ.out, HWB.out, HKW.out⟩
            all_goals
              rw [HFS.out]
              unfold freeStep
              rw [if_pos (.inr HZ.out)]
            exact HOWN.out
          case measure => simp [intOf]; omega
        · have hb : (left == 0) = false := by simp [hz]
          have HZ := Lib.hid hz
          clear hz
          have HST : Hid (¬ (hasS some_ k = false ∨ left = 0)) := fun h => h.elim (fun h => by rw [H1.out] at h; cases h) HZ.out
          go_wp2_with fail
          rw [show (k : Int) + 1 = ((k + 1 : Nat) : Int) by omega]
          refine (one_any (k + 1) _ hk1).mono ?_
          rintro e w3 ⟨rfl, rfl⟩
          go_wp2_with fail
          refine (free_any b W (aboveS some_ k) k _ HWB.out hn hlt).mono ?_
          rintro e w3 ⟨rfl, rfl⟩
          go_wp2_with fail
          refine (broad_any b W (freeS W (aboveS some_ k) k) _ HWB.out hn).mono ?_
          rintro e w3 ⟨rfl, hk3⟩
          have HO3 := Lib.hid (HOWN.out.kept hk3)
          have HW3 := Lib.hid (HWB.out.kept hk3)
          have HK3 := Lib.hid (HKW.out.trans hk3)
          have HS3 := Lib.hid (Nat.le_trans HSZ.out hk3.size)
          clear hk3 HOWN HWB HKW HSZ
          cases hbl : (broadI W (freeS W (aboveS some_ k) k) == left - 1)
          · have hbl' : ¬ broadI W (freeS W (aboveS some_ k) k) = left - 1 := by simpa using hbl
            have HBL := Lib.hid hbl'
            clear hbl'
            go_wp2
            go_roundw
            case rel =>
              refine ⟨k + 1, by omega, by go_num, ?_, ?_, ?_, HS3.out, HW3.out, HK3.out⟩
              all_goals
                rw [HFS.out]
                unfold freeStep
                rw [if_neg HST.out, if_neg HBL.out]
              exact HO3.out
            case measure => simp [intOf]; omega
          · have hbl' : broadI W (freeS W (aboveS some_ k) k) = left - 1 := by simpa using hbl
            have HBL := Lib.hid hbl'
            clear hbl'
            have hol : out.length < 1099511627776 := by have := HF1.out; omega
            have hbs : w2.heap.size ≤ (w3.alloc (.cells #[Value.int .i64 (k : Int)] 3)).heap.size := by have := HS3.out; simp; omega
            have hcl : (w3.alloc (.cells #[Value.int .i64 (k : Int)] 3)).cell? ⟨w3.heap.size, 0, none⟩ = some (.int .i64 k) := by simp [go_sem]
            have HOL := Lib.hid hol
            have HBS := Lib.hid hbs
            have HCL := Lib.hid hcl
            clear hol hbs hcl
            go_wp2_with (at_builtin; refine append_int _ rfl _ _ rfl w2.heap.size u6 out rfl (HO3.out.kept ((Kept.refl _).alloc _)) w3.heap.size 1 k rfl HCL.out HOL.out HBS.out ?_; intro g' c' w4 hown4 hg4; have HO4 := Lib.hid hown4; have hk4 := (HK3.out.alloc (.cells #[Value.int .i64 (k : Int)] 3)).grown hg4 (fun r e => Nat.le_trans HZ2.out (HO3.out.lt r e).1); have HK4 := Lib.hid hk4; have hw4 := (HW3.out.kept ((Kept.refl w3).alloc (.cells #[Value.int .i64 (k : Int)] 3))).grownNe hg4 (fun e => by have h1 := (HO3.out.lt b e.symm).1; have h2 := HB2.out; omega); have HW4 := Lib.hid hw4; have HS4 := Lib.hid (Nat.le_trans HBS.out hg4.size); clear hown4 hg4 hk4 hw4)
            refine ⟨⟨k + 1, by omega, by go_num, ?_, ?_, ?_, HS4.out, HW4.out, HK4.out⟩, by simp [intOf]; omega⟩
            all_goals
              rw [HFS.out]
              unfold freeStep
              rw [if_neg HST.out, if_pos HBL.out]
            exact HO4.out
    · have ek : k = W.n := by omega
      have HF : Hid ((freePt W k).1 = total) := by show _ = _; rw [ek]; exact HT.out
      clear ek
      generalize freePt W k = st at *
      obtain ⟨out, some_, left⟩ := st
      dsimp only
      go_wp2
      go_ret2
      rw [← HF.out]
      exact ⟨_, rfl, (HOWN.out.base HZ2.out).new, HKW.out⟩

set_option maxHeartbeats 400000 in
theorem Free_any (o : Prob) (ao bo : Option Addr) (ca cb : Nat) (w : World) (ho : IsProb w o ao bo) :
    Calls Try.prog 64 #[probV o ao ca bo cb] w (ListErr (FreeR o).1 (FreeR o).2 w) := by
  by_cases h : errS o = 0
  · have hr : FreeR o = (freeL (webOf o), 0) := by unfold FreeR; rw [if_pos h]
    rw [hr]
    exact Free_ok o ao bo ca cb w ho h
  · have hr : FreeR o = ([], errS o) := by unfold FreeR; rw [if_neg h]
    rw [hr]
    have HO := Lib.hid ho
    have H := Lib.hid h
    have hb : (errS o != 0) = true := by simp [h]
    clear hr h ho
    go_enter Try.func64, Try.ntmps64
    go_wp2_with fail
    obtain ⟨w0, e0, hk0, hb0, -⟩ := alloc_prob w o.N o.arcs o.near ao ca bo cb
    rw [e0]
    clear e0
    have HK0 := Lib.hid hk0
    clear hk0 hb0
    refine (straight_bad o ao bo ca cb w0 (HO.out.kept HK0.out) H.out).mono ?_
    rintro e w1 ⟨rfl, hk1⟩
    have HK1 := Lib.hid (HK0.out.trans hk1)
    clear hk1
    go_wp2
    go_ret2
    exact ⟨_, rfl, NewI.nil _ _, HK1.out⟩
end Go.Proofs.Yteljjkghjbofnaa
