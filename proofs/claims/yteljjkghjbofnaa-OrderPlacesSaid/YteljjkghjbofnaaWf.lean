/- order.Least. -/
import Derived.Test.YteljjkghjbofnaaWe
set_option maxRecDepth 100000
namespace Go.Proofs.Yteljjkghjbofnaa
open Go Go.Proofs Go.RowKit
attribute [local go_sem] Oper.semAt_some

set_option maxHeartbeats 4000000 in
theorem Least_any (o : Prob) (ao bo : Option Addr) (ca cb : Nat) (w : World) (ho : IsProb w o ao bo) :
    Calls Try.prog 60 #[probV o ao ca bo cb] w (PairErr (LeastR o).1 (LeastR o).2 w) := by
  have HO := Lib.hid ho
  clear ho
  obtain ⟨r1, hr1⟩ : ∃ r, (LeastR o).1 = r := ⟨_, rfl⟩
  obtain ⟨r2, hr2⟩ : ∃ r, (LeastR o).2 = r := ⟨_, rfl⟩
  rw [hr1, hr2]
  have HR1 := Lib.hid hr1
  have HR2 := Lib.hid hr2
  clear hr1 hr2
  go_enter Try.func60, Try.ntmps60
  go_wp2_with fail
  obtain ⟨w0, e0, hk0, hb0, hs0⟩ := alloc_prob w o.N o.arcs o.near ao ca bo cb
  rw [e0]
  clear e0
  have HK0 := Lib.hid hk0
  have HB0 := Lib.hid hb0
  have HWL : Hid (w.heap.size < w0.heap.size) := Lib.hid (by omega)
  clear hk0 hs0
  obtain ⟨q0, q1, q2⟩ := hb0
  have qb := lt_of_cell q0
  go_wp2_with fail
  clear q0 q1 q2 qb
  by_cases hc : chk o = 0
  case neg =>
    have HX : Hid ([] = r1 ∧ chk o = r2) := Lib.hid (by rw [← HR1.out, ← HR2.out]; unfold LeastR; rw [if_neg hc]; exact ⟨rfl, rfl⟩)
    have e1 : (chk o != 0) = true := by simp [hc]
    refine (open_bad o ao bo ca cb w0 (HO.out.kept HK0.out) hc).mono ?_
    rintro e w1 ⟨rfl, hk1⟩
    have HK1 := Lib.hid (HK0.out.trans hk1)
    clear hk1 hc
    go_wp2
    go_ret2
    rw [← HX.out.1, ← HX.out.2]
    exact ⟨none, 0, rfl, Pairs.nil _ _, HK1.out⟩
  have HC := Lib.hid hc
  have HRR : Hid (LeastR o = if 8 < o.N ∨ 16 < o.arcs.length then ([], 2) else (pickT o.arcs (leastOf (okC o) o.arcs.length) o.arcs.length, 0)) := Lib.hid (by unfold LeastR; rw [if_pos hc])
  refine (open_ok o ao bo ca cb w0 (HO.out.kept HK0.out) hc).mono ?_
  rintro e w1 ⟨b, rfl, hw1, hk1⟩
  have HK1 := Lib.hid (HK0.out.trans hk1)
  have HB1 := Lib.hid (HB0.out.kept hk1)
  have HNN := Lib.hid (webOf_nI hc)
  have hwn := hw1.n
  have HWL1 : Hid (w.heap.size < w1.heap.size) := Lib.hid (Nat.lt_of_lt_of_le HWL.out hk1.size)
  clear hw1 hk1 hc
  obtain ⟨q0, q1, q2⟩ := HB1.out
  have qb := lt_of_cell q0
  by_cases h8 : 8 < o.N
  · have HX : Hid ([] = r1 ∧ 2 = r2) := Lib.hid (by rw [← HR1.out, ← HR2.out, HRR.out, if_pos (.inl h8)]; exact ⟨rfl, rfl⟩)
    have e1 : decide (((webOf o).n : Int) > 8) = true := decide_eq_true (by have := HNN.out; omega)
    clear h8
    go_wp2
    go_ret2
    rw [← HX.out.1, ← HX.out.2]
    exact ⟨none, 0, rfl, Pairs.nil _ _, HK1.out⟩
  have e1 : decide (((webOf o).n : Int) > 8) = false := decide_eq_false (by have := HNN.out; omega)
  by_cases h16 : 16 < o.arcs.length
  · have HX : Hid ([] = r1 ∧ 2 = r2) := Lib.hid (by rw [← HR1.out, ← HR2.out, HRR.out, if_pos (.inr h16)]; exact ⟨rfl, rfl⟩)
    have e2 : decide ((o.arcs.length : Int) > 16) = true := decide_eq_true (by omega)
    have e3 : decide (16 < o.arcs.length) = true := decide_eq_true h16
    clear h8 h16
    go_wp2
    go_ret2
    rw [← HX.out.1, ← HX.out.2]
    exact ⟨none, 0, rfl, Pairs.nil _ _, HK1.out⟩
  have e2 : decide ((o.arcs.length : Int) > 16) = false := decide_eq_false (by omega)
  have e3 : decide (16 < o.arcs.length) = false := decide_eq_false h16
  have HX : Hid (pickT o.arcs (leastOf (okC o) o.arcs.length) o.arcs.length = r1 ∧ 0 = r2) := Lib.hid (by rw [← HR1.out, ← HR2.out, HRR.out, if_neg (fun h => h.elim h8 h16)]; exact ⟨rfl, rfl⟩)
  have hm16 : o.arcs.length ≤ 16 := by omega
  have HALL := Lib.hid (okC_all HC.out)
  clear h8 h16 HRR
  have hsf := fun (a : Addr) (c : Array Value) (w : World) => run_store Try.prog w a (.func (.func 120) #[] c) .plain rfl
  go_wp2_with (at_make; refine make_one w1 rfl _ _ 104 4 _ 1 rfl Try.underlying104 info4 rfl (by decide) o.arcs.length rfl rfl (by omega) ?_; intro w2 hs2 hc2 hf2 hk2; have HS2 := Lib.hid hs2; have HC2 := Lib.hid hc2; have HF2 := Lib.hid hf2; have HK2 := Lib.hid hk2; clear hs2 hc2 hf2 hk2)
  clear q0 q1 q2 qb e1 e2 e3 hwn hsf
  have hkz : Kept w2 ((w2.alloc (.cells #[.slice (some ⟨w1.heap.size, 0, none⟩) o.arcs.length o.arcs.length] 104)).alloc (.cells #[takeV w.heap.size w2.heap.size (w2.heap.size + 1)] 129)) := ((Kept.refl _).alloc _).alloc _
  have hgs : ((w2.alloc (.cells #[.slice (some ⟨w1.heap.size, 0, none⟩) o.arcs.length o.arcs.length] 104)).alloc (.cells #[takeV w.heap.size w2.heap.size (w2.heap.size + 1)] 129)).cell? ⟨w2.heap.size, 0, none⟩ = some (.slice (some ⟨w1.heap.size, 0, none⟩) o.arcs.length o.arcs.length) := by simp [go_sem]
  have htk : ((w2.alloc (.cells #[.slice (some ⟨w1.heap.size, 0, none⟩) o.arcs.length o.arcs.length] 104)).alloc (.cells #[takeV w.heap.size w2.heap.size (w2.heap.size + 1)] 129)).cell? ⟨w2.heap.size + 1, 0, none⟩ = some (takeV w.heap.size w2.heap.size (w2.heap.size + 1)) := by simp [go_sem]
  unfold takeV at hkz hgs htk
  generalize ((w2.alloc (.cells #[.slice (some ⟨w1.heap.size, 0, none⟩) o.arcs.length o.arcs.length] 104)).alloc (.cells #[.func (.func 120) #[] #[.pointer (some ⟨w.heap.size, 0, none⟩), .pointer (some ⟨w2.heap.size, 0, none⟩), .pointer (some ⟨w2.heap.size + 1, 0, none⟩)]] 129)) = w3 at *
  have hts : TakeS w1 w.heap.size w2.heap.size (w2.heap.size + 1) w1.heap.size o ao ca bo cb [] w3 :=
    ⟨HK2.out.trans hkz, (HB1.out.kept HK2.out).kept hkz, hgs, htk, fun i hi => by
      rw [show decide (i ∈ ([] : List Nat)) = false by simp]
      exact hkz.cell (HC2.out i hi), fun k => (hkz.cells.2 _ k HS2.out).trans (HF2.out k), Nat.lt_of_lt_of_le HS2.out hkz.size⟩
  have HTS0 := Lib.hid hts
  have HNE : Hid (w.heap.size ≠ w1.heap.size ∧ w2.heap.size ≠ w1.heap.size ∧ w2.heap.size + 1 ≠ w1.heap.size) := Lib.hid (by have := HWL1.out; have := HS2.out; exact ⟨by omega, by omega, by omega⟩)
  clear hkz hgs htk hts
  have HP1 := Lib.hid (HO.out.kept HK1.out)
  obtain ⟨ob, hob⟩ : ∃ ob, w.heap.size = ob := ⟨_, rfl⟩
  obtain ⟨gb, hgb⟩ : ∃ gb, w2.heap.size = gb := ⟨_, rfl⟩
  obtain ⟨tb, htb⟩ : ∃ tb, gb + 1 = tb := ⟨_, rfl⟩
  obtain ⟨G, hG⟩ : ∃ G, w1.heap.size = G := ⟨_, rfl⟩
  have HGW := Lib.hid hG
  rw [hob, hgb, htb, hG] at HTS0 HNE
  rw [hob, hgb, htb, hG]
  clear hob hgb htb hG HS2 HC2 HF2 HK2 HB0 HB1
  go_loopw [8] (fun mv wr => ∃ k : Nat, k ≤ o.arcs.length ∧ mv = .int .i64 k ∧ (∀ j, j < k → takeF (okC o) o.arcs.length j 0 [] = none) ∧ TakeS w1 ob gb tb G o ao ca bo cb [] wr) (fun i _ => o.arcs.length + 1 - (intOf i).toNat)
  case atStart => exact ⟨0, Nat.zero_le _, rfl, fun j h => by omega, HTS0.out⟩
  case round =>
    obtain ⟨k, hk, rfl, hno, hts⟩ := hrel
    have HTS := Lib.hid hts
    have HNO := Lib.hid hno
    have t0 := hts.tk
    unfold takeV at t0
    clear hno hts
    go_wp2_with fail
    clear t0
    have hF := take_any w1 ob gb tb G o ao bo ca cb HP1.out HC.out hm16 HNE.out (Nat.le_of_eq HGW.out) k 0 [] wr (by omega) (by omega) (fun x hx => by cases hx) HTS.out
    obtain ⟨q, hq⟩ : ∃ q, takeF (okC o) o.arcs.length k 0 [] = q := ⟨_, rfl⟩
    rw [hq, show ((0 : Nat) : Int) = 0 from rfl] at hF
    have HQ := Lib.hid hq
    clear hq
    refine hF.mono ?_
    clear hF
    rintro e w5 ⟨rfl, hts5⟩
    cases q with
    | none =>
      simp only [Option.isSome_none, Option.getD_none] at hts5 ⊢
      have HT5 := Lib.hid hts5
      have HKM : Hid (k < o.arcs.length) := Lib.hid (by
        rcases Nat.lt_or_eq_of_le hk with h | h
        · exact h
        · exact absurd (h ▸ HQ.out) (takeF_full HALL.out))
      clear hts5
      go_wp2
      go_roundw
      case measure => have := HKM.out; simp [intOf] <;> omega
      case rel => exact ⟨k + 1, HKM.out, by go_num, fun j h => by
        by_cases e : j = k
        · subst e; exact HQ.out
        · exact HNO.out j (by omega), HT5.out⟩
    | some l =>
      simp only [Option.isSome_some, Option.getD_some] at hts5 ⊢
      have HT5 := Lib.hid hts5
      have HPK : Hid (pickT o.arcs l o.arcs.length = r1) := Lib.hid (by
        rw [← HX.out.1, (leastOf_is HALL.out).eq (takeF_least HQ.out HNO.out)])
      have HK5 := Lib.hid (HK1.out.trans hts5.kw)
      obtain ⟨q0, q1, q2⟩ := hts5.box
      have qb := lt_of_cell q0
      clear hts5
      go_wp2
      clear q0 q1 q2 qb
      obtain ⟨bs, hbs⟩ : ∃ bs, w5.heap.size = bs := ⟨_, rfl⟩
      have HBS := Lib.hid hbs
      clear hbs
      go_loopw [9, 45] (fun v i wr => ∃ a : Nat, a ≤ o.arcs.length ∧ i = .int .i64 a ∧ OwnG wr bs 83 2 pairC v (pickT o.arcs l a) ∧ Kept w5 wr) (fun _ i _ => o.arcs.length - (intOf i).toNat)
      case atStart => exact ⟨0, Nat.zero_le _, rfl, OwnG.nil _ _ _ _ _, Kept.refl _⟩
      case round =>
        obtain ⟨a, ha, rfl, hown, hkw⟩ := hrel
        have HOA := Lib.hid hown
        have HKW := Lib.hid hkw
        have hts := HT5.out.kept hkw
        have g0 := hts.gs
        have gl := lt_of_cell g0
        have hG := hts.lt
        clear hown hkw
        by_cases hlt : a < o.arcs.length
        · have HL := Lib.hid hlt
          have ha16 : a < 16 := by omega
          have gg := hts.gone a hlt
          obtain ⟨B, off, rfl, c0, c1⟩ := (HO.out.kept (HK5.out.trans HKW.out)).arcs a hlt
          have HKT : Hid (decide (a ∈ l) = true → pickT o.arcs l (a + 1) = pickT o.arcs l a ++ [o.arcs[a]]) := Lib.hid fun h => pickT_yes hlt (of_decide_eq_true h)
          have HKN : Hid (decide (a ∈ l) = false → pickT o.arcs l (a + 1) = pickT o.arcs l a) := Lib.hid fun h => pickT_no (of_decide_eq_false h)
          have HLN : Hid ((pickT o.arcs l a).length < 100) := Lib.hid (by have := pickT_len o.arcs l a; omega)
          generalize o.arcs[a] = x at *
          obtain ⟨x1, x2⟩ := x
          simp only at c0 c1
          clear hts
          generalize hgd : decide (a ∈ l) = gd at *
          have HBW : Hid (bs ≤ wr.heap.size) := Lib.hid (by have := HBS.out; have := HKW.out.size; omega)
          obtain ⟨va, vc, rfl, -, -⟩ := HOA.out.prs
          cases gd
          · have HK9 := Lib.hid (HKN.out rfl)
            clear HKT HKN hgd
            go_wp2
            go_roundw
            case measure => have := HL.out; simp [intOf] <;> omega
            case rel =>
              have hKK : Kept wr (wr.alloc (.cells #[.int .i64 x1, .int .i64 x2] 83)) := (Kept.refl _).alloc _
              exact ⟨a + 1, HL.out, by go_num, by rw [HK9.out]; exact HOA.out.kept hKK, HKW.out.trans hKK⟩
          · have HK9 := Lib.hid (HKT.out rfl)
            clear HKT HKN hgd
            generalize pickT o.arcs l a = pre at *
            have hKK : Kept wr ((wr.alloc (.cells #[.int .i64 x1, .int .i64 x2] 83)).alloc (.cells #[.int .i64 x1, .int .i64 x2] 83)) := ((Kept.refl _).alloc _).alloc _
            have HKK := Lib.hid hKK
            have hnew : ∀ j u, ([(x1, x2)].flatMap pairC)[j]? = some u → ((wr.alloc (.cells #[.int .i64 x1, .int .i64 x2] 83)).alloc (.cells #[.int .i64 x1, .int .i64 x2] 83)).cell? ⟨wr.heap.size + 1, j, none⟩ = some u := fun j u hu => by
              have h := pair_newA (wr.alloc (.cells #[.int .i64 x1, .int .i64 x2] 83)) (x1, x2) j u hu
              rw [show (wr.alloc (.cells #[.int .i64 x1, .int .i64 x2] 83)).heap.size = wr.heap.size + 1 by simp] at h
              exact h
            have HNEW := Lib.hid hnew
            clear hKK hnew
            go_wp2_with (at_builtin; refine append_g _ rfl _ _ 22 rfl bs 83 2 16 _ pairC pairC_len pairC_one Try.underlying22 info83 rfl (by decide) (by decide) (.slice va pre.length vc) pre rfl (HOA.out.kept HKK.out) (wr.heap.size + 1) 1 [(x1, x2)] rfl HNEW.out (by have := HLN.out; simp only [List.length_cons, List.length_nil]; omega) (by have := HBW.out; simp; omega) ?_; intro v' w8 hown4 hg4 _; have HO4 := Lib.hid hown4; have HG4 := Lib.hid hg4; clear hown4 hg4 g0 gg gl c0 c1 hG)
            go_roundw
            case measure => have := HL.out; simp [intOf] <;> omega
            case rel => exact ⟨a + 1, HL.out, by go_num, by rw [HK9.out]; exact HO4.out, (HKW.out.trans HKK.out).grown HG4.out (fun r e => by have := (HOA.out.lt r e).1; have := HBS.out; omega)⟩
        · obtain rfl : a = o.arcs.length := by omega
          have HOE := HOA.out
          rw [HPK.out] at HOE
          obtain ⟨pa, pc, rfl, hpx, -⟩ := HOE.prs
          have HPX := Lib.hid hpx
          clear hpx HOE hlt ha hts g0 gl hG
          go_wp2
          go_ret2
          rw [← HX.out.2]
          exact ⟨pa, pc, rfl, HPX.out, HK5.out.trans HKW.out⟩
end Go.Proofs.Yteljjkghjbofnaa
