/- reading.Counting, ask. -/
import Derived.Test.YtgmodcipbklejaaE
import Derived.Test.YtgmodcipbklejaaG
set_option maxRecDepth 100000
namespace Go.Proofs.Ytgmodcipbklejaa
open Go Go.Proofs Go.RowKit
open Go.Maps (Keyed)
attribute [local go_sem] Oper.semAt_some

/-- Block b is the set of what the observations l take back. -/
def VoidM (X : World) (b m : Nat) (l : List Obs) (K : Int) : Prop := ∃ D, X.ownsMap Try.prog 3 rawE b m D ∧ (∀ id : Int, Maps.has D (.int .i64 id) = voidB l K id) ∧ ∀ (id : Int) (z : DataW Value), Maps.has D (.int .i64 id) = true → D.atKey (.int .i64 id) z = .held (.bool true)
theorem VoidM.start {X : World} {b : Nat} {K : Int} (h : X.ownsMap Try.prog 3 rawE b 0 (.map [])) : VoidM X b 0 [] K := ⟨_, h, fun id => by simp [Maps.has, voidB], fun id z h => by simp [Maps.has] at h⟩
theorem VoidM.kept {X Y : World} {b m : Nat} {l : List Obs} {K : Int} (h : VoidM X b m l K) (hk : Kept X Y) : VoidM Y b m l K := by
  obtain ⟨D, h1, h2, h3⟩ := h
  exact ⟨D, ownsMap_kept h1 hk, h2, h3⟩
theorem VoidM.grown {X Y : World} {b m : Nat} {l : List Obs} {K : Int} {row : Option Nat} (h : VoidM X b m l K) (hg : X.grownBy Y row) (hne : some b ≠ row) : VoidM Y b m l K := by
  obtain ⟨D, h1, h2, h3⟩ := h
  exact ⟨D, h1.kept hg hne, h2, h3⟩
theorem voidB_snoc (l : List Obs) (y : Obs) (K id : Int) : voidB (l ++ [y]) K id = (voidB l K id || (y.kind == 4 && decide (y.known ≤ K) && y.vo == id)) := by simp [voidB]
theorem voidB_take {s : List Obs} {i : Nat} (h : i < s.length) (K id : Int) : voidB (s.take (i + 1)) K id = (voidB (s.take i) K id || (s[i].kind == 4 && decide (s[i].known ≤ K) && s[i].vo == id)) := by
  rw [List.take_succ_eq_append_getElem h, voidB_snoc]
theorem VoidM.skip {X : World} {b m : Nat} {s : List Obs} {K : Int} {i : Nat} (h : VoidM X b m (s.take i) K) (hi : i < s.length) (hn : ¬ (s[i].kind = 4 ∧ s[i].known ≤ K)) : VoidM X b m (s.take (i + 1)) K := by
  obtain ⟨D, h1, h2, h3⟩ := h
  refine ⟨D, h1, fun id => ?_, h3⟩
  rw [h2, voidB_take hi]
  have : (s[i].kind == 4 && decide (s[i].known ≤ K) && s[i].vo == id) = false := by
    cases e : (s[i].kind == 4 && decide (s[i].known ≤ K) && s[i].vo == id) with
    | false => rfl
    | true => simp at e; exact absurd ⟨e.1.1, e.1.2⟩ hn
  rw [this, Bool.or_false]
theorem VoidM.look {X : World} {b m : Nat} {l : List Obs} {K : Int} (h : VoidM X b m l K) {id : Int} (hid : -2000000 ≤ id ∧ id ≤ 2000000) :
    (Instr.lookup 131 (.map (some b)) (.int .i64 id) false).run Try.prog X = .ok (.bool (voidB l K id)) X := by
  obtain ⟨D, h1, h2, h3⟩ := h
  obtain ⟨v, ps, hr, hv⟩ := h1.lookup keyed3 Try.underlying131 (Try.zeroValue4 X) (zd := .held (.bool false)) (zp := []) rfl (key3 hid)
  rw [hr]
  cases e : Maps.has D (.int .i64 id) with
  | true => rw [h3 id _ e] at hv; rw [rawE_inv hv, ← h2, e]
  | false => rw [lookup_not e] at hv; rw [rawE_inv hv, ← h2, e]
theorem VoidM.mono {X : World} {b m m' : Nat} {l : List Obs} {K : Int} (h : VoidM X b m l K) (hm : m ≤ m') : VoidM X b m' l K := by
  obtain ⟨D, h1, h2, h3⟩ := h
  exact ⟨D, h1.mono hm, h2, h3⟩
theorem void_put {s : List Obs} {K : Int} {i : Nat} {D : DataW Value} (hm : Maps.IsMap D) (h2 : ∀ id : Int, Maps.has D (.int .i64 id) = voidB (s.take i) K id) (h3 : ∀ (id : Int) (z : DataW Value), Maps.has D (.int .i64 id) = true → D.atKey (.int .i64 id) z = .held (.bool true))
    (hi : i < s.length) (hk : s[i].kind = 4 ∧ s[i].known ≤ K) {v : Int} (hv : s[i].vo = v) :
    (∀ id : Int, Maps.has (D.put (.int .i64 v) (.held (.bool true))) (.int .i64 id) = voidB (s.take (i + 1)) K id) ∧ ∀ (id : Int) (z : DataW Value), Maps.has (D.put (.int .i64 v) (.held (.bool true))) (.int .i64 id) = true → (D.put (.int .i64 v) (.held (.bool true))).atKey (.int .i64 id) z = .held (.bool true) := by
  refine ⟨fun id => ?_, fun id z h => ?_⟩
  · rw [voidB_take hi]
    by_cases e : id = v
    · subst e
      rw [Maps.has_put_same (k := .int .i64 id) hm trivial]
      simp [hk.1, hk.2, hv]
    · rw [Maps.has_put_other (by simp [e]), h2]
      have : (s[i].kind == 4 && decide (s[i].known ≤ K) && s[i].vo == id) = false := by
        rw [hv]
        simp
        intro _ _ e2
        exact e e2.symm
      rw [this, Bool.or_false]
  · by_cases e : id = v
    · subst e
      exact Maps.atKey_put_same (k := .int .i64 id) hm trivial _ _
    · rw [Maps.has_put_other (by simp [e])] at h
      rw [Maps.atKey_put_other (by simp [e])]
      exact h3 id z h
theorem obs_new (w : World) (a b c d e f g : Int) : ObsBox (w.alloc (.cells #[.int .i64 a, .int .i64 b, .int .i64 c, .int .u8 d, .int .i64 e, .int .i64 f, .int .i64 g] 55)) w.heap.size ⟨a, b, c, d, e, f, g⟩ := by
  obtain ⟨w0, e, -, h, -, -⟩ := alloc_obs w a b c d e f g
  rw [e]
  exact h
def CountPost (s : List Obs) (K : Int) (w : World) (e : Ending) (w' : World) : Prop := ∃ v, e = .returned v ∧ OwnG w' w.heap.size 55 7 obsC v (countF s K) ∧ Kept w w'
theorem filter_take {α : Type} (p : α → Bool) {s : List α} {i : Nat} (h : i < s.length) : (s.take (i + 1)).filter p = (s.take i).filter p ++ if p s[i] then [s[i]] else [] := by
  rw [List.take_succ_eq_append_getElem h, List.filter_append]
  simp only [List.filter_cons, List.filter_nil]
set_option maxHeartbeats 2000000 in
theorem Counting_any (n : Int) (s : List Obs) (so : Option Addr) (c : Nat) (K : Int) (w : World) (h : Right n s) (hl : s.length ≤ 100) (hs : Obss w so s) :
    Calls Try.prog 52 #[.slice so s.length c, .int .i64 K] w (CountPost s K w) := by
  have HR := Lib.hid h
  have HS := Lib.hid hs
  have hmm := @run_makeMap Try.prog
  have HFR : Hid ((w.alloc (.map #[] 0)).ownsMap Try.prog 3 rawE w.heap.size 0 (.map [])) := Lib.hid (World.ownsMap_made (H := Value) w Try.prog 3 rawE)
  clear h hs
  go_enter Try.func52, Try.ntmps52
  go_wp2_with fail
  obtain ⟨g, hg⟩ : ∃ g, w.heap.size = g := ⟨_, rfl⟩
  rw [hg] at HFR ⊢
  have HG := Lib.hid hg
  have HK0 : Hid (Kept w (w.alloc (.map #[] 0))) := Lib.hid ((Kept.refl w).alloc _)
  clear hg hmm
  generalize w.alloc (.map #[] 0) = w0 at *
  go_loopw [14] (fun iv wr => ∃ i : Nat, i ≤ s.length ∧ iv = .int .i64 i ∧ Kept w wr ∧ VoidM wr g i (s.take i) K) (fun iv _ => s.length - (intOf iv).toNat)
  case atStart => exact ⟨0, Nat.zero_le _, rfl, HK0.out, by simpa using VoidM.start HFR.out⟩
  case round =>
    obtain ⟨i, hi, rfl, hkr, hvm⟩ := hrel
    have HKR := Lib.hid hkr
    have HVM := Lib.hid hvm
    clear hkr hvm
    by_cases hlt : i < s.length
    case neg =>
      have ei : s.take i = s := List.take_of_length_le (by omega)
      rw [ei] at HVM
      clear ei hi
      go_wp2_with fail
      clear hlt
      go_loopw [33, 8] (fun iv vv wq => ∃ k : Nat, k ≤ s.length ∧ iv = .int .i64 k ∧ Kept w wq ∧ OwnG wq w.heap.size 55 7 obsC vv ((s.take k).filter (countB s K)) ∧ VoidM wq g i s K ∧ vv.ownBlock ≠ some g) (fun iv _ _ => s.length - (intOf iv).toNat)
      case atStart => exact ⟨0, Nat.zero_le _, rfl, HKR.out, by simpa using OwnG.nil _ _ _ _ _, HVM.out, by simp [Value.ownBlock]⟩
      case round =>
        clear HKR HVM
        obtain ⟨k, hk, rfl, hkr, hov, hvm, hnb⟩ := hrel
        have HKR := Lib.hid hkr
        have HOV := Lib.hid hov
        have HVM := Lib.hid hvm
        have HNB := Lib.hid hnb
        clear hkr hov hvm hnb
        by_cases hlt : k < s.length
        case neg =>
          have ek : s.take k = s := List.take_of_length_le (by omega)
          rw [ek] at HOV
          clear ek hk
          go_wp2
          go_ret
          exact ⟨u8, rfl, HOV.out, HKR.out⟩
        obtain ⟨x, hx⟩ : ∃ x, s[k] = x := ⟨_, rfl⟩
        have hx2 : s[k]? = some x := by rw [List.getElem?_eq_getElem hlt, hx]
        obtain ⟨sb, off, rfl, c0, c1, c2, c3, c4, c5, c6⟩ := HS.out.kept HKR.out k hlt
        obtain ⟨r1, r2, r3, r4, r5⟩ := HR.out.1 k x hx2
        rw [hx] at c0 c1 c2 c3 c4 c5 c6
        have HFT := Lib.hid (filter_take (countB s K) hlt)
        rw [hx] at HFT
        have HLE : Hid (((s.take k).filter (countB s K)).length ≤ 100) := Lib.hid (by have := List.length_filter_le (countB s K) (s.take k); have := List.length_take_le k s; omega)
        have hsb := lt_of_cell c0
        clear hx hx2 r2 r3 r4 hk
        obtain ⟨xi, xk, xr, xq, xa, xb, xv⟩ := x
        simp only [] at r1 r5 c0 c1 c2 c3 c4 c5 c6
        subst r1
        obtain ⟨w1, e1, hk1, hb1, hs1, -⟩ := alloc_obs wr ((k : Int) + 1) xk xr xq xa xb xv
        have HK1 := Lib.hid hk1
        have HB1 := Lib.hid hb1
        have HE1 := Lib.hid e1
        obtain ⟨g1, hg1⟩ : ∃ g, wr.heap.size = g := ⟨_, rfl⟩
        rw [hg1] at HB1
        have HG1 : Hid (∀ j, u8.ownBlock = some j → j < g1) := Lib.hid fun j hj => by rw [← hg1]; exact (HOV.out.lt j hj).2
        have HGV : Hid (g < g1) := Lib.hid (by rw [← hg1]; obtain ⟨D, h1, -⟩ := HVM.out; exact h1.lt)
        have HLOOK := Lib.hid ((HVM.out.kept hk1).look (id := (k : Int) + 1) (by omega))
        have HGE := Lib.hid hg1
        clear e1 hk1 hb1 hs1 hg1
        rcases r5 with ⟨rfl, -, -, -, -, -, rfl⟩ | ⟨rfl, rfl, rfl, j, y, hj, rfl, -, -⟩
        · have hcb : countB s K ⟨(k : Int) + 1, xk, xr, 1, xa, xb, 0⟩ = (decide (xk ≤ K) && !voidB s K ((k : Int) + 1)) := by simp [countB]
          rw [hcb] at HFT
          clear hcb
          by_cases hkn : xk ≤ K
          · go_wp2_with fail
            rw [HE1.out, HGE.out]
            refine (in_yes (by omega) (by omega) _).mono ?_
            rintro e w2 ⟨rfl, rfl⟩
            clear c0 c1 c2 c3 c4 c5 c6 hsb
            obtain ⟨b0, b1, b2, b3, b4, b5, b6⟩ := HB1.out
            have hb := lt_of_cell b0
            simp only [] at b0 b1 b2 b3 b4 b5 b6
            obtain ⟨vd, hvd⟩ : ∃ b, voidB s K ((k : Int) + 1) = b := ⟨_, rfl⟩
            rw [hvd] at HLOOK HFT
            have hlk := HLOOK.out
            have hdk : decide (xk ≤ K) = true := decide_eq_true hkn
            rw [hdk] at HFT
            clear hvd
            cases vd
            · have hf := HFT.out
              simp only [Bool.not_false, Bool.and_true, if_true] at hf
              have HF := Lib.hid hf
              clear hf
              go_wp2_with (first | (at_builtin; refine append_obs _ rfl _ _ rfl w.heap.size u8 _ rfl (HOV.out.kept (HK1.out.alloc _)) w1.heap.size ⟨(k : Int) + 1, xk, xr, 1, xa, xb, 0⟩ rfl (obs_new _ _ _ _ _ _ _ _) (by have := HLE.out; omega) (by have := (HKR.out.trans HK1.out).size; simp; omega) ?_; intro ra rc w6 hown6 hg6 hat6) | fail)
              go_roundw
              case measure => simp [intOf]; omega
              case rel =>
                refine ⟨k + 1, by omega, by go_num, Kept.grown ((HKR.out.trans HK1.out).alloc _) hg6 (fun r e => (HOV.out.lt r e).1), by rw [HF.out]; exact hown6, (HVM.out.kept (HK1.out.alloc _)).grown hg6 (fun e => HNB.out e.symm), fun e => ?_⟩
                rcases hat6 g e with h | h
                · exact HNB.out h
                · have := HGV.out; have h5 := HK1.out.size; rw [HGE.out] at h5; simp at h; omega
            · have hf := HFT.out
              simp at hf
              have HF := Lib.hid hf
              clear hf
              go_wp2
              go_roundw
              case measure => simp [intOf]; omega
              case rel => exact ⟨k + 1, by omega, by go_num, HKR.out.trans HK1.out, by rw [HF.out]; exact HOV.out.kept HK1.out, HVM.out.kept HK1.out, HNB.out⟩
          · have hf := HFT.out
            simp [hkn] at hf
            have HF := Lib.hid hf
            have hkd : decide (xk ≤ K) = false := decide_eq_false hkn
            clear hf hkn
            go_wp2_with fail
            rw [HE1.out, HGE.out]
            refine (in_yes (by omega) (by omega) _).mono ?_
            rintro e w2 ⟨rfl, rfl⟩
            clear c0 c1 c2 c3 c4 c5 c6 hsb
            obtain ⟨b0, b1, b2, b3, b4, b5, b6⟩ := HB1.out
            have hb := lt_of_cell b0
            simp only [] at b0 b1 b2 b3 b4 b5 b6
            go_wp2
            go_roundw
            case measure => simp [intOf]; omega
            case rel => exact ⟨k + 1, by omega, by go_num, HKR.out.trans HK1.out, by rw [HF.out]; exact HOV.out.kept HK1.out, HVM.out.kept HK1.out, HNB.out⟩
        · have hf := HFT.out
          simp [countB] at hf
          have HF := Lib.hid hf
          clear hf
          go_wp2_with fail
          rw [HE1.out, HGE.out]
          refine (in_not (.inr (by omega)) _).mono ?_
          rintro e w2 ⟨rfl, rfl⟩
          clear c0 c1 c2 c3 c4 c5 c6 hsb
          go_wp2
          go_roundw
          case measure => simp [intOf]; omega
          case rel => exact ⟨k + 1, by omega, by go_num, HKR.out.trans HK1.out, by rw [HF.out]; exact HOV.out.kept HK1.out, HVM.out.kept HK1.out, HNB.out⟩
    case pos =>
      obtain ⟨x, hx⟩ : ∃ x, s[i] = x := ⟨_, rfl⟩
      have hx2 : s[i]? = some x := by rw [List.getElem?_eq_getElem hlt, hx]
      obtain ⟨sb, off, rfl, c0, c1, c2, c3, c4, c5, c6⟩ := HS.out.kept HKR.out i hlt
      obtain ⟨r1, r2, r3, r4, r5⟩ := HR.out.1 i x hx2
      rw [hx] at c0 c1 c2 c3 c4 c5 c6
      have HSK := Lib.hid (fun hn : ¬ (x.kind = 4 ∧ x.known ≤ K) => HVM.out.skip hlt (by rw [hx]; exact hn))
      have HX := Lib.hid hx
      have hsb := lt_of_cell c0
      clear hx hx2 r1 r2 r3 r4 hi
      obtain ⟨xi, xk, xr, xq, xa, xb, xv⟩ := x
      simp only [] at r5 c0 c1 c2 c3 c4 c5 c6
      rcases r5 with ⟨rfl, -, -, -, -, -, rfl⟩ | ⟨rfl, rfl, rfl, j, y, hj, rfl, -, -⟩
      · go_wp2
        go_roundw
        case measure => simp [intOf]; omega
        case rel => exact ⟨i + 1, by omega, by go_num, HKR.out.alloc _, (((HSK.out (by simp)).kept ((Kept.refl _).alloc _))).mono (by omega)⟩
      · by_cases hkn : xk ≤ K
        · obtain ⟨D, hown, h2, h3⟩ := HVM.out
          have HOWN := Lib.hid hown
          have HPUT := Lib.hid (void_put (v := (j : Int) + 1) hown.isMap h2 h3 hlt (by rw [HX.out]; exact ⟨rfl, hkn⟩) (by rw [HX.out]))
          clear hown h2 h3
          go_wp2_with (first | (at_mapUpdate; refine wpList_mapUpdate_own _ rfl _ _ _ 131 rfl 3 4 keyed3 Try.underlying131 rawE g i D rfl (HOWN.out.alloc _) (by unfold maxLen; omega) _ _ (.int .i64 ((j : Int) + 1)) rfl rfl (key3 (by omega)) (.held (.bool true)) [] rfl ?_; intro w6 hown6 hg6) | fail)
          go_roundw
          case measure => simp [intOf]; omega
          case rel => exact ⟨i + 1, by omega, by go_num, Kept.grown (HKR.out.alloc _) hg6 (fun r e => by cases e; exact Nat.le_of_eq HG.out), ⟨_, hown6, HPUT.out.1, HPUT.out.2⟩⟩
        · have hkd : decide (xk ≤ K) = false := decide_eq_false hkn
          go_wp2
          go_roundw
          case measure => simp [intOf]; omega
          case rel => exact ⟨i + 1, by omega, by go_num, HKR.out.alloc _, (((HSK.out (fun h => hkn h.2)).kept ((Kept.refl _).alloc _))).mono (by omega)⟩
def AskPost (s : List Obs) (K : Int) (w : World) (e : Ending) (w' : World) : Prop := ∃ v, e = .returned (.tuple #[v, .int .i64 0]) ∧ OwnG w' w.heap.size 55 7 obsC v (countF s K) ∧ Kept w w'
set_option maxHeartbeats 1000000 in
theorem ask_any (n : Int) (s : List Obs) (so : Option Addr) (c : Nat) (K : Int) (w : World) (h : Right n s) (hl : s.length ≤ 100) (hn : 0 ≤ n ∧ n ≤ 24) (hs : Obss w so s) :
    Calls Try.prog 25 #[.int .i64 n, .slice so s.length c, .int .i64 K] w (AskPost s K w) := by
  have HR := Lib.hid h
  have HS := Lib.hid hs
  have HL := Lib.hid hl
  have HN := Lib.hid hn
  clear h hs hn
  go_enter Try.func25, Try.ntmps25
  go_wp2_with fail
  refine (RCheck_any n s so c w HR.out HL.out HN.out HS.out).mono ?_
  rintro e w1 ⟨rfl, hk1⟩
  have HK1 := Lib.hid hk1
  clear hk1
  go_wp2_with fail
  refine (Counting_any n s so c K w1 HR.out HL.out (HS.out.kept HK1.out)).mono ?_
  rintro e w2 ⟨v, rfl, hov, hk2⟩
  have HOV := Lib.hid (hov.base' HK1.out.size)
  have HK2 := Lib.hid (HK1.out.trans hk2)
  clear hov hk2
  go_wp2
  go_ret2
  exact ⟨v, rfl, HOV.out, HK2.out⟩
end Go.Proofs.Ytgmodcipbklejaa
