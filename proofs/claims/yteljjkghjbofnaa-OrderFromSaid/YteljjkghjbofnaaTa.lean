/- slices.Clone of pairs; (*web).kept. -/
import Derived.Test.YteljjkghjbofnaaYa
import Derived.Test.YteljjkghjbofnaaMh
import Derived.Deep.RegionWith
import Derived.Deep.DeepCutAuto
import Derived.Deep.Cut
set_option maxRecDepth 100000
namespace Go.Proofs.Yteljjkghjbofnaa
open Go Go.Proofs Go.RowKit
attribute [local go_sem] Oper.semAt_some

theorem pairC_len (x : Int × Int) : (pairC x).length = 2 := rfl
theorem pairC_one (x : Int × Int) : ∀ u ∈ pairC x, u.oneCell' = true := fun u hu => by
  simp [pairC] at hu
  rcases hu with rfl | rfl <;> rfl
@[go_sem] theorem eql22_some (w : World) (a : Addr) (n c : Nat) : (binOp .eql 22 (.slice (some a) n c) (.slice none 0 0)).run Try.prog w = .ok (.bool false) w := Lib.run_eql_slice_nil w 22 83 (some a) n c 0 0 Try.underlying22
@[go_sem] theorem eql22_none (w : World) (n c : Nat) : (binOp .eql 22 (.slice none n c) (.slice none 0 0)).run Try.prog w = .ok (.bool true) w := Lib.run_eql_slice_nil w 22 83 none n c 0 0 Try.underlying22
/-- A slice of the call's own of pairs: where they lie. -/
theorem OwnG.prs {X : World} {base : Nat} {v : Value} {l : List (Int × Int)} (h : OwnG X base 83 2 pairC v l) : ∃ ao c, v = .slice ao l.length c ∧ Pairs X ao l ∧ (ao = none → c = 0) := by
  rcases h.slice pairC_len with ⟨rfl, rfl⟩ | ⟨g, c, rfl, -, -, -, -, hc⟩
  · exact ⟨none, 0, rfl, Pairs.nil _ _, fun _ => rfl⟩
  · exact ⟨_, c, rfl, (fun i hi => ⟨g, 0, rfl, by rw [Nat.zero_add]; exact hc i hi 0 _ rfl, by rw [Nat.zero_add]; exact hc i hi 1 _ rfl⟩), fun h => by cases h⟩
theorem pairs_news {X : World} {bk off : Nat} {l : List (Int × Int)} (h : Pairs X (some ⟨bk, off, none⟩) l) (j : Nat) (u : Value) (hu : (l.flatMap pairC)[j]? = some u) : X.cell? ((⟨bk, off, none⟩ : Addr).add j) = some u := by
  rw [Addr.add_mid]
  have hlt : j < l.length * 2 := by have := (List.getElem?_eq_some_iff.1 hu).1; rwa [flatMap_len pairC_len] at this
  have hi : j / 2 < l.length := by omega
  have hr : j % 2 < 2 := Nat.mod_lt _ (by omega)
  have e : j = (j / 2) * 2 + j % 2 := by omega
  rw [e, flatMap_get pairC_len l (j / 2) (j % 2) hi hr] at hu
  obtain ⟨b, o', e', h0, h1⟩ := h (j / 2) hi
  simp only [Option.some.injEq, Addr.mk.injEq] at e'
  obtain ⟨rfl, rfl, -⟩ := e'
  rcases Nat.lt_or_ge (j % 2) 1 with h2 | h2
  · have e2 : j % 2 = 0 := by omega
    rw [e2] at hu
    have : j = (j / 2) * 2 := by omega
    rw [this]
    rw [h0]; exact hu
  · have e2 : j % 2 = 1 := by omega
    rw [e2] at hu
    have : off + j = off + (j / 2) * 2 + 1 := by omega
    rw [this, h1]; exact hu

theorem pairs_newsA {X : World} {a : Addr} {l : List (Int × Int)} (h : Pairs X (some a) l) (j : Nat) (u : Value) (hu : (l.flatMap pairC)[j]? = some u) : X.cell? (a.add j) = some u := by
  have hlt : j < l.length * 2 := by have := (List.getElem?_eq_some_iff.1 hu).1; rwa [flatMap_len pairC_len] at this
  obtain ⟨b, off, e, -, -⟩ := h 0 (by omega)
  cases e
  exact pairs_news h j u hu
theorem pairs_one (l : List (Int × Int)) : ∀ u ∈ l.flatMap pairC, u.oneCell' = true := fun u hu => by
  obtain ⟨x, -, hx⟩ := List.mem_flatMap.1 hu
  exact pairC_one x u hx

set_option maxHeartbeats 800000 in
theorem cloneP_any (l : List (Int × Int)) (ao : Option Addr) (c : Nat) (w : World) (hl : Pairs w ao l) (hlen : l.length < 1099511627776) :
    Calls Try.prog 147 #[.slice ao l.length c] w (fun e w' => ∃ v, e = .returned v ∧ OwnG w' w.heap.size 83 2 pairC v l ∧ Kept w w') := by
  have HL := Lib.hid hl
  have HLEN := Lib.hid hlen
  clear hl hlen
  cases ao with
  | none =>
    have hnil : l = [] := by
      cases l with
      | nil => rfl
      | cons x t => obtain ⟨b, off, e, _⟩ := HL.out 0 (by simp); cases e
    subst hnil
    go_enter Try.func147, Try.ntmps147
    go_wp2
    go_ret
    exact ⟨_, rfl, OwnG.nil _ _ _ _ _, Kept.refl _⟩
  | some a =>
    have hown : Hid ((w.alloc (.cells #[] 83)).ownsRow w.heap.size 83 2 (.slice (some ⟨w.heap.size, 0, none⟩) 0 0) 0 []) := ⟨by simp, .inr ⟨w.heap.size, 0, #[], rfl, Nat.le_refl _, heap_alloc_new w _, Nat.le_refl _, Nat.zero_le _, rfl, rfl⟩⟩
    have hnews : Hid (∀ (j : Nat) (u : Value), (l.flatMap pairC)[j]? = some u → (w.alloc (.cells #[] 83)).cell? (a.add j) = some u) := Lib.hid (pairs_newsA (HL.out.kept ((Kept.refl _).alloc _)))
    obtain ⟨i0, hi, hz0, hz1, hz2⟩ := info_parts info83
    have HI := Lib.hid hi
    have HZ0 := Lib.hid hz0
    have HZ1 := Lib.hid hz1
    have HZ2 := Lib.hid hz2
    clear hi hz0 hz1 hz2
    go_enter Try.func147, Try.ntmps147
    go_wp2_with (at_builtin; refine wpList_append_own _ rfl _ _ 22 rfl w.heap.size 83 i0 _ 2 16 Try.underlying22 HI.out HZ0.out HZ1.out HZ2.out rfl (by decide) _ 0 _ rfl hown.out a l.length c (l.flatMap pairC) rfl (flatMap_len pairC_len l) hnews.out (pairs_one l) (by have := HLEN.out; unfold maxLen; omega) (by have := HLEN.out; omega) (by simp) ?_; intro v' w1 hown1 hg1 _; have HO1 := Lib.hid hown1; have HG1 := Lib.hid hg1; clear hown1 hg1)
    go_ret
    refine ⟨v', rfl, ?_, ?_⟩
    · have h := HO1.out
      unfold OwnG
      rw [Nat.zero_add, List.nil_append] at h
      exact h
    · exact ((Kept.refl w).alloc _).grown HG1.out (fun r e => by cases e; exact Nat.le_refl _)

/-- A box of the call's own with a problem: its number, its two slices. -/
structure PBox (X : World) (bx : Nat) (N : Int) (va vb : Value) : Prop where
  c0 : X.cell? ⟨bx, 0, none⟩ = some (.int .i64 N)
  c1 : X.cell? ⟨bx, 1, none⟩ = some va
  c2 : X.cell? ⟨bx, 2, none⟩ = some vb
  fz : ∀ o, X.frozen? ⟨bx, o, none⟩ = false
theorem PBox.kept {X Y : World} {bx : Nat} {N : Int} {va vb : Value} (h : PBox X bx N va vb) (hk : Kept X Y) : PBox Y bx N va vb := ⟨hk.cell h.c0, hk.cell h.c1, hk.cell h.c2, fun o => (hk.cells.2 bx o (lt_of_cell h.c0)).trans (h.fz o)⟩
theorem PBox.new (X : World) (N : Int) (va vb : Value) : PBox (X.alloc (.cells #[.int .i64 N, va, vb] 24)) X.heap.size N va vb := by
  have hh := heap_alloc_new X (.cells #[.int .i64 N, va, vb] 24)
  refine ⟨?_, ?_, ?_, fun _ => frozen_of_row _ _ _ _ _ hh⟩
  all_goals (rw [cell_of_row _ _ _ _ _ _ hh]; rfl)
theorem PBox.set {X : World} {bx : Nat} {N : Int} {va vb : Value} (h : PBox X bx N va vb) (N' : Int) (va' vb' : Value) : PBox (((X.setCell ⟨bx, 0, none⟩ (.int .i64 N')).setCell ⟨bx, 1, none⟩ va').setCell ⟨bx, 2, none⟩ vb') bx N' va' vb' :=
  ⟨cell_set_off (cell_set_off (cell_set_same h.c0) (by omega)) (by omega), cell_set_off (cell_set_same (cell_set_off h.c1 (by omega))) (by omega), cell_set_same (cell_set_off (cell_set_off h.c2 (by omega)) (by omega)),
   fun o => by rw [World.frozen?_setCell, World.frozen?_setCell, World.frozen?_setCell]; exact h.fz o⟩
theorem PBox.set1 {X : World} {bx : Nat} {N : Int} {va vb : Value} (h : PBox X bx N va vb) (va' : Value) : PBox (X.setCell ⟨bx, 1, none⟩ va') bx N va' vb :=
  ⟨cell_set_off h.c0 (by omega), cell_set_same h.c1, cell_set_off h.c2 (by omega), fun o => by rw [World.frozen?_setCell]; exact h.fz o⟩
theorem PBox.grownNe {X Y : World} {bx : Nat} {N : Int} {va vb : Value} {row : Option Nat} (h : PBox X bx N va vb) (hg : X.grownBy Y row) (hne : some bx ≠ row) : PBox Y bx N va vb :=
  ⟨hg.cell h.c0 hne, hg.cell h.c1 hne, hg.cell h.c2 hne, fun o => (World.frozen?_of_block (a := ⟨bx, o, none⟩) (hg.block bx (lt_of_cell h.c0) hne)).trans (h.fz o)⟩
theorem OwnG.setNe {α : Type} {X : World} {base e size : Nat} {cs : α → List Value} {v : Value} {l : List α} (h : OwnG X base e size cs v l) {a : Addr} (ha : v.ownBlock ≠ some a.block) (u : Value) : OwnG (X.setCell a u) base e size cs v l := by
  refine ⟨h.1, ?_⟩
  rcases h.2 with hn | ⟨g, cap, cur, rfl, hb, hgg, rest⟩
  · exact .inl hn
  · refine .inr ⟨g, cap, cur, rfl, hb, ?_, rest⟩
    rw [Below.heap_setCell X a u g (fun e => ha (by rw [e]; rfl))]
    exact hgg
theorem PBox.setNe {X : World} {bx b' o : Nat} {N : Int} {va vb u : Value} (h : PBox X bx N va vb) (hne : bx ≠ b') : PBox (X.setCell ⟨b', o, none⟩ u) bx N va vb :=
  ⟨cell_set_block h.c0 hne, cell_set_block h.c1 hne, cell_set_block h.c2 hne, fun o => by rw [World.frozen?_setCell]; exact h.fz o⟩
def KeptPost (n : Nat) (arcs near : List (Int × Int)) (w : World) (e : Ending) (w' : World) : Prop :=
  ∃ va vb, e = .returned (.agg #[.int .i64 n, va, vb]) ∧ OwnG w' w.heap.size 83 2 pairC va arcs ∧ OwnG w' w.heap.size 83 2 pairC vb near ∧ Kept w w'

theorem rowK_succ (want : Mx) (a k : Nat) : rowK want a (k + 1) = rowK want a k ++ if (decide (a ≠ k) && want a k) = true then [((a : Int), (k : Int))] else [] := by
  unfold rowK
  rw [List.range_succ, List.filter_append, List.map_append]
  by_cases h : (decide (a ≠ k) && want a k) = true
  · rw [if_pos h, List.filter_cons, if_pos h]; rfl
  · rw [if_neg h, List.filter_cons, if_neg h]; rfl
theorem rowK_no {want : Mx} {a k : Nat} (h : a = k ∨ want a k = false) : rowK want a (k + 1) = rowK want a k := by
  rw [rowK_succ, if_neg, List.append_nil]
  rcases h with h | h <;> simp [h]
theorem rowK_yes {want : Mx} {a k : Nat} (h1 : ¬ a = k) (h : want a k = true) : rowK want a (k + 1) = rowK want a k ++ [((a : Int), (k : Int))] := by
  rw [rowK_succ, if_pos]
  simp [h1, h]
theorem rowK_len (want : Mx) (a n : Nat) : (rowK want a n).length ≤ n := by
  unfold rowK
  rw [List.length_map]
  exact Nat.le_trans (List.length_filter_le _ _) (by simp)
theorem keptK_succ (want : Mx) (n a : Nat) : keptK want n (a + 1) = keptK want n a ++ rowK want a n := by
  unfold keptK
  rw [List.range_succ, List.flatMap_append]; simp
theorem pair_newA (w : World) (r : Int × Int) (j : Nat) (u : Value) (h : ([r].flatMap pairC)[j]? = some u) : (w.alloc (.cells #[.int .i64 r.1, .int .i64 r.2] 83)).cell? ⟨w.heap.size, j, none⟩ = some u := by
  rw [cell_of_row _ _ _ _ _ _ (heap_alloc_new w (.cells #[.int .i64 r.1, .int .i64 r.2] 83))]
  simpa [pairC] using h

set_option maxHeartbeats 1600000 in
theorem kept_any (b F : Nat) (caps : Array Value) (W : Web) (want : Mx) (near : List (Int × Int)) (bo : Option Addr) (c : Nat) (w : World) (hw : WebAt w b W) (hn : W.n ≤ 24) (hp : Pairs w bo near) (hlen : near.length < 1099511627776)
    (hf : ∀ (x y : Nat) X, Kept w X → x < W.n → y < W.n → Calls Try.prog F (#[.int .i64 x, .int .i64 y] ++ caps) X (Tells (.bool (want x y)) X)) (hg : ∀ args W, (callFunc F args).run Try.prog W = .ok (.enter F args) W) :
    Calls Try.prog 117 #[.pointer (some ⟨b, 0, none⟩), .slice bo near.length c, .func (.func F) #[] caps] w (KeptPost W.n (keptK want W.n W.n) near w) := by
  have HF := Lib.hid hf
  have HW := Lib.hid hw
  have HP := Lib.hid hp
  have HLEN := Lib.hid hlen
  have hn0 := hw.n
  clear hf hw hp hlen
  go_enter Try.func117, Try.ntmps117
  go_upto_region 1 with fail
  have HK0 : Hid (Kept w (w.alloc (.cells #[.int .i64 0, .slice none 0 0, .slice none 0 0] 24))) := Lib.hid ((Kept.refl _).alloc _)
  have HB6 := Lib.hid (PBox.new w 0 (.slice none 0 0) (.slice none 0 0))
  have HP0 := Lib.hid (HP.out.kept HK0.out)
  have HW0 := Lib.hid (HW.out.kept HK0.out)
  have hn1 := HW0.out.n
  have hn2 := lt_of_cell hn1
  have hgs : w.heap.size < (w.alloc (.cells #[.int .i64 0, .slice none 0 0, .slice none 0 0] 24)).heap.size := by simp
  have HGS := Lib.hid hgs
  clear hgs hn0
  generalize w.alloc (.cells #[.int .i64 0, .slice none 0 0, .slice none 0 0] 24) = w0 at *
  go_cut [7] (fun s7 wx => ∃ (bx : Nat) (vb : Value), s7 = .pointer (some ⟨bx, 0, none⟩) ∧ w0.heap.size ≤ bx ∧ Kept w0 wx ∧ PBox wx bx W.n (.slice none 0 0) vb ∧ OwnG wx w0.heap.size 83 2 pairC vb near ∧ vb.ownBlock ≠ some bx)
  case first =>
    go_region_with (go_at_call 147; refine (cloneP_any near bo c _ (by first | exact HP0.out.kept (Kept.refl _).drew | exact HP0.out.kept ((Kept.refl _).alloc _).drew | exact HP0.out.kept ((Kept.refl _).drew.alloc _)) HLEN.out).mono ?_; rintro e w1 ⟨v, rfl, hown, hk⟩; obtain ⟨va, vc, rfl, -, -⟩ := hown.prs; (first | (have hk1 : Kept w0 w1 := (Kept.refl _).drew.trans hk) | (have hk1 : Kept w0 w1 := ((Kept.refl _).alloc _).drew.trans hk) | (have hk1 : Kept w0 w1 := ((Kept.refl _).drew.alloc _).trans hk)); have n1 := (HW0.out.kept hk1).n; have n2 := lt_of_cell n1; (first | (have hbx : PBox w1 w0.heap.size 0 (.slice none 0 0) (.slice none 0 0) := (PBox.new w0.drew 0 (.slice none 0 0) (.slice none 0 0)).kept hk; obtain ⟨x0, x1, x2, xf⟩ := hbx; have y0 := xf 0; have y1 := xf 1; have y2 := xf 2; have y3 := lt_of_cell x0) | (have hbx : PBox w1 w0.heap.size 0 (.slice none 0 0) (.slice none 0 0) := (PBox.new w0 0 (.slice none 0 0) (.slice none 0 0)).kept ((Kept.refl _).drew.trans hk); obtain ⟨x0, x1, x2, xf⟩ := hbx; have y0 := xf 0; have y1 := xf 1; have y2 := xf 2; have y3 := lt_of_cell x0) | skip))
    all_goals
      go_wp2_with fail
      go_meet
      first
        | exact ⟨w1.heap.size, _, rfl, hk1.size, hk1.alloc _, PBox.new w1 _ _ _, (OwnG.base' hown (Nat.le_refl _)).kept ((Kept.refl _).alloc _), fun e => absurd (OwnG.lt hown _ e).2 (Nat.lt_irrefl _)⟩
        | exact ⟨w0.heap.size, _, rfl, Nat.le_refl _, ((hk1.setCell (p := ⟨w0.heap.size, 0, none⟩) (Nat.le_refl _) _).setCell (p := ⟨w0.heap.size, 1, none⟩) (Nat.le_refl _) _).setCell (p := ⟨w0.heap.size, 2, none⟩) (Nat.le_refl _) _, PBox.set ⟨x0, x1, x2, xf⟩ _ _ _, OwnG.base' (((OwnG.base' (base' := w0.heap.size + 1) hown (by simp)).setBelow (Nat.lt_succ_self _) _).setBelow (Nat.lt_succ_self _) _ |>.setBelow (Nat.lt_succ_self _) _) (Nat.le_succ _), fun e => absurd (OwnG.lt (OwnG.base' (base' := w0.heap.size + 1) hown (by simp)) _ e).1 (Nat.not_succ_le_self _)⟩
  case rest =>
    clear hn1 hn2
    obtain ⟨bx, vb, rfl, hbx, hk, hpb, hov, hob⟩ := hcut
    have HBX := Lib.hid hbx
    have HKC := Lib.hid (HK0.out.trans hk)
    have HBC := Lib.hid hpb
    have HOV := Lib.hid hov
    have HOB := Lib.hid hob
    have HWC := Lib.hid (HW0.out.kept hk)
    have HB6C := Lib.hid (HB6.out.kept hk)
    have hn1 := HWC.out.n
    clear hbx hk hpb hov hob HB6 HP0 HW0
    obtain ⟨g6, hg6⟩ : ∃ g6, w.heap.size = g6 := ⟨_, rfl⟩
    rw [hg6] at HGS HB6C ⊢
    have HG6 := Lib.hid hg6
    clear hg6
    have HBL : Hid (bx < wc.heap.size) := Lib.hid (lt_of_cell HBC.out.c0)
    have HOVL : Hid (∀ j, vb.ownBlock = some j → j < wc.heap.size) := Lib.hid fun j e => (HOV.out.lt j e).2
    have HWB : Hid (b < w0.heap.size) := Lib.hid (Nat.lt_of_lt_of_le (lt_of_cell HW.out.n) HK0.out.size)
    go_wp2
    clear hn1
    go_loopw [21] (fun i wr => ∃ (a : Nat) (va : Value), a ≤ W.n ∧ i = .int .i64 a ∧ Kept w wr ∧ WebAt wr b W ∧ PBox wr g6 0 (.slice none 0 0) (.slice none 0 0) ∧ PBox wr bx W.n va vb ∧ OwnG wr w0.heap.size 83 2 pairC vb near ∧ wc.heap.size ≤ wr.heap.size ∧ OwnG wr wc.heap.size 83 2 pairC va (keptK want W.n a)) (fun i _ => W.n - (intOf i).toNat)
    case atStart => exact ⟨0, _, Nat.zero_le _, rfl, HKC.out, HWC.out, HB6C.out, HBC.out, HOV.out, Nat.le_refl _, OwnG.nil _ _ _ _ _⟩
    case round =>
      clear HKC HWC HB6C HBC HOV
      obtain ⟨a, va, ha, rfl, hk, hweb, hb6, hbc, hov, hsz, hoa⟩ := hrel
      have HKC := Lib.hid hk
      have HWC := Lib.hid hweb
      have HB6C := Lib.hid hb6
      have HBC := Lib.hid hbc
      have HOV := Lib.hid hov
      have HSZ := Lib.hid hsz
      have HOA := Lib.hid hoa
      have hn1 := HWC.out.n
      clear hk hweb hb6 hbc hov hsz hoa
      by_cases halt : a < W.n
      · have HAL := Lib.hid halt
        go_wp2
        clear hn1
        go_loopw [28] (fun i wr => ∃ (k : Nat) (va : Value), k ≤ W.n ∧ i = .int .i64 k ∧ Kept w wr ∧ WebAt wr b W ∧ PBox wr g6 0 (.slice none 0 0) (.slice none 0 0) ∧ PBox wr bx W.n va vb ∧ OwnG wr w0.heap.size 83 2 pairC vb near ∧ wc.heap.size ≤ wr.heap.size ∧ OwnG wr wc.heap.size 83 2 pairC va (keptK want W.n a ++ rowK want a k)) (fun i _ => W.n - (intOf i).toNat)
        case atStart => exact ⟨0, va, Nat.zero_le _, rfl, HKC.out, HWC.out, HB6C.out, HBC.out, HOV.out, HSZ.out, by simp only [rowK, List.range_zero, List.filter_nil, List.map_nil, List.append_nil]; exact HOA.out⟩
        case round =>
          clear HKC HWC HB6C HBC HOV HSZ HOA va
          obtain ⟨k, va, hk2, rfl, hk, hweb, hb6, hbc, hov, hsz, hoa⟩ := hrel
          have HKC := Lib.hid hk
          have HWC := Lib.hid hweb
          have HB6C := Lib.hid hb6
          have HBC := Lib.hid hbc
          have HOV := Lib.hid hov
          have HSZ := Lib.hid hsz
          have HOA := Lib.hid hoa
          have hn1 := HWC.out.n
          clear hk hweb hb6 hbc hov hsz hoa
          by_cases hklt : k < W.n
          · have HKL := Lib.hid hklt
            by_cases hak : a = k
            · subst hak
              have hne : ((a : Int) != (a : Int)) = false := by simp
              have HRW : Hid (rowK want a (a + 1) = rowK want a a) := Lib.hid (rowK_no (.inl rfl))
              go_wp2
              go_roundw
              case measure => simp [intOf] <;> omega
              case rel => exact ⟨a + 1, va, by omega, by go_num, HKC.out, HWC.out, HB6C.out, HBC.out, HOV.out, HSZ.out, by rw [HRW.out]; exact HOA.out⟩
            · have hne : ((a : Int) != (k : Int)) = true := by simp; omega
              have HAK := Lib.hid hak
              clear hak
              go_wp2_with fail
              refine (HF.out a k _ HKC.out HAL.out HKL.out).mono ?_
              rintro e w3 ⟨rfl, rfl⟩
              cases hwt : want a k
              · have HRW : Hid (rowK want a (k + 1) = rowK want a k) := Lib.hid (rowK_no (.inr hwt))
                clear hwt
                go_wp2
                go_roundw
                case measure => simp [intOf] <;> omega
                case rel => exact ⟨k + 1, va, by omega, by go_num, HKC.out, HWC.out, HB6C.out, HBC.out, HOV.out, HSZ.out, by rw [HRW.out]; exact HOA.out⟩
              · have HRW : Hid (rowK want a (k + 1) = rowK want a k ++ [((a : Int), (k : Int))]) := Lib.hid (rowK_yes HAK.out hwt)
                obtain ⟨p0, p1, p2, pf⟩ := HBC.out
                have f1 := pf 1
                have pb := lt_of_cell p0
                have HLN : Hid ((keptK want W.n a ++ rowK want a k).length < 10000) := Lib.hid (by
                  have h1 := keptK_len want W.n a
                  have h2 := rowK_len want a k
                  have h3 : a * W.n ≤ 24 * 24 := Nat.mul_le_mul (by have := HAL.out; omega) hn
                  rw [List.length_append]
                  have := HKL.out
                  omega)
                obtain ⟨pre, hpre⟩ : ∃ pre, keptK want W.n a ++ rowK want a k = pre := ⟨_, rfl⟩
                rw [hpre] at HOA HLN
                have HPRE := Lib.hid hpre
                clear hpre
                clear hwt pf
                have hHA : Kept wr (wr.alloc (.cells #[.int .i64 (a : Int), .int .i64 (k : Int)] 83)) := (Kept.refl _).alloc _
                have HHA := Lib.hid hHA
                clear hHA
                go_wp2_with (at_builtin; refine append_g _ rfl _ _ 22 rfl wc.heap.size 83 2 16 _ pairC pairC_len pairC_one Try.underlying22 info83 rfl (by decide) (by decide) va pre rfl (HOA.out.kept HHA.out) wr.heap.size 1 [((a : Int), (k : Int))] rfl (pair_newA wr ((a : Int), (k : Int))) (by have := HLN.out; simp only [List.length_cons, List.length_nil]; omega) (by have := HSZ.out; simp; omega) ?_; intro v' w4 hown4 hg4 _; obtain ⟨xa, xc, rfl, -, -⟩ := hown4.prs; have HO4 := Lib.hid hown4; have HG4 := Lib.hid hg4; have HB4 : Hid (PBox w4 bx W.n va vb) := Lib.hid ((HBC.out.kept HHA.out).grownNe hg4 (fun e => by have := (HOA.out.lt bx e.symm).1; have := HBL.out; omega)); clear p0 p1 p2 f1 pb hown4 hg4; obtain ⟨p0, p1, p2, pf⟩ := HB4.out; have f1 := pf 1; have pb := lt_of_cell p0; clear pf)
                go_roundw
                case measure => have := HKL.out; simp [intOf] <;> omega
                case rel =>
                  have hne6 : ∀ j, va.ownBlock = some j → wc.heap.size ≤ j := fun j e => (HOA.out.lt j e).1
                  have hs0 : w.heap.size ≤ w0.heap.size := HK0.out.size
                  have hbb := HBX.out
                  have hbl := HBL.out
                  have hgs := HGS.out
                  have hov := (HOV.out.kept HHA.out)
                  have hvl := HOVL.out
                  refine ⟨k + 1, .slice xa (pre.length + 1) xc, HKL.out, by go_num, ?_, ?_, ?_, ?_, ?_, ?_, ?_⟩
                  · exact ((HKC.out.trans HHA.out).grown HG4.out (fun r e => by have := hne6 r e; omega)).setCell (p := ⟨bx, 1, none⟩) (by show _ ≤ bx; omega) _
                  · exact ((HWC.out.kept HHA.out).grownNe HG4.out (fun e => by have := hne6 b e.symm; have := HWB.out; omega)).setOther (by have := HWB.out; omega)
                  · exact ((HB6C.out.kept HHA.out).grownNe HG4.out (fun e => by have := hne6 g6 e.symm; omega)).setNe (by omega)
                  · exact HB4.out.set1 _
                  · exact (hov.grownNe HG4.out (fun j e e2 => by have := hne6 j (by rw [← e2]); have := hvl j e; omega)).setNe HOB.out _
                  · have h1 := HHA.out.size
                    have h2 := HG4.out.size
                    have h3 := HSZ.out
                    simp only [World.setCell] at *
                    simp
                    omega
                  · have h4 := HO4.out
                    simp only [List.length_append, List.length_cons, List.length_nil, Nat.zero_add] at h4
                    rw [HRW.out, ← List.append_assoc, HPRE.out]
                    exact h4.setBelow (by show bx < _; exact hbl) _
          · obtain rfl : k = W.n := by omega
            have HKS : Hid (keptK want W.n (a + 1) = keptK want W.n a ++ rowK want a W.n) := Lib.hid (keptK_succ _ _ _)
            clear hklt hk2
            go_wp2
            go_roundw
            case measure => have := HAL.out; simp [intOf] <;> omega
            case rel => exact ⟨a + 1, va, HAL.out, by go_num, HKC.out, HWC.out, HB6C.out, HBC.out, HOV.out, HSZ.out, by rw [HKS.out]; exact HOA.out⟩
      · obtain rfl : a = W.n := by omega
        clear halt ha
        obtain ⟨p0, p1, p2, pf⟩ := HBC.out
        have pb := lt_of_cell p0
        obtain ⟨s0, s1, s2, sf⟩ := HB6C.out
        have f0 := sf 0
        have f1 := sf 1
        have f2 := sf 2
        have sb := lt_of_cell s0
        clear pf sf
        have hov := HOV.out
        have hoa := HOA.out
        obtain ⟨ya, yc, rfl, -, -⟩ := hov.prs
        obtain ⟨xa, xc, rfl, -, -⟩ := hoa.prs
        have HV := Lib.hid hov
        have HA := Lib.hid hoa
        clear hov hoa
        have HB9 := Lib.hid (HB6C.out.set (W.n : Int) (.slice xa (keptK want W.n W.n).length xc) (.slice ya near.length yc))
        go_wp2
        refine bodyPost_ret (results_cell rfl _ _ ⟨g6, 0, none⟩ rfl _ (load24 HB9.out.c0 HB9.out.c1 HB9.out.c2)) rfl ?_
        have hs0 := HK0.out.size
        have hg6 := HG6.out
        have hgs := HGS.out
        have hsz : w0.heap.size ≤ wc.heap.size := by have := HBX.out; have := HBL.out; omega
        refine ⟨_, _, rfl, ?_, ?_, ?_⟩
        · refine OwnG.base' (((HA.out.setBelow (a := ⟨g6, 0, none⟩) ?_ _).setBelow (a := ⟨g6, 1, none⟩) ?_ _).setBelow (a := ⟨g6, 2, none⟩) ?_ _) (by omega)
          all_goals (show g6 < _; omega)
        · refine OwnG.base' (((HV.out.setBelow (a := ⟨g6, 0, none⟩) ?_ _).setBelow (a := ⟨g6, 1, none⟩) ?_ _).setBelow (a := ⟨g6, 2, none⟩) ?_ _) hs0
          all_goals (show g6 < _; omega)
        · refine ((HKC.out.setCell (p := ⟨g6, 0, none⟩) ?_ _).setCell (p := ⟨g6, 1, none⟩) ?_ _).setCell (p := ⟨g6, 2, none⟩) ?_ _
          all_goals (show _ ≤ g6; omega)
end Go.Proofs.Yteljjkghjbofnaa
