/- order.From. -/
import Derived.Test.YteljjkghjbofnaaQe
import Derived.Test.YteljjkghjbofnaaQb
set_option maxRecDepth 100000
namespace Go.Proofs.Yteljjkghjbofnaa
open Go Go.Proofs Go.RowKit
open Go.Maps (Keyed)
open Go.ChangeShapes Go.MapKept
attribute [local go_sem] Oper.semAt_some

theorem zero31 (w : World) : (zeroValue 31).run Try.prog w = .ok (.slice none 0 0) w := by
  obtain ⟨i0, hi, hz0, -, -⟩ := info_parts (show (Try.prog.info? 31).map (fun i => (i.zero, i.size, i.bytes)) = some (some (.slice none 0 0), 1, 24) by kernel_rfl)
  simp [zeroValue, typeInfo, hi, hz0]

theorem wf_small {i : Nat} (h : i < 1000) : wfI (i : Int) := by
  unfold wfI
  have h1 : IntKind.i64.min = -9223372036854775808 := by decide
  have h2 : IntKind.i64.max = 9223372036854775807 := by decide
  simp [Lit.wf, h1, h2]
  omega
theorem groups_isMap {w : World} {base b n : Nat} {D : DataW Unit} (h : w.ownsGroups Try.prog 3 base 3 .i64 b n D) : Maps.IsMap D := by
  obtain ⟨es, clock, -, -, -, rfl, -⟩ := h
  exact ⟨_, rfl⟩
theorem PMap.kept {X Y : World} {b n : Nat} {A : List (Int × Int)} (h : PMap X b n A) (hk : Kept X Y) : PMap Y b n A := by
  obtain ⟨D, ⟨es, clock, hb, F, hs, rfl⟩, h2, h3⟩ := h
  exact ⟨_, ⟨es, clock, (hk.below.block b (Array.getElem?_eq_some_iff.1 hb).1).trans hb, F, hs, rfl⟩, h2, h3⟩
theorem PMap.grownNe {X Y : World} {b n : Nat} {A : List (Int × Int)} {row : Option Nat} (h : PMap X b n A) (hg : X.grownBy Y row) (hne : some b ≠ row) : PMap Y b n A := by
  obtain ⟨D, h1, h2, h3⟩ := h
  exact ⟨D, h1.kept hg hne, h2, h3⟩
theorem two_maps (X : World) : ∃ Y, (X.alloc (.map #[] 0)).alloc (.map #[] 0) = Y ∧ Kept X Y ∧ PMap Y X.heap.size 0 [] ∧ PMap Y (X.heap.size + 1) 0 [] ∧ Y.heap.size = X.heap.size + 2 := by
  refine ⟨_, rfl, ((Kept.refl X).alloc _).alloc _, (PMap.made X).kept ((Kept.refl _).alloc _), ?_, by simp⟩
  have h := PMap.made (X.alloc (.map #[] 0))
  have e : (X.alloc (.map #[] 0)).heap.size = X.heap.size + 1 := by simp
  rw [e] at h
  exact h
theorem owP_nat {chs : List (List Int)} {c : Int} : ∀ i, i ≤ chs.length → ∀ y ∈ owP chs c i, ∃ p : Nat, y = (p : Int) ∧ p < chs.length
  | 0, _, y, h => by simp [owP] at h
  | i + 1, hi, y, h => by
    rw [owP_succ (by omega)] at h
    rcases List.mem_append.1 h with h | h
    · exact owP_nat i (by omega) y h
    · unfold ow1 at h
      obtain ⟨_, _, rfl⟩ := List.mem_map.1 h
      exact ⟨i, rfl, by omega⟩
/-- Where a cell is in one patch alone, once. -/
theorem ownR_one {chs : List (List Int)} {c : Int} {L : List Int} (hL : owP chs c chs.length = L) (h : L.length = 1) : ∃ p : Nat, ownR chs c = (p : Int) ∧ L = [(p : Int)] ∧ p < chs.length := by
  match L, h with
  | [y], _ =>
    obtain ⟨p, rfl, hp⟩ := owP_nat (c := c) chs.length (Nat.le_refl _) y (by rw [hL]; simp)
    refine ⟨p, ?_, rfl, hp⟩
    unfold ownR
    rw [hL]
    simp [lastO]
theorem ownR_no {chs : List (List Int)} {c : Int} {L : List Int} (hL : owP chs c chs.length = L) (h : ¬ L.length = 1) : ownR chs c = -1 := by
  unfold ownR
  rw [hL, if_neg h]
theorem ints_form {X : World} {base : Nat} {v : Value} {zs : List Int} (h : X.ownsInts base 3 .i64 v zs) : ∃ ao c, v = .slice ao zs.length c ∧ Ints X ao zs := by
  have h1 : OwnI X base v zs := h.1
  obtain ⟨ao, c, e, -, hi⟩ := h1.slice
  exact ⟨ao, c, e, hi⟩
/-- What is looked up. -/
theorem look_run {X : World} {base mb n : Nat} {D : DataW Unit} {chs : List (List Int)} {c : Int} {L : List Int} (hg : X.ownsGroups Try.prog 3 base 3 .i64 mb n D) (hd : ∀ c, wfI c → datG D c (owP chs c chs.length)) (hc : wfI c) (hL : owP chs c chs.length = L) (hn : n ≤ 200) :
    ∃ ao cp, (Instr.lookup 138 (.map (some mb)) (.int .i64 c) false).run Try.prog X = .ok (.slice ao L.length cp) X ∧ Ints X ao L := by
  obtain ⟨v, zs, hrun, hat, hoi, -, -⟩ := hg.at keyed3 Try.underlying138 (zero31 X) (by unfold maxLen; omega) (Maps.keyOf_int_mk Try.underlying3 hc)
  have hz : L = zs := hL.symm.trans ((hd c hc).eq hat hoi)
  subst hz
  obtain ⟨ao, cp, rfl, hi⟩ := ints_form hoi
  exact ⟨ao, cp, hrun, hi⟩
theorem SeamBox.grownNe {X Y : World} {g : Nat} {x : Seam} {row : Option Nat} (h : SeamBox X g x) (hg : X.grownBy Y row) (hne : some g ≠ row) : SeamBox Y g x := ⟨hg.cell h.c0 hne, hg.cell h.c1 hne, hg.cell h.c2 hne, hg.cell h.c3 hne⟩
theorem PMap.putY {Y : World} {b n : Nat} {D : DataW Unit} {A : List (Int × Int)} {y : Int × Int} {d : DataW Unit} (hm : Maps.IsMap D) (hw : ∀ x ∈ A, wfI x.1 ∧ wfI x.2) (hh : ∀ x : Int × Int, wfI x.1 → wfI x.2 → (Maps.has D (litP x) = true ↔ x ∈ A)) (h1 : wfI y.1) (h2 : wfI y.2) (ho : Y.ownsMap Try.prog 83 (plainElem Try.prog 4) b n (D.put (litP y) d)) : PMap Y b n (y :: A) :=
  ⟨_, ho, fun x hx => by
    rcases List.mem_cons.1 hx with rfl | hx
    · exact ⟨h1, h2⟩
    · exact hw x hx, fun x hx1 hx2 => put_has hm hh h1 h2 x hx1 hx2⟩
theorem arcF1_lt {chs : List (List Int)} {A : List (Int × Int)} {x : Seam} (h : A.Pairwise (fun a b => cmpP a b < 0)) : (arcF1 chs A x).Pairwise (fun a b => cmpP a b < 0) := by
  unfold arcF1
  split
  · exact insP_lt _ _ h
  · exact h
theorem arcF2_lt {chs : List (List Int)} {A : List (Int × Int)} {x : Seam} (h : A.Pairwise (fun a b => cmpP a b < 0)) : (arcF2 chs A x).Pairwise (fun a b => cmpP a b < 0) := by
  unfold arcF2
  split
  · exact insP_lt _ _ h
  · exact h
theorem foldA_lt (chs : List (List Int)) : ∀ (l : List Seam) (A : List (Int × Int)), A.Pairwise (fun a b => cmpP a b < 0) → (l.foldl (arcsF chs) A).Pairwise (fun a b => cmpP a b < 0)
  | [], _, h => h
  | x :: l, A, h => foldA_lt chs l _ (by
    unfold arcsF
    split
    · exact h
    · exact arcF2_lt (arcF1_lt h))
theorem foldN_lt (chs : List (List Int)) : ∀ (l : List Seam) (A : List (Int × Int)), A.Pairwise (fun a b => cmpP a b < 0) → (l.foldl (nearF chs) A).Pairwise (fun a b => cmpP a b < 0)
  | [], _, h => h
  | x :: l, A, h => foldN_lt chs l _ (by
    unfold nearF
    split
    · exact h
    · exact insP_lt _ _ h)
theorem cell1_kept {X Y : World} {g : Nat} {u : Value} (hk : Kept X Y) (h : X.cell? ⟨g, 0, none⟩ = some u ∧ g < X.heap.size) : Y.cell? ⟨g, 0, none⟩ = some u ∧ g < Y.heap.size := ⟨hk.cell h.1, lt_of_cell (hk.cell h.1)⟩
theorem cell1_set {X : World} {g k : Nat} {u v0 v1 v2 : Value} (h : X.cell? ⟨g, 0, none⟩ = some u ∧ g < X.heap.size) (hne : g ≠ k) : (((X.setCell ⟨k, 0, none⟩ v0).setCell ⟨k, 1, none⟩ v1).setCell ⟨k, 2, none⟩ v2).cell? ⟨g, 0, none⟩ = some u ∧ g < (((X.setCell ⟨k, 0, none⟩ v0).setCell ⟨k, 1, none⟩ v1).setCell ⟨k, 2, none⟩ v2).heap.size :=
  ⟨cell_set3 h.1 hne, lt_of_cell (cell_set3 h.1 hne)⟩
/-- append of one number onto a list of the map. -/
theorem append_grp {ops : Array Oper} {rest : List Oper} {o : Oper} {a : Act} {Q : Exit → Act → World → Prop} (w : World) (hg : o.guard = none) (s x : Operand)
    (ho : o.op = .call { callee := .builtin .append, args := #[s, x], argTypes := #[31, 31] }) (base : Nat) (v : Value) (zs : List Int) (hs : a.eval s = v) (hown : w.ownsInts base 3 .i64 v zs)
    (g c : Nat) (p : Int) (hx : a.eval x = .slice (some ⟨g, 0, none⟩) 1 c) (hy : w.cell? ⟨g, 0, none⟩ = some (.int .i64 p)) (hp : wfI p) (hl : zs.length < 1099511627776) (hbase : base ≤ w.heap.size)
    (h : ∀ v' w', w'.ownsInts base 3 .i64 v' (zs ++ [p]) → w.grownBy w' v.ownBlock → (v'.ownBlock = v.ownBlock ∨ v'.ownBlock = some w.heap.size) → wpList Try.prog ops Q rest (a.put o.dst v') w') :
    wpList Try.prog ops Q (o :: rest) a w := by
  obtain ⟨i0, hi, hz0, hz1, hz2⟩ := info_parts info3
  refine wpList_append_own_at w hg s x 31 ho base 3 i0 (.int .i64 0) 1 8 Try.underlying31 hi hz0 hz1 hz2 rfl (by decide) v zs.length _ hs hown.1 ⟨g, 0, none⟩ 1 c [.int .i64 p] hx rfl
    (fun j u hu => ?_) (by simp [Value.oneCell']) (by unfold maxLen; omega) (by omega) hbase ?_
  · cases j with
    | zero =>
      simp at hu
      subst hu
      rw [Addr.add_mid]
      exact hy
    | succ j => simp at hu
  · intro v' w' h1 h2 _ h4
    exact h v' w' (hown.appended h1 hp) h2 h4
theorem grp_step {D : DataW Unit} {chs : List (List Int)} {i k : Nat} {ci : List Int} {x : Int} {zs : List Int} {X : World} {base : Nat} {v v' : Value} {Y : World} (hm : Maps.IsMap D) (hk : k < ci.length) (hx : ci[k] = x) (hwx : wfI x)
    (hd : ∀ c, wfI c → datG D c (owP chs c i ++ ow1 i c (ci.take k))) (hat : D.atKey (.int .i64 x) .nil = rowDatum .i64 v zs) (ho : X.ownsInts base 3 .i64 v zs) (ho' : Y.ownsInts base 3 .i64 v' (zs ++ [(i : Int)])) :
    ∀ c, wfI c → datG (D.put (.int .i64 x) (rowDatum .i64 v' (zs ++ [(i : Int)]))) c (owP chs c i ++ ow1 i c (ci.take (k + 1))) := fun c hc => by
  by_cases e : c = x
  · subst e
    rw [ow1_yes hk hx, ← List.append_assoc, (hd c hc).eq hat ho]
    exact datG.same hm ho'
  · rw [ow1_no hk (fun h => e (by rw [← hx, h]))]
    exact datG.other e (hd c hc)

/-- The boxes of the two arguments, of the result, the map. -/
theorem map_boxes (w : World) (A0 A1 B0 : Value) : ∃ w4, (((w.alloc (.cells #[A0, A1] 75)).alloc (.cells #[B0] 77)).alloc (.cells #[.int .i64 0, .slice none 0 0, .slice none 0 0] 24)).alloc (.map #[] 0) = w4 ∧
    Kept w w4 ∧ w4.cell? ⟨w.heap.size, 0, none⟩ = some A0 ∧ w4.cell? ⟨w.heap.size, 1, none⟩ = some A1 ∧ w4.cell? ⟨w.heap.size + 1, 0, none⟩ = some B0 ∧ PBox w4 (w.heap.size + 1 + 1) 0 (.slice none 0 0) (.slice none 0 0) ∧ GMap w4 (w.heap.size + 1 + 1 + 1 + 1) (w.heap.size + 1 + 1 + 1) 0 (fun _ => []) ∧ w4.heap.size = w.heap.size + 4 := by
  refine ⟨_, rfl, ((((Kept.refl w).alloc _).alloc _).alloc _).alloc _, ?_, ?_, ?_, ?_, ?_, ?_⟩
  · exact ((((Kept.refl _).alloc _).alloc _).alloc _).cell (cell_new2 w A0 A1 75).1
  · exact ((((Kept.refl _).alloc _).alloc _).alloc _).cell (cell_new2 w A0 A1 75).2
  · have h := cell_new0 (w.alloc (.cells #[A0, A1] 75)) B0 77
    have e : (w.alloc (.cells #[A0, A1] 75)).heap.size = w.heap.size + 1 := by simp
    rw [e] at h
    exact (((Kept.refl _).alloc _).alloc _).cell h
  · exact (three_box w A0 A1 B0).kept ((Kept.refl _).alloc _)
  · have h := GMap.made (((w.alloc (.cells #[A0, A1] 75)).alloc (.cells #[B0] 77)).alloc (.cells #[.int .i64 0, .slice none 0 0, .slice none 0 0] 24))
    have e : (((w.alloc (.cells #[A0, A1] 75)).alloc (.cells #[B0] 77)).alloc (.cells #[.int .i64 0, .slice none 0 0, .slice none 0 0] 24)).heap.size = w.heap.size + 1 + 1 + 1 := by simp
    rw [e] at h
    exact h
  · simp

set_option maxHeartbeats 4000000 in
theorem From_any (l : List Seam) (so : Option Addr) (sc : Nat) (xo : Option Addr) (xn xc : Nat) (chs : List (List Int)) (co : Option Addr) (cc : Nat) (w : World) (hs : Seams w so l) (hc : Chs w co chs) (hl : l.length ≤ 100) (hcl : chs.length ≤ 60) (hf : chs.flatten.length ≤ 200) (hwc : ∀ x ∈ chs.flatten, wfI x) (hws : ∀ x ∈ l, wfI x.a ∧ wfI x.b ∧ 0 ≤ x.up ∧ x.up < 256) :
    Calls Try.prog 68 #[.agg #[.slice xo xn xc, .slice so l.length sc], .agg #[.slice co chs.length cc]] w (RPost (FromF l chs).1 (FromF l chs).2 w) := by
  have HS := Lib.hid hs
  have HC := Lib.hid hc
  have HFL := Lib.hid hf
  have HWC := Lib.hid hwc
  have HWS := Lib.hid hws
  obtain ⟨R, hR⟩ : ∃ R, FromF l chs = R := ⟨_, rfl⟩
  rw [hR]
  have HR := Lib.hid hR
  clear hs hc hf hR hwc hws
  by_cases h24 : 24 < chs.length
  case pos =>
    have e1 : decide ((chs.length : Int) > 24) = true := decide_eq_true (by omega)
    have HX : Hid (R = (⟨0, [], []⟩, 2)) := Lib.hid (by rw [← HR.out]; unfold FromF; rw [if_pos h24])
    clear h24
    go_enter Try.func68, Try.ntmps68
    go_wp2
    refine bodyPost_ret (results_cell_tmp rfl _ _ ⟨w.heap.size + 1 + 1, 0, none⟩ rfl _ (load24 (w := ((w.alloc (.cells #[.slice xo xn xc, .slice so l.length sc] 75)).alloc (.cells #[.slice co chs.length cc] 77)).alloc (.cells #[.int .i64 0, .slice none 0 0, .slice none 0 0] 24)) (three_box w _ _ _).c0 (three_box w _ _ _).c1 (three_box w _ _ _).c2)) rfl ?_
    rw [HX.out]
    exact ⟨none, 0, none, 0, rfl, Pairs.nil _ _, Pairs.nil _ _, (((Kept.refl w).alloc _).alloc _).alloc _⟩
  have e1 : decide ((chs.length : Int) > 24) = false := decide_eq_false (by omega)
  have h24' : chs.length ≤ 24 := by omega
  have HX : Hid (R = if l.all (okF chs) = true then (⟨chs.length, l.foldl (arcsF chs) [], l.foldl (nearF chs) []⟩, 0) else (⟨0, [], []⟩, 1)) := Lib.hid (by rw [← HR.out]; unfold FromF; rw [if_neg h24])
  clear h24
  have hmm := @run_makeMap Try.prog
  go_enter Try.func68, Try.ntmps68
  go_wp2_with fail
  obtain ⟨w4, e4, hk4, b0, b1, d0, hp2, hgm, hsz⟩ := map_boxes w (.slice xo xn xc) (.slice so l.length sc) (.slice co chs.length cc)
  rw [e4]
  clear e4 hmm
  obtain ⟨g0, hg0⟩ : ∃ g, w.heap.size = g := ⟨_, rfl⟩
  obtain ⟨g1, hg1⟩ : ∃ g, w.heap.size + 1 = g := ⟨_, rfl⟩
  obtain ⟨g2, hg2⟩ : ∃ g, w.heap.size + 1 + 1 = g := ⟨_, rfl⟩
  obtain ⟨mb, hmb⟩ : ∃ g, w.heap.size + 1 + 1 + 1 = g := ⟨_, rfl⟩
  have HG : Hid (w.heap.size = g0 ∧ g0 < g1 ∧ g1 < g2 ∧ g2 < mb ∧ w4.heap.size = mb + 1 ∧ w.heap.size ≤ g2 ∧ w.heap.size ≤ mb) := Lib.hid (by omega)
  rw [hmb] at hgm ⊢
  rw [hg2] at hp2 ⊢
  rw [hg1] at d0 ⊢
  rw [hg0] at b0 b1 ⊢
  have HK4 := Lib.hid hk4
  have HB0 := Lib.hid (And.intro b0 b1)
  have HD0 := Lib.hid d0
  have HP2 := Lib.hid hp2
  have HGM := Lib.hid hgm
  clear hg0 hg1 hg2 hmb hk4 b0 b1 d0 hp2 hgm hsz e1
  -- the cells' patches
  go_loopw [26] (fun iv wr => ∃ i n : Nat, i ≤ chs.length ∧ iv = .int .i64 i ∧ n = (chs.take i).flatten.length ∧ GMap wr (mb + 1) mb n (fun c => owP chs c i) ∧ w4.grownBy wr (some mb)) (fun iv _ => chs.length - (intOf iv).toNat)
  case atStart => exact ⟨0, 0, Nat.zero_le _, rfl, rfl, HGM.out, ⟨rfl, rfl, rfl, Nat.le_refl _, fun _ _ _ => rfl⟩⟩
  case round =>
    obtain ⟨i, n, hi, rfl, hn, hgm, hgr⟩ := hrel
    have HGI := Lib.hid hgm
    have HGR := Lib.hid hgr
    have HNN := Lib.hid hn
    clear hgm hgr hn
    by_cases hlt : i < chs.length
    case pos =>
      have HKI := Lib.hid (HK4.out.grown HGR.out (fun r e => by cases e; exact HG.out.2.2.2.2.2.2))
      obtain ⟨B, off, la, lc, rfl, hc, hci⟩ := chs_at (HC.out.kept HKI.out) hlt
      have hcb := lt_of_cell hc
      have hcw := HC.out i hlt
      have HCI : Hid (Ints w la chs[i]) := Lib.hid (by
        obtain ⟨B2, off2, la2, lc3, e2, hc2, hci2, -, -⟩ := hcw
        cases e2
        rw [HKI.out.cell hc2] at hc
        simp only [Option.some.injEq, Value.slice.injEq] at hc
        rw [← hc.1]
        exact hci2)
      have HWI : Hid (∀ x ∈ chs[i], wfI x) := Lib.hid fun x hx => HWC.out x (List.mem_flatten.2 ⟨_, List.getElem_mem hlt, hx⟩)
      have HFS : Hid ((chs.take (i + 1)).flatten.length = n + chs[i].length) := Lib.hid (by rw [flat_len_succ hlt, HNN.out])
      have HNB : Hid (n + chs[i].length ≤ 200) := Lib.hid (by
        have h1 := flat_take_le (chs := chs) (i + 1)
        have h2 := HFS.out
        have h3 := HFL.out
        omega)
      have HSO : Hid (∀ c, owP chs c (i + 1) = owP chs c i ++ ow1 i c chs[i]) := Lib.hid fun c => owP_succ hlt
      have HLT : Hid (0 < chs.length - i) := Lib.hid (by omega)
      have hi60 : i < 60 := by omega
      have hwi : wfI (i : Int) := wf_small (by omega)
      clear hci hcw hi
      generalize chs[i] = ci at *
      have hnb := HNB.out
      obtain ⟨w5, hw5⟩ : ∃ x, x = wr := ⟨_, rfl⟩
      subst hw5
      go_wp2
      go_loopw [33] (fun kv wr => ∃ k : Nat, k ≤ ci.length ∧ kv = .int .i64 k ∧ GMap wr (mb + 1) mb (n + k) (fun c => owP chs c i ++ ow1 i c (ci.take k)) ∧ w4.grownBy wr (some mb)) (fun kv _ => ci.length - (intOf kv).toNat)
      case atStart => exact ⟨0, Nat.zero_le _, rfl, by simpa [ow1] using HGI.out, HGR.out⟩
      case round =>
        obtain ⟨k, hk, rfl, hgm, hgr⟩ := hrel
        obtain ⟨D, hown, hd⟩ := hgm
        have HOWN := Lib.hid hown
        have HD := Lib.hid hd
        have HGK := Lib.hid hgr
        clear hgr hown hd
        by_cases hkt : k < ci.length
        case pos =>
          have HKK := Lib.hid (HK4.out.grown HGK.out (fun r e => by cases e; exact HG.out.2.2.2.2.2.2))
          obtain ⟨B1, off1, rfl, hcx⟩ := HCI.out.kept HKK.out k hkt
          have hcxb := lt_of_cell hcx
          obtain ⟨x, hx⟩ : ∃ x, ci[k] = x := ⟨_, rfl⟩
          have hwx : wfI x := by rw [← hx]; exact HWI.out _ (List.getElem_mem hkt)
          have HX := Lib.hid (fun (v v' : Value) (zs : List Int) (X Y : World) => grp_step (D := D) (chs := chs) (i := i) (X := X) (Y := Y) (base := mb + 1) (v := v) (v' := v') (zs := zs) (groups_isMap HOWN.out) hkt hx hwx HD.out)
          rw [hx] at hcx
          have hkx := Maps.keyOf_int_mk Try.underlying3 hwx
          have HKX := Lib.hid hkx
          have HKT : Hid (0 < ci.length - k) := Lib.hid (by omega)
          have HWIX := Lib.hid hwi
          clear hkx hx
          go_wp2_with (first
            | (at_mapUpdate; refine wpList_mapUpdate_back _ rfl _ _ _ 138 rfl HBK.out rfl rfl rfl HGV.out HO6.out (by have := HZL.out; simp; omega) HLC.out ?_; intro w7 hown7 hgr7; have HOW7 := Lib.hid hown7; have HGR7 := Lib.hid hgr7; clear hown7 hgr7)
            | (at_builtin; refine append_grp _ rfl _ _ rfl (mb + 1) v zs rfl (HOI.out.alloc _) wr.heap.size 1 (i : Int) rfl (cell_new0 wr _ 3) HWIX.out (by have := HZL.out; omega) (by have h1 := HGK.out.size; have h2 := HG.out; simp; omega) ?_; intro v' w6 ho6 hg6 hl6; have HO6 := Lib.hid ho6; have HGV := Lib.hid ((World.grownBy_alloc wr (.cells #[.int .i64 (i : Int)] 3) v.ownBlock).trans hg6); have HLC : Hid (v'.ownBlock = v.ownBlock ∨ ∃ g, v'.ownBlock = some g ∧ wr.heap.size ≤ g) := Lib.hid (hl6.imp id (fun h => ⟨_, h, by simp⟩)); clear ho6 hg6 hl6)
            | (at_lookup; refine wpList_lookup_groups _ rfl _ _ 138 rfl 3 31 3 .i64 keyed3 Try.underlying138 (zero31 _) (mb + 1) mb (n + k) D rfl HOWN.out (by unfold maxLen; omega) _ _ rfl HKX.out ?_; intro v zs hat hoi hzl hback; have HAT := Lib.hid hat; have HOI := Lib.hid hoi; have HZL := Lib.hid hzl; have HBK := Lib.hid hback; clear hat hoi hzl hback)
            | fail)
          go_roundw
          case measure => have := HKT.out; simp [intOf] <;> omega
          case rel => exact ⟨k + 1, by have := HKT.out; omega, by go_num, ⟨_, HOW7.out, HX.out v v' zs wr w6 HAT.out HOI.out HO6.out⟩, (HGK.out.andThen HGV.out (fun jj e => by have h1 := (HOI.out.1.lt jj e).1; have h2 := HG.out; left; omega)).andThen HGR7.out (fun jj e => .inr e)⟩
        obtain rfl : k = ci.length := by omega
        have HGN : Hid (GMap wr (mb + 1) mb (n + ci.length) (fun c => owP chs c (i + 1))) := Lib.hid ⟨D, HOWN.out, fun c hc => by have h := HD.out c hc; rw [List.take_length] at h; show datG D c (owP chs c (i + 1)); rw [HSO.out]; exact h⟩
        clear hk hkt
        go_wp2
        go_roundw
        case measure => have := HLT.out; simp [intOf] <;> omega
        case rel => exact ⟨i + 1, _, by have := HLT.out; omega, by go_num, HFS.out.symm, HGN.out, HGK.out⟩
    obtain rfl : i = chs.length := by omega
    have HGE : Hid (GMap wr (mb + 1) mb n (fun c => owP chs c chs.length)) := Lib.hid HGI.out
    have hn200 : n ≤ 200 := by
      have h := HNN.out
      have h2 := HFL.out
      rw [List.take_length] at h
      omega
    have HK5 := Lib.hid (HK4.out.grown HGR.out (fun r e => by cases e; exact HG.out.2.2.2.2.2.2))
    have HB05 : Hid (wr.cell? ⟨g0, 1, none⟩ = some (.slice so l.length sc)) := Lib.hid (HGR.out.cell (a := ⟨g0, 1, none⟩) HB0.out.2 (fun e => by have h := HG.out; simp at e; omega))
    have HD05 : Hid (wr.cell? ⟨g1, 0, none⟩ = some (.slice co chs.length cc)) := Lib.hid (HGR.out.cell (a := ⟨g1, 0, none⟩) HD0.out (fun e => by have h := HG.out; simp at e; omega))
    have HP25 : Hid (PBox wr g2 0 (.slice none 0 0) (.slice none 0 0)) := Lib.hid (HP2.out.grownNe HGR.out (fun e => by have h := HG.out; simp at e; omega))
    have HG5 : Hid (g2 < mb ∧ mb < wr.heap.size ∧ w.heap.size ≤ g2 ∧ g0 < g1 ∧ g1 < g2 ∧ g0 = w.heap.size) := Lib.hid (by have h1 := HGR.out.size; have := HG.out; omega)
    clear hi hlt HGI HGR HNN HGM HP2 HD0 HB0 HK4 HG
    obtain ⟨w5, hw5⟩ : ∃ x, x = wr := ⟨_, rfl⟩
    subst hw5
    have hmm := @run_makeMap Try.prog
    have b1 := HB05.out
    have bb := lt_of_cell b1
    go_wp2_with fail
    clear b1 bb hmm
    obtain ⟨w6, e6, hk6, hpa, hpb, hs6⟩ := two_maps w5
    rw [e6]
    clear e6
    obtain ⟨ba, hba⟩ : ∃ g, w5.heap.size = g := ⟨_, rfl⟩
    obtain ⟨bn, hbn⟩ : ∃ g, w5.heap.size + 1 = g := ⟨_, rfl⟩
    have HBN : Hid (w5.heap.size = ba ∧ ba < bn ∧ bn < w6.heap.size) := Lib.hid (by omega)
    rw [hbn] at hpb ⊢
    rw [hba] at hpa ⊢
    have HK6 := Lib.hid hk6
    have HPA := Lib.hid hpa
    have HPB := Lib.hid hpb
    clear hba hbn hk6 hpa hpb hs6
    go_loopw [52] (fun iv wr => ∃ (k na nb : Nat) (A B : List (Int × Int)), k ≤ l.length ∧ iv = .int .i64 k ∧ na ≤ 2 * k ∧ nb ≤ k ∧ (∀ i, (h : i < l.length) → i < k → okF chs l[i] = true) ∧ PMap wr ba na A ∧ PMap wr bn nb B ∧ (∀ x, x ∈ A ↔ x ∈ (l.take k).foldl (arcsF chs) []) ∧ (∀ x, x ∈ B ↔ x ∈ (l.take k).foldl (nearF chs) []) ∧ A.length ≤ 2 * k ∧ B.length ≤ k ∧ Kept w5 wr ∧ bn < wr.heap.size) (fun iv _ => l.length - (intOf iv).toNat)
    case atStart => exact ⟨0, 0, 0, [], [], Nat.zero_le _, rfl, Nat.le_refl _, Nat.le_refl _, fun _ _ h => by omega, HPA.out, HPB.out, fun x => by simp, fun x => by simp, Nat.le_refl _, Nat.le_refl _, HK6.out, HBN.out.2.2⟩
    case round =>
      obtain ⟨k, na, nb, A, B, hk, rfl, hna, hnb, hok, hpa, hpb, hma, hmb, hla, hlb, hkr, hbr⟩ := hrel
      have HOK := Lib.hid hok
      have HPAR := Lib.hid hpa
      have HPBR := Lib.hid hpb
      have HMA := Lib.hid hma
      have HMB := Lib.hid hmb
      have HKR := Lib.hid hkr
      have HBR := Lib.hid hbr
      have HNAB := Lib.hid (And.intro hna (And.intro hnb (And.intro hla hlb)))
      clear hok hpa hpb hma hmb hkr hbr hna hnb hla hlb
      by_cases hlt : k < l.length
      case pos =>
        obtain ⟨B1, off1, rfl, c0, c1, c2, c3⟩ := HS.out.kept (HK5.out.trans HKR.out) k hlt
        have cb := lt_of_cell c0
        have b1 := HKR.out.cell HB05.out
        have bb := lt_of_cell b1
        have HFA := Lib.hid (foldF (f := arcsF chs) (b := []) hlt)
        have HFN := Lib.hid (foldF (f := nearF chs) (b := []) hlt)
        have HOKN : Hid (okF chs l[k] = true → ∀ i, (h : i < l.length) → i < k + 1 → okF chs l[i] = true) := Lib.hid fun h i hi hik => by
          rcases Nat.lt_or_eq_of_le (Nat.le_of_lt_succ hik) with h' | h'
          · exact HOK.out i hi h'
          · subst h'; exact h
        have HBADS : Hid (okF chs l[k] = false → R = (⟨0, [], []⟩, 1)) := Lib.hid fun h => by
          rw [HX.out, if_neg]
          intro h2
          rw [List.all_eq_true] at h2
          rw [h2 _ (List.getElem_mem hlt)] at h
          cases h
        have HWX := Lib.hid (HWS.out l[k] (List.getElem_mem hlt))
        have HLT : Hid (0 < l.length - k) := Lib.hid (by omega)
        have hk100 : k < 100 := by omega
        clear hk
        generalize l[k] = x at *
        obtain ⟨L1, hL1⟩ : ∃ L, owP chs x.a chs.length = L := ⟨_, rfl⟩
        obtain ⟨L2, hL2⟩ : ∃ L, owP chs x.b chs.length = L := ⟨_, rfl⟩
        have HL1 := Lib.hid hL1
        have HL2 := Lib.hid hL2
        clear hL1 hL2
        obtain ⟨w7, hw7⟩ : ∃ x, x = wr := ⟨_, rfl⟩
        subst hw7
        obtain ⟨D, hgr, hdt⟩ := HGE.out.kept HKR.out
        have HGRP := Lib.hid hgr
        have HDT := Lib.hid hdt
        have HKA := Lib.hid (Maps.keyOf_int_mk Try.underlying3 HWX.out.1)
        have HKB := Lib.hid (Maps.keyOf_int_mk Try.underlying3 HWX.out.2.1)
        clear hgr hdt
        have HP9 := Lib.hid ((HP25.out.kept HKR.out).kept ((Kept.refl w7).alloc (.cells #[.int .i64 x.a, .int .i64 x.b, .int .i64 x.pr, .int .u8 x.up] 141)))
        have HQ9 := Lib.hid (HP9.out.set 0 (.slice none 0 0) (.slice none 0 0))
        have HK9 := Lib.hid ((((((HK5.out.trans HKR.out).alloc (.cells #[.int .i64 x.a, .int .i64 x.b, .int .i64 x.pr, .int .u8 x.up] 141))).setCell (p := ⟨g2, 0, none⟩) HG5.out.2.2.1 (.int .i64 0)).setCell (p := ⟨g2, 1, none⟩) HG5.out.2.2.1 (.slice none 0 0)).setCell (p := ⟨g2, 2, none⟩) HG5.out.2.2.1 (.slice none 0 0))
        obtain ⟨p0, p1, p2, pf⟩ := HP9.out
        have f0 := pf 0
        have f1 := pf 1
        have f2 := pf 2
        have pb := lt_of_cell p0
        clear pf
        obtain ⟨ao1, cp1, hrunA, hi1⟩ := look_run (groups_kept HGRP.out ((Kept.refl w7).alloc (.cells #[.int .i64 x.a, .int .i64 x.b, .int .i64 x.pr, .int .u8 x.up] 141))) HDT.out HWX.out.1 HL1.out hn200
        obtain ⟨ao2, cp2, hrunB, hi2⟩ := look_run (groups_kept HGRP.out ((Kept.refl w7).alloc (.cells #[.int .i64 x.a, .int .i64 x.b, .int .i64 x.pr, .int .u8 x.up] 141))) HDT.out HWX.out.2.1 HL2.out hn200
        have HI1 := Lib.hid hi1
        have HI2 := Lib.hid hi2
        clear hi1 hi2
        by_cases h1 : L1.length = 1
        case neg =>
          have e1 : ((L1.length : Int) != 1) = true := by simp; omega
          have e2 : (L1.length != 1) = true := by simp; omega
          have HRR := Lib.hid (HBADS.out (by unfold okF; rw [ownR_no HL1.out h1]; exact decide_eq_false (by omega)))
          clear h1
          go_wp2_with fail
          refine bodyPost_ret (results_cell_tmp rfl _ _ ⟨g2, 0, none⟩ rfl _ (load24 HQ9.out.c0 HQ9.out.c1 HQ9.out.c2)) rfl ?_
          rw [HRR.out]
          exact ⟨none, 0, none, 0, rfl, Pairs.nil _ _, Pairs.nil _ _, HK9.out⟩
        have e1 : ((L1.length : Int) != 1) = false := by simp; omega
        have e2 : (L1.length != 1) = false := by simp; omega
        by_cases h2 : L2.length = 1
        case neg =>
          have e3 : ((L2.length : Int) != 1) = true := by simp; omega
          have e4 : (L2.length != 1) = true := by simp; omega
          have HRR := Lib.hid (HBADS.out (by unfold okF; rw [ownR_no HL2.out h2]; exact decide_eq_false (by omega)))
          clear h1 h2
          go_wp2_with fail
          refine bodyPost_ret (results_cell_tmp rfl _ _ ⟨g2, 0, none⟩ rfl _ (load24 HQ9.out.c0 HQ9.out.c1 HQ9.out.c2)) rfl ?_
          rw [HRR.out]
          exact ⟨none, 0, none, 0, rfl, Pairs.nil _ _, Pairs.nil _ _, HK9.out⟩
        have e3 : ((L2.length : Int) != 1) = false := by simp; omega
        have e4 : (L2.length != 1) = false := by simp; omega
        by_cases h3 : 3 < x.up
        case pos =>
          have e5 : decide (x.up > 3) = true := decide_eq_true h3
          have HRR := Lib.hid (HBADS.out (by unfold okF; exact decide_eq_false (by omega)))
          clear h1 h2 h3
          go_wp2_with fail
          refine bodyPost_ret (results_cell_tmp rfl _ _ ⟨g2, 0, none⟩ rfl _ (load24 HQ9.out.c0 HQ9.out.c1 HQ9.out.c2)) rfl ?_
          rw [HRR.out]
          exact ⟨none, 0, none, 0, rfl, Pairs.nil _ _, Pairs.nil _ _, HK9.out⟩
        obtain ⟨p, hp, rfl, hpn⟩ := ownR_one HL1.out h1
        obtain ⟨q, hq, rfl, hqn⟩ := ownR_one HL2.out h2
        have HPQ := Lib.hid (And.intro hp (And.intro hq (And.intro hpn hqn)))
        have HOK2 := Lib.hid (HOKN.out (by unfold okF; rw [hp, hq]; exact decide_eq_true (by omega)))
        have e5 : decide (x.up > 3) = false := decide_eq_false h3
        have HU3 : Hid (x.up ≤ 3 ∧ 0 ≤ x.up) := Lib.hid ⟨by omega, HWX.out.2.2.1⟩
        obtain ⟨Ba, oa, rfl, hca⟩ := HI1.out 0 (by simp)
        obtain ⟨Bb, ob, rfl, hcb2⟩ := HI2.out 0 (by simp)
        clear hp hq hpn hqn h1 h2 h3 p0 p1 p2 f0 f1 f2 pb HQ9 HK9 HBADS HOKN
        go_wp2_with fail
        clear hrunA hrunB e1 e2 e3 e4 e5 hca hcb2
        obtain ⟨ao3, cp3, hrunA, hi3⟩ := look_run (groups_kept HGRP.out ((Kept.refl w7).alloc (.cells #[.int .i64 x.a, .int .i64 x.b, .int .i64 x.pr, .int .u8 x.up] 141)).drew) HDT.out HWX.out.1 HL1.out hn200
        obtain ⟨ao4, cp4, hrunB, hi4⟩ := look_run (groups_kept HGRP.out ((Kept.refl w7).alloc (.cells #[.int .i64 x.a, .int .i64 x.b, .int .i64 x.pr, .int .u8 x.up] 141)).drew) HDT.out HWX.out.2.1 HL2.out hn200
        obtain ⟨Bc, oc, rfl, hcc1⟩ := hi3 0 (by simp)
        obtain ⟨Bd, od, rfl, hcc2⟩ := hi4 0 (by simp)
        have hcd1 := lt_of_cell hcc1
        have hcd2 := lt_of_cell hcc2
        simp only [List.getElem_cons_zero, Nat.add_zero] at hcc1 hcc2
        refine region_tail 13 (by kernel_rfl) (by kernel_rfl) ?_
        simp only [List.take_succ_cons, List.take_zero, List.drop_succ_cons, List.drop_zero]
        iterate 13
          with_reducible refine wpStill_want ?_ (fun K hK => ?_)
          · rfl
          go_simp
          refine hK _ ?_
          clear hK K
        with_reducible refine wpStill_nil ?_
        clear hrunA hrunB hcc1 hcc2 hcd1 hcd2 hi3 hi4
        have HK8 : Hid (Kept w7 (w7.alloc (.cells #[.int .i64 x.a, .int .i64 x.b, .int .i64 x.pr, .int .u8 x.up] 141)).drew) := Lib.hid ((Kept.refl w7).alloc _).drew
        have HSX : Hid (SeamBox (w7.alloc (.cells #[.int .i64 x.a, .int .i64 x.b, .int .i64 x.pr, .int .u8 x.up] 141)).drew w7.heap.size x) := Lib.hid (by
          obtain ⟨w9, e9, -, h9⟩ := seam_box w7 x
          rw [e9]
          exact h9.kept (Kept.refl _).drew)
        generalize (w7.alloc (.cells #[.int .i64 x.a, .int .i64 x.b, .int .i64 x.pr, .int .u8 x.up] 141)).drew = w8 at *
        have HPA8 := Lib.hid (HPAR.out.kept HK8.out)
        have HPB8 := Lib.hid (HPBR.out.kept HK8.out)
        have HK58 := Lib.hid (HKR.out.trans HK8.out)
        have HB8 : Hid (bn < w8.heap.size) := Lib.hid (by have h := HK8.out.size; have h2 := HBR.out; omega)
        by_cases hpq : p = q
        case pos =>
          have e1 : ((p : Int) == (q : Int)) = true := by simp [hpq]
          have e2 : (p == q) = true := by simp [hpq]
          have HEA : Hid (arcsF chs ((l.take k).foldl (arcsF chs) []) x = (l.take k).foldl (arcsF chs) [] ∧ nearF chs ((l.take k).foldl (nearF chs) []) x = (l.take k).foldl (nearF chs) []) := Lib.hid (by
            unfold arcsF nearF
            rw [HPQ.out.1, HPQ.out.2.1, if_pos (by rw [hpq]), if_pos (by rw [hpq])]
            exact ⟨rfl, rfl⟩)
          clear hpq
          go_wp2
          go_roundw
          case measure => have := HLT.out; simp [intOf] <;> omega
          case rel =>
            have h := HNAB.out
            exact ⟨k + 1, na, nb, A, B, by have := HLT.out; omega, by go_num, by omega, by omega, HOK2.out, HPA8.out, HPB8.out, fun y => by rw [HFA.out, HEA.out.1]; exact HMA.out y, fun y => by rw [HFN.out, HEA.out.2]; exact HMB.out y, by omega, by omega, HK58.out, HB8.out⟩
        have HWP : Hid (wfI (p : Int) ∧ wfI (q : Int)) := Lib.hid ⟨wf_small (by have := HPQ.out; omega), wf_small (by have := HPQ.out; omega)⟩
        obtain ⟨P, hP⟩ : ∃ P, (p : Int) = P := ⟨_, rfl⟩
        obtain ⟨Q, hQ⟩ : ∃ Q, (q : Int) = Q := ⟨_, rfl⟩
        rw [hP, hQ] at HWP HPQ ⊢
        have hne : ¬ P = Q := fun e => hpq (by omega)
        have e1 : (P == Q) = false := by simp [hne]
        have HMM : Hid (wfI (min P Q) ∧ wfI (max P Q)) := Lib.hid (by
          rcases Int.le_total P Q with h | h
          · rw [Int.min_eq_left h, Int.max_eq_right h]; exact HWP.out
          · rw [Int.min_eq_right h, Int.max_eq_left h]; exact ⟨HWP.out.2, HWP.out.1⟩)
        have HKN := Lib.hid (keyOf_pair HMM.out.1 HMM.out.2)
        have HKP := Lib.hid (keyOf_pair HWP.out.1 HWP.out.2)
        have HKQ := Lib.hid (keyOf_pair HWP.out.2 HWP.out.1)
        have HEN : Hid (∀ L, nearF chs L x = insP L (min P Q, max P Q)) := Lib.hid fun L => by unfold nearF; rw [HPQ.out.1, HPQ.out.2.1, if_neg hne]
        have HEA : Hid (∀ L, arcsF chs L x = arcF2 chs (arcF1 chs L x) x) := Lib.hid fun L => by unfold arcsF; rw [HPQ.out.1, HPQ.out.2.1, if_neg hne]
        have HE1 : Hid (∀ L, x.up = 1 ∨ x.up = 3 → arcF1 chs L x = insP L (P, Q)) := Lib.hid fun L h => by unfold arcF1; rw [if_pos h, HPQ.out.1, HPQ.out.2.1]
        have HE1n : Hid (∀ L, ¬ (x.up = 1 ∨ x.up = 3) → arcF1 chs L x = L) := Lib.hid fun L h => by unfold arcF1; rw [if_neg h]
        have HE2 : Hid (∀ L, x.up = 2 ∨ x.up = 3 → arcF2 chs L x = insP L (Q, P)) := Lib.hid fun L h => by unfold arcF2; rw [if_pos h, HPQ.out.1, HPQ.out.2.1]
        have HE2n : Hid (∀ L, ¬ (x.up = 2 ∨ x.up = 3) → arcF2 chs L x = L) := Lib.hid fun L h => by unfold arcF2; rw [if_neg h]
        obtain ⟨DA, hda, hwa, hha⟩ := HPA8.out
        obtain ⟨DB, hdb, hwb, hhb⟩ := HPB8.out
        have HDA := Lib.hid hda
        have HDB := Lib.hid hdb
        have HWA := Lib.hid (And.intro hwa hha)
        have HWB := Lib.hid (And.intro hwb hhb)
        clear hda hdb hwa hha hwb hhb hpq hP hQ hne
        have hup : x.up = 0 ∨ x.up = 1 ∨ x.up = 2 ∨ x.up = 3 := by have := HU3.out; omega
        rcases hup with hu | hu | hu | hu
        · have HU := Lib.hid hu
          have hb1 : bits BinOp.and IntKind.u8 x.up 1 = 0 := by rw [hu]; decide +kernel
          have hb2 : bits BinOp.and IntKind.u8 x.up 2 = 0 := by rw [hu]; decide +kernel
          clear hu
          go_wp2_with (first | (at_mapUpdate; refine wpList_mapUpdate_own _ rfl _ _ _ 139 rfl 83 4 keyed83 Try.underlying139 (plainElem Try.prog 4) bn nb DB rfl HDB.out (by have := HNAB.out; unfold maxLen; omega) _ _ (litP (min P Q, max P Q)) rfl rfl HKN.out (.lit (.bool true)) [] (plainElem_bool Try.underlying4 true) ?_; intro w9 hown9 hgr9; have HO9 := Lib.hid hown9; have HG9 := Lib.hid hgr9; have hs9 := HSX.out.grownNe hgr9 (fun e => by have h := HBR.out; simp at e; omega); have HS9 := Lib.hid hs9; obtain ⟨s0, s1, s2, s3⟩ := hs9; have sb := lt_of_cell s0; clear hown9 hgr9) | fail)
          go_roundw
          case measure => have := HLT.out; simp [intOf] <;> omega
          case rel =>
            have h := HNAB.out
            exact ⟨k + 1, na, nb + 1, A, (min P Q, max P Q) :: B, by have := HLT.out; omega, by go_num, by omega, by omega, HOK2.out, (HPA8.out.grownNe HG9.out (fun e => by have h := HBN.out; simp at e; omega)), (PMap.putY HDB.out.isMap HWB.out.1 HWB.out.2 HMM.out.1 HMM.out.2 HO9.out), fun y => by rw [HFA.out, HEA.out, HE1n.out _ (by rw [HU.out]; omega), HE2n.out _ (by rw [HU.out]; omega)]; exact HMA.out y, fun y => by rw [HFN.out, HEN.out, insP_mem, List.mem_cons, HMB.out y]; exact or_comm, by omega, by simp only [List.length_cons]; omega, (HK58.out.grown HG9.out (fun r e => by cases e; have h := HBN.out; omega)), by have h := HG9.out.size; have h2 := HB8.out; omega⟩
        · have HU := Lib.hid hu
          have hb1 : bits BinOp.and IntKind.u8 x.up 1 = 1 := by rw [hu]; decide +kernel
          have hb2 : bits BinOp.and IntKind.u8 x.up 2 = 0 := by rw [hu]; decide +kernel
          clear hu
          go_wp2_with (first | (at_mapUpdate; refine wpList_mapUpdate_own _ rfl _ _ _ 139 rfl 83 4 keyed83 Try.underlying139 (plainElem Try.prog 4) ba na DA rfl (HDA.out.kept HG9.out (fun e => by have h := HBN.out; simp at e; omega)) (by have := HNAB.out; unfold maxLen; omega) _ _ (litP (P, Q)) rfl rfl HKP.out (.lit (.bool true)) [] (plainElem_bool Try.underlying4 true) ?_; intro w10 hown10 hgr10; have HO10 := Lib.hid hown10; have HG10 := Lib.hid hgr10; have hs10 := HS9.out.grownNe hgr10 (fun e => by have h := HBR.out; have h2 := HBN.out; simp at e; omega); obtain ⟨s0, s1, s2, s3⟩ := hs10; have sb := lt_of_cell s0; clear hown10 hgr10) | (at_mapUpdate; refine wpList_mapUpdate_own _ rfl _ _ _ 139 rfl 83 4 keyed83 Try.underlying139 (plainElem Try.prog 4) bn nb DB rfl HDB.out (by have := HNAB.out; unfold maxLen; omega) _ _ (litP (min P Q, max P Q)) rfl rfl HKN.out (.lit (.bool true)) [] (plainElem_bool Try.underlying4 true) ?_; intro w9 hown9 hgr9; have HO9 := Lib.hid hown9; have HG9 := Lib.hid hgr9; have hs9 := HSX.out.grownNe hgr9 (fun e => by have h := HBR.out; simp at e; omega); have HS9 := Lib.hid hs9; obtain ⟨s0, s1, s2, s3⟩ := hs9; have sb := lt_of_cell s0; clear hown9 hgr9) | fail)
          go_roundw
          case measure => have := HLT.out; simp [intOf] <;> omega
          case rel =>
            have h := HNAB.out
            exact ⟨k + 1, na + 1, nb + 1, (P, Q) :: A, (min P Q, max P Q) :: B, by have := HLT.out; omega, by go_num, by omega, by omega, HOK2.out, (PMap.putY HDA.out.isMap HWA.out.1 HWA.out.2 HWP.out.1 HWP.out.2 HO10.out), ((PMap.putY HDB.out.isMap HWB.out.1 HWB.out.2 HMM.out.1 HMM.out.2 HO9.out).grownNe HG10.out (fun e => by have h := HBN.out; simp at e; omega)), fun y => by rw [HFA.out, HEA.out, HE1.out _ (.inl HU.out), HE2n.out _ (by rw [HU.out]; omega), insP_mem, List.mem_cons, HMA.out y]; exact or_comm, fun y => by rw [HFN.out, HEN.out, insP_mem, List.mem_cons, HMB.out y]; exact or_comm, by simp only [List.length_cons]; omega, by simp only [List.length_cons]; omega, ((HK58.out.grown HG9.out (fun r e => by cases e; have h := HBN.out; omega)).grown HG10.out (fun r e => by cases e; have h := HBN.out; omega)), by have h := HG9.out.size; have h2 := HB8.out; have h3 := HG10.out.size; omega⟩
        · have HU := Lib.hid hu
          have hb1 : bits BinOp.and IntKind.u8 x.up 1 = 0 := by rw [hu]; decide +kernel
          have hb2 : bits BinOp.and IntKind.u8 x.up 2 = 2 := by rw [hu]; decide +kernel
          clear hu
          go_wp2_with (first | (at_mapUpdate; refine wpList_mapUpdate_own _ rfl _ _ _ 139 rfl 83 4 keyed83 Try.underlying139 (plainElem Try.prog 4) ba na DA rfl (HDA.out.kept HG9.out (fun e => by have h := HBN.out; simp at e; omega)) (by have := HNAB.out; unfold maxLen; omega) _ _ (litP (Q, P)) rfl rfl HKQ.out (.lit (.bool true)) [] (plainElem_bool Try.underlying4 true) ?_; intro w10 hown10 hgr10; have HO10 := Lib.hid hown10; have HG10 := Lib.hid hgr10; clear hown10 hgr10) | (at_mapUpdate; refine wpList_mapUpdate_own _ rfl _ _ _ 139 rfl 83 4 keyed83 Try.underlying139 (plainElem Try.prog 4) bn nb DB rfl HDB.out (by have := HNAB.out; unfold maxLen; omega) _ _ (litP (min P Q, max P Q)) rfl rfl HKN.out (.lit (.bool true)) [] (plainElem_bool Try.underlying4 true) ?_; intro w9 hown9 hgr9; have HO9 := Lib.hid hown9; have HG9 := Lib.hid hgr9; have hs9 := HSX.out.grownNe hgr9 (fun e => by have h := HBR.out; simp at e; omega); have HS9 := Lib.hid hs9; obtain ⟨s0, s1, s2, s3⟩ := hs9; have sb := lt_of_cell s0; clear hown9 hgr9) | fail)
          go_roundw
          case measure => have := HLT.out; simp [intOf] <;> omega
          case rel =>
            have h := HNAB.out
            exact ⟨k + 1, na + 1, nb + 1, (Q, P) :: A, (min P Q, max P Q) :: B, by have := HLT.out; omega, by go_num, by omega, by omega, HOK2.out, (PMap.putY HDA.out.isMap HWA.out.1 HWA.out.2 HWP.out.2 HWP.out.1 HO10.out), ((PMap.putY HDB.out.isMap HWB.out.1 HWB.out.2 HMM.out.1 HMM.out.2 HO9.out).grownNe HG10.out (fun e => by have h := HBN.out; simp at e; omega)), fun y => by rw [HFA.out, HEA.out, HE1n.out _ (by rw [HU.out]; omega), HE2.out _ (.inl HU.out), insP_mem, List.mem_cons, HMA.out y]; exact or_comm, fun y => by rw [HFN.out, HEN.out, insP_mem, List.mem_cons, HMB.out y]; exact or_comm, by simp only [List.length_cons]; omega, by simp only [List.length_cons]; omega, ((HK58.out.grown HG9.out (fun r e => by cases e; have h := HBN.out; omega)).grown HG10.out (fun r e => by cases e; have h := HBN.out; omega)), by have h := HG9.out.size; have h2 := HB8.out; have h3 := HG10.out.size; omega⟩
        · have HU := Lib.hid hu
          have hb1 : bits BinOp.and IntKind.u8 x.up 1 = 1 := by rw [hu]; decide +kernel
          have hb2 : bits BinOp.and IntKind.u8 x.up 2 = 2 := by rw [hu]; decide +kernel
          clear hu
          go_wp2_with (first | (at_mapUpdate; refine wpList_mapUpdate_own _ rfl _ _ _ 139 rfl 83 4 keyed83 Try.underlying139 (plainElem Try.prog 4) ba (na + 1) _ rfl HO10.out (by have := HNAB.out; unfold maxLen; omega) _ _ (litP (Q, P)) rfl rfl HKQ.out (.lit (.bool true)) [] (plainElem_bool Try.underlying4 true) ?_; intro w11 hown11 hgr11; have HO11 := Lib.hid hown11; have HG11 := Lib.hid hgr11; clear hown11 hgr11) | (at_mapUpdate; refine wpList_mapUpdate_own _ rfl _ _ _ 139 rfl 83 4 keyed83 Try.underlying139 (plainElem Try.prog 4) ba na DA rfl (HDA.out.kept HG9.out (fun e => by have h := HBN.out; simp at e; omega)) (by have := HNAB.out; unfold maxLen; omega) _ _ (litP (P, Q)) rfl rfl HKP.out (.lit (.bool true)) [] (plainElem_bool Try.underlying4 true) ?_; intro w10 hown10 hgr10; have HO10 := Lib.hid hown10; have HG10 := Lib.hid hgr10; have hs10 := HS9.out.grownNe hgr10 (fun e => by have h := HBR.out; have h2 := HBN.out; simp at e; omega); obtain ⟨s0, s1, s2, s3⟩ := hs10; have sb := lt_of_cell s0; clear hown10 hgr10) | (at_mapUpdate; refine wpList_mapUpdate_own _ rfl _ _ _ 139 rfl 83 4 keyed83 Try.underlying139 (plainElem Try.prog 4) bn nb DB rfl HDB.out (by have := HNAB.out; unfold maxLen; omega) _ _ (litP (min P Q, max P Q)) rfl rfl HKN.out (.lit (.bool true)) [] (plainElem_bool Try.underlying4 true) ?_; intro w9 hown9 hgr9; have HO9 := Lib.hid hown9; have HG9 := Lib.hid hgr9; have hs9 := HSX.out.grownNe hgr9 (fun e => by have h := HBR.out; simp at e; omega); have HS9 := Lib.hid hs9; obtain ⟨s0, s1, s2, s3⟩ := hs9; have sb := lt_of_cell s0; clear hown9 hgr9) | fail)
          go_roundw
          case measure => have := HLT.out; simp [intOf] <;> omega
          case rel =>
            have h := HNAB.out
            exact ⟨k + 1, na + 1 + 1, nb + 1, (Q, P) :: (P, Q) :: A, (min P Q, max P Q) :: B, by have := HLT.out; omega, by go_num, by omega, by omega, HOK2.out, (PMap.putY HO10.out.isMap (fun z hz => (List.mem_cons.1 hz).elim (fun e => by rw [e]; exact HWP.out) (fun hz => HWA.out.1 z hz)) (fun z h1 h2 => put_has HDA.out.isMap HWA.out.2 HWP.out.1 HWP.out.2 z h1 h2) HWP.out.2 HWP.out.1 HO11.out), (((PMap.putY HDB.out.isMap HWB.out.1 HWB.out.2 HMM.out.1 HMM.out.2 HO9.out).grownNe HG10.out (fun e => by have h := HBN.out; simp at e; omega)).grownNe HG11.out (fun e => by have h := HBN.out; simp at e; omega)), fun y => by rw [HFA.out, HEA.out, HE1.out _ (.inr HU.out), HE2.out _ (.inr HU.out), insP_mem, insP_mem, List.mem_cons, List.mem_cons, HMA.out y]; exact ⟨fun h => h.elim .inr (fun h => h.elim (fun h => .inl (.inr h)) (fun h => .inl (.inl h))), fun h => h.elim (fun h => h.elim (fun h => .inr (.inr h)) (fun h => .inr (.inl h))) .inl⟩, fun y => by rw [HFN.out, HEN.out, insP_mem, List.mem_cons, HMB.out y]; exact or_comm, by simp only [List.length_cons]; omega, by simp only [List.length_cons]; omega, (((HK58.out.grown HG9.out (fun r e => by cases e; have h := HBN.out; omega)).grown HG10.out (fun r e => by cases e; have h := HBN.out; omega)).grown HG11.out (fun r e => by cases e; have h := HBN.out; omega)), by have h := HG9.out.size; have h2 := HB8.out; have h3 := HG10.out.size; have h4 := HG11.out.size; omega⟩
      obtain rfl : k = l.length := by omega
      rw [List.take_length] at HMA HMB
      have HRES : Hid (R = (⟨chs.length, l.foldl (arcsF chs) [], l.foldl (nearF chs) []⟩, 0)) := Lib.hid (by
        rw [HX.out, if_pos]
        rw [List.all_eq_true]
        intro x hx
        obtain ⟨i, hi, rfl⟩ := List.getElem_of_mem hx
        exact HOK.out i hi hi)
      have HAL : Hid (A.length ≤ 1000 ∧ B.length ≤ 1000) := Lib.hid (by have := HNAB.out; omega)
      have b1 := HKR.out.cell HB05.out
      have bb := lt_of_cell b1
      clear hk hlt
      obtain ⟨w7, hw7⟩ : ∃ x, x = wr := ⟨_, rfl⟩
      subst hw7
      go_upto_region 27 with fail
      clear b1 bb
      have sq : w7.cell? ⟨g1, 0, none⟩ = some (.slice co chs.length cc) ∧ g1 < w7.heap.size := ⟨HKR.out.cell HD05.out, lt_of_cell (HKR.out.cell HD05.out)⟩
      have hg12 : g1 ≠ g2 := by have := HG5.out; omega
      go_region_held3 (fun X => X.cell? ⟨g1, 0, none⟩ = some (.slice co chs.length cc) ∧ g1 < X.heap.size)
        (first
          | with_reducible exact sq | with_reducible exact sz | with_reducible exact sy
          | with_reducible exact cell1_kept (Kept.refl w7).drew sq
          | with_reducible exact cell1_set sy hg12)
        (first
          | (go_at_call 132; refine (listed_any bn nb B w9 ((HPBR.out.kept (Kept.refl w7).drew).kept HK9.out) HAL.out.2).mono ?_; rintro e w10 ⟨_, lb, rfl, hown2, hris2, hmem2, hk10⟩; obtain ⟨ya, yc, rfl, -, -⟩ := hown2.prs; have HO2 := Lib.hid hown2; have HR2 := Lib.hid hris2; have HM2 := Lib.hid hmem2; have HK10 := Lib.hid hk10; have sy := cell1_kept hk10 sz; have hp9 := ((HP25.out.kept HKR.out).kept (Kept.refl w7).drew).kept (HK9.out.trans hk10); have HP9 := Lib.hid hp9; obtain ⟨p0, p1, p2, pf⟩ := hp9; have f0 := pf 0; have f1 := pf 1; have f2 := pf 2; have pb := lt_of_cell p0; clear pf hown2 hris2 hmem2 hk10)
          | (go_at_call 132; refine (listed_any ba na A w7.drew (HPAR.out.kept (Kept.refl w7).drew) HAL.out.1).mono ?_; rintro e w9 ⟨_, la, rfl, hown1, hris1, hmem1, hk9⟩; obtain ⟨xa, xc1, rfl, -, -⟩ := hown1.prs; have HO1 := Lib.hid hown1; have HR1 := Lib.hid hris1; have HM1 := Lib.hid hmem1; have HK9 := Lib.hid hk9; have sz := cell1_kept ((Kept.refl w7).drew.trans hk9) sq; clear hown1 hris1 hmem1 hk9))
      have HLA : Hid (la = l.foldl (arcsF chs) []) := Lib.hid (strict_ext (risB_pw.1 HR1.out) (foldA_lt chs l [] List.Pairwise.nil) (fun x => by rw [HM1.out, HMA.out]))
      have HLB : Hid (lb = l.foldl (nearF chs) []) := Lib.hid (strict_ext (risB_pw.1 HR2.out) (foldN_lt chs l [] List.Pairwise.nil) (fun x => by rw [HM2.out, HMB.out]))
      have HQ9 := Lib.hid (HP9.out.set (chs.length : Int) (.slice xa la.length xc1) (.slice ya lb.length yc))
      have hg7 : g2 < w7.heap.size := by have h := HG5.out; have h2 := HKR.out.size; omega
      have hg9 : g2 < w9.heap.size := by have h := HK9.out.size; have h2 : w7.drew.heap.size = w7.heap.size := rfl; omega
      have HPA9 : Hid (Pairs (((w10.setCell ⟨g2, 0, none⟩ (.int .i64 (chs.length : Int))).setCell ⟨g2, 1, none⟩ (.slice xa la.length xc1)).setCell ⟨g2, 2, none⟩ (.slice ya lb.length yc)) xa la) := Lib.hid (by
        have h := (((HO1.out.kept HK10.out).setBelow (a := ⟨g2, 0, none⟩) hg7 (.int .i64 (chs.length : Int))).setBelow (a := ⟨g2, 1, none⟩) hg7 (.slice xa la.length xc1)).setBelow (a := ⟨g2, 2, none⟩) hg7 (.slice ya lb.length yc)
        obtain ⟨_, _, e, hp, -⟩ := h.prs
        cases e
        exact hp)
      have HPB9 : Hid (Pairs (((w10.setCell ⟨g2, 0, none⟩ (.int .i64 (chs.length : Int))).setCell ⟨g2, 1, none⟩ (.slice xa la.length xc1)).setCell ⟨g2, 2, none⟩ (.slice ya lb.length yc)) ya lb) := Lib.hid (by
        have h := ((HO2.out.setBelow (a := ⟨g2, 0, none⟩) hg9 (.int .i64 (chs.length : Int))).setBelow (a := ⟨g2, 1, none⟩) hg9 (.slice xa la.length xc1)).setBelow (a := ⟨g2, 2, none⟩) hg9 (.slice ya lb.length yc)
        obtain ⟨_, _, e, hp, -⟩ := h.prs
        cases e
        exact hp)
      have HKE : Hid (Kept w w10) := Lib.hid ((((HK5.out.trans HKR.out).trans (Kept.refl w7).drew).trans HK9.out).trans HK10.out)
      clear hg7 hg9
      go_wp2
      refine bodyPost_ret (results_cell_tmp rfl _ _ ⟨g2, 0, none⟩ rfl _ (load24 HQ9.out.c0 HQ9.out.c1 HQ9.out.c2)) rfl ?_
      have ht : w.heap.size ≤ g2 := HG5.out.2.2.1
      rw [HRES.out, ← HLA.out, ← HLB.out]
      exact ⟨xa, xc1, ya, yc, rfl, HPA9.out, HPB9.out, ((HKE.out.setCell (p := ⟨g2, 0, none⟩) ht _).setCell (p := ⟨g2, 1, none⟩) ht _).setCell (p := ⟨g2, 2, none⟩) ht _⟩
end Go.Proofs.Yteljjkghjbofnaa
