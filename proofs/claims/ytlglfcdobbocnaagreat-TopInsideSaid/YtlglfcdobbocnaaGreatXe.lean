/- Rows that are made; the numbering of all darts. -/
import Derived.Test.YtlglfcdobbocnaaGreatXd
set_option maxRecDepth 100000
namespace Go.Proofs.YtlglfcdobbocnaaGreat
open Go Go.Proofs Go.RowKit
attribute [local go_sem] Oper.semAt_some
/-- Values of the call's own, of one cell each. -/
abbrev OwnV (X : World) (base e : Nat) (v : Value) (l : List Value) : Prop := OwnG X base e 1 (fun x : Value => [x]) v l
theorem flat_val (l : List Value) : l.flatMap (fun x : Value => [x]) = l := by
  induction l with
  | nil => rfl
  | cons x l ih => simp [ih]
theorem OwnV.ints {X : World} {base : Nat} {v : Value} {l : List Int} (h : OwnV X base 3 v (l.map (.int .i64))) : OwnN X base v l := by
  unfold OwnN OwnV OwnG at *
  rw [flat_val] at h
  rw [flat_int]
  simpa using h
theorem OwnG.setV {X : World} {base e g c n : Nat} {l : List Value} (h : OwnV X base e (.slice (some ⟨g, 0, none⟩) n c) l) (k : Nat) (x : Value) :
    OwnV (X.setCell ⟨g, k, none⟩ x) base e (.slice (some ⟨g, 0, none⟩) n c) (l.set k x) := by
  obtain ⟨cur, rfl, hb, hh, hn, hm, hs, ht⟩ := h.parts
  refine OwnG.of_parts (cs := fun x : Value => [x]) (fun _ => rfl) (by rw [List.length_set]) hb (heap_setCell_same X g _ cur e _ hh) hn hm (by rw [Array.size_setIfInBounds]; exact hs) ?_
  rw [flat_val] at ht ⊢
  rw [Array.toList_setIfInBounds, List.take_set, ht]
theorem atV {X : World} {base e g c n : Nat} {l : List Value} (h : OwnV X base e (.slice (some ⟨g, 0, none⟩) n c) l) {k : Nat} (hk : k < l.length) : X.cell? ⟨g, k, none⟩ = some l[k] := by
  have := OwnG.at_ (cs := fun x : Value => [x]) (fun _ => rfl) h hk (j := 0) (u := l[k]) rfl
  simpa using this
theorem kept_of_grown {w w' : World} (h : w.grownBy w' none) : Kept w w' :=
  ⟨h.os, h.tape, h.output, h.size, fun k hk => h.block k hk (by simp)⟩
/-- make of a slice, of elements of one cell. -/
theorem make_val {ops : Array Oper} {rest : List Oper} {o : Oper} {a : Act} {Q : Exit → Act → World → Prop} (w : World)
    (hg : o.guard = none) (l c : Operand) (t e : TypeId) (z : Value) (bytes : Nat) (hop : o.op = Op.makeSlice t l c) (ht : Tryz.prog.underlying t = some (.slice e)) (hinfo : (Tryz.prog.info? e).map (fun i => (i.zero, i.size, i.bytes)) = some (some z, 1, bytes)) (hz : z.cells = #[z]) (hbytes : bytes ≤ 64)
    (n : Nat) (hl : a.eval l = .int .i64 n) (hc : a.eval c = .int .i64 n) (hn : n < 1099511627776)
    (hK : ∀ w', OwnV w' w.heap.size e (.slice (some ⟨w.heap.size, 0, none⟩) n n) (List.replicate n z) → Kept w w' → w.heap.size < w'.heap.size → wpList Tryz.prog ops Q rest (a.put o.dst (.slice (some ⟨w.heap.size, 0, none⟩) n n)) w') :
    wpList Tryz.prog ops Q (o :: rest) a w := by
  obtain ⟨i0, hi, hz0, hz1, hz2⟩ := info_parts' hinfo
  refine wpList_make_full w hg l c t hop w.heap.size e i0 z 1 ht hi hz0 hz1 .i64 .i64 n n n hl hc rfl rfl (by rw [hz2]; have : n * bytes ≤ n * 64 := Nat.mul_le_mul_left _ hbytes; have e := Nat.mul_comm n bytes; omega) (by unfold maxLen; omega) (Nat.le_refl _) ?_
  intro w' hown hgrow
  have hcells : (madeCells z.cells (n * 1)).toList = List.replicate n z := by
    unfold madeCells
    apply List.ext_getElem
    · simp
    · intro i h1 h2
      simp [hz, Nat.mod_one]
  have ho : OwnV w' w.heap.size e (.slice (some ⟨w.heap.size, 0, none⟩) n n) (List.replicate n z) := by
    unfold OwnV OwnG
    rw [flat_val, List.length_replicate, ← hcells]
    exact hown
  refine hK w' ho (kept_of_grown hgrow) ?_
  obtain ⟨cur, -, -, hh, -⟩ := ho.parts
  exact (Array.getElem?_eq_some_iff.1 hh).1
theorem info4 : (Tryz.prog.info? 4).map (fun i => (i.zero, i.size, i.bytes)) = some (some (.bool false), 1, 1) := by kernel_rfl
def boolL (l : List Bool) : List Value := l.map .bool
theorem OwnV.bools {X : World} {base : Nat} {v : Value} {l : List Bool} (h : OwnV X base 4 v (boolL l)) : ∃ ao c, v = .slice ao l.length c ∧ Bools X ao l := by
  rcases OwnG.slice (cs := fun x : Value => [x]) h (fun _ => rfl) with ⟨e, rfl⟩ | ⟨g, c, rfl, -, hb, -, -, hc⟩
  · have : l = [] := by unfold boolL at e; simpa using e
    subst this
    exact ⟨none, 0, rfl, fun i hi => by simp at hi⟩
  · refine ⟨_, c, by unfold boolL; rw [List.length_map], fun i hi => ⟨g, 0, rfl, ?_⟩⟩
    have := hc i (by unfold boolL; simpa using hi) 0 _ rfl
    simp only [boolL, List.getElem_map] at this
    simpa using this
theorem boolL_set (l : List Bool) (k : Nat) (x : Bool) : boolL (l.set k x) = (boolL l).set k (.bool x) := by unfold boolL; rw [List.map_set]
theorem boolL_len (l : List Bool) : (boolL l).length = l.length := by unfold boolL; simp
theorem boolL_get {l : List Bool} {k : Nat} (h : k < (boolL l).length) (h2 : k < l.length) : (boolL l)[k] = .bool l[k] := by simp only [boolL, List.getElem_map]
/-! ### number -/
theorem numStep_le (n : Nat) (g : Nat → Nat) (A : Nat → Int) (s : Num) (d : Nat) : (numStep n g A s d).many ≤ s.many + 1 ∧ (numStep n g A s d).outside ≤ s.outside + 1 := by
  unfold numStep
  split
  · omega
  · split
    · exact ⟨Nat.le_refl _, Nat.le_succ _⟩
    · split
      · exact ⟨Nat.le_succ _, Nat.le_refl _⟩
      · exact ⟨Nat.le_succ _, Nat.le_succ _⟩
theorem numG_le (n : Nat) (g : Nat → Nat) (A : Nat → Int) (k : Nat) : (numG n g A k).many ≤ k ∧ (numG n g A k).outside ≤ k := by
  induction k with
  | zero => exact ⟨Nat.le_refl _, Nat.le_refl _⟩
  | succ k ih =>
    rw [numG_succ]
    have := numStep_le n g A (numG n g A k) k
    omega
theorem Stay.set {g b o : Nat} {w X : World} (h : Stay g w X) (hb : w.heap.size ≤ b) (v : Value) : Stay g w (X.setCell ⟨b, o, none⟩ v) := fun x y u hc hn => by
  have := lt_of_cell hc
  exact cell_set_block (h x y u hc hn) (by omega)
theorem Stay.five {g : Nat} {w X : World} (h : Stay g w X) (v : Value) : Stay g w (X.setCell ⟨g, 5, none⟩ v) := fun x y u hc hn => by
  have := h x y u hc hn
  by_cases e : x = g
  · subst e; exact cell_set_off this (by omega)
  · exact cell_set_block this e
theorem markF_cons {α : Type} (l : List Nat) (v : α) (s : List α) (k : Nat) (hk : k < l.length) : markF (l.take (k + 1)) v s = (markF (l.take k) v s).set l[k] v := by
  unfold markF
  rw [List.take_succ_eq_append_getElem hk, List.foldl_append]
  rfl
theorem grown_low {w X Y : World} {g b : Nat} (h : w.grownBy X (some g)) (k : X.grownBy Y (some b)) (hb : w.heap.size ≤ b) : w.grownBy Y (some g) := grownBy_past h k (fun r e => by cases e; exact hb)
theorem OwnG.intsAt {X : World} {base n c : Nat} {ao : Option Addr} {l : List Int} (h : OwnN X base (.slice ao n c) l) : Ints X ao l ∧ n = l.length := by
  obtain ⟨a, k, e, hi, -⟩ := OwnG.ints h
  simp only [Value.slice.injEq] at e
  obtain ⟨rfl, rfl, rfl⟩ := e
  exact ⟨hi, rfl⟩
theorem numStep_pos {n : Nat} {g : Nat → Nat} {A : Nat → Int} {S : Num} {k : Nat} (h : S.seen.getD k false = false) (hA : 0 < A k) : numStep n g A S k = { face := markF (orbF n g k) ((S.many : Int) + 1) S.face, seen := markF (orbF n g k) true S.seen, many := S.many + 1, outside := S.outside, flat := S.flat } := by
  unfold numStep
  rw [if_neg (by rw [h]; simp), if_pos hA]
  rw [show ((S.many + 1 : Nat) : Int) = (S.many : Int) + 1 by omega]
theorem numStep_neg {n : Nat} {g : Nat → Nat} {A : Nat → Int} {S : Num} {k : Nat} (h : S.seen.getD k false = false) (hA : A k < 0) : numStep n g A S k = { face := markF (orbF n g k) 0 S.face, seen := markF (orbF n g k) true S.seen, many := S.many, outside := S.outside + 1, flat := S.flat } := by
  unfold numStep
  rw [if_neg (by rw [h]; simp), if_neg (by omega), if_pos hA]
theorem numStep_zero {n : Nat} {g : Nat → Nat} {A : Nat → Int} {S : Num} {k : Nat} (h : S.seen.getD k false = false) (hA : A k = 0) : numStep n g A S k = { face := markF (orbF n g k) 0 S.face, seen := markF (orbF n g k) true S.seen, many := S.many, outside := S.outside, flat := true } := by
  unfold numStep
  rw [if_neg (by rw [h]; simp), if_neg (by omega), if_neg (by omega)]
/-- Where the numbering is: faces, what is seen; what lay stays, but for the web's slice of faces. -/
structure NumAt (w X : World) (g f sb N : Nat) (face : List Int) (seen : List Bool) : Prop where
  stay : Stay g w X
  grown : w.grownBy X (some g)
  cell : X.cell? ⟨g, 5, none⟩ = some (.slice (some ⟨f, 0, none⟩) N N)
  face : OwnN X w.heap.size (.slice (some ⟨f, 0, none⟩) N N) face
  seen : OwnV X w.heap.size 4 (.slice (some ⟨sb, 0, none⟩) N N) (boolL seen)
  f0 : w.heap.size ≤ f
  s0 : w.heap.size ≤ sb
  fs : f ≠ sb
  g0 : g < w.heap.size
theorem NumAt.kept {w X Y : World} {g f sb N : Nat} {face : List Int} {seen : List Bool} (h : NumAt w X g f sb N face seen) (hk : Kept X Y) : NumAt w Y g f sb N face seen :=
  ⟨h.stay.trans (hk.stay g), grownBy_kept h.grown hk, hk.cell h.cell, OwnG.kept h.face hk, OwnG.kept h.seen hk, h.f0, h.s0, h.fs, h.g0⟩
theorem NumAt.set {w X : World} {g f sb N : Nat} {face : List Int} {seen : List Bool} (h : NumAt w X g f sb N face seen) {x : Nat} (hx : x < face.length) (v : Int) :
    NumAt w ((X.setCell ⟨sb, x, none⟩ (.bool true)).setCell ⟨f, x, none⟩ (.int .i64 v)) g f sb N (face.set x v) (seen.set x true) := by
  have hf := h.f0
  have hs := h.s0
  have hg := h.g0
  have hne := h.fs
  refine ⟨(h.stay.set hs _).set hf _, grown_low (grown_low h.grown (set1_grown _ _ _ _) hs) (set1_grown _ _ _ _) hf, cell_set_block (cell_set_block h.cell (by omega)) (by omega), OwnG.setN (OwnG.setNe h.face (by simp [Value.ownBlock]; exact hne) _) hx v, ?_, hf, hs, hne, hg⟩
  rw [boolL_set]
  exact OwnG.setNe (OwnG.setV h.seen x _) (by simp [Value.ownBlock]; exact fun e => hne e.symm) _

set_option maxHeartbeats 4000000 in
theorem number_any (g : Nat) (P : List Pt) (E : List (Nat × Nat)) (w : World) (hW : WebC w g P E) (he : Ends P E) (hok : ∀ x ∈ P, okB x = true) (h5 : ∃ u, w.cell? ⟨g, 5, none⟩ = some u) (hfz : w.frozen? ⟨g, 5, none⟩ = false) :
    Calls Tryz.prog 60 #[.pointer (some ⟨g, 0, none⟩)] w (fun e w' => ∃ f sb, e = .returned (.tuple #[.int .i64 (numE P E (2 * E.length)).many, .bool (decide ((numE P E (2 * E.length)).outside = 1) && !(numE P E (2 * E.length)).flat)]) ∧ NumAt w w' g f sb (2 * E.length) (numE P E (2 * E.length)).face (numE P E (2 * E.length)).seen) := by
  have HW := Lib.hid hW
  have HE := Lib.hid he
  have HOK := Lib.hid hok
  obtain ⟨u5, h5⟩ := h5
  have hg := lt_of_cell h5
  obtain ⟨a, c, a0, -, -⟩ := hW.all
  have HN : Hid (2 * E.length ≤ 800) := Lib.hid (by have := he.few; omega)
  have HLT : Hid (∀ d x, d < 2 * E.length → x ∈ orbE P E d → x < 2 * E.length) := Lib.hid (fun d x hd hx => (inj_nxt P E).orb_lt hd hx)
  have HLL : Hid (∀ d, d < 2 * E.length → (orbE P E d).length ≤ 2 * E.length) := Lib.hid (fun d hd => (inj_nxt P E).orb_len hd)
  have HOKK : Hid (∀ k, k ≤ 2 * E.length → NumOk (2 * E.length) (nxtF P E) (fun d => areaW P E (orbE P E d)) k (numE P E k)) := Lib.hid (numE_ok P E)
  have HSTEP : Hid (∀ k, numE P E (k + 1) = numStep (2 * E.length) (nxtF P E) (fun d => areaW P E (orbE P E d)) (numE P E k) k) := Lib.hid (fun k => numG_succ _ _ _ k)
  have HLE : Hid (∀ k, (numE P E k).many ≤ k ∧ (numE P E k).outside ≤ k) := Lib.hid (fun k => numG_le _ _ _ k)
  have HZ : Hid (numE P E 0 = { face := List.replicate (2 * E.length) 0, seen := List.replicate (2 * E.length) false, many := 0, outside := 0, flat := false }) := Lib.hid rfl
  obtain ⟨n2, hn2⟩ : ∃ n2, 2 * E.length = n2 := ⟨_, rfl⟩
  clear hW he hok
  rw [hn2] at a0 HN HLT HLL HOKK HSTEP HZ ⊢
  have HN2 := Lib.hid hn2
  clear hn2
  have hn8 := HN.out
  go_enter Tryz.func60, Tryz.ntmps60
  have HNN : Hid (n2 < 1099511627776) := Lib.hid (by omega)
  obtain ⟨f, hf⟩ : ∃ f, w.heap.size = f := ⟨_, rfl⟩
  go_wp2_with (first | (at_make; refine make_val w rfl _ _ 36 3 _ 8 rfl Tryz.underlying36 info3 rfl (by decide) n2 rfl rfl HNN.out ?_; intro w1 ho1 hk1 hs1; rw [hf] at ho1 ⊢; have HO1 := Lib.hid ho1; have h5 := hk1.cell h5; have hfz := (hk1.cells.2 _ 5 hg).trans hfz; have a0 := hk1.cell a0; have hg1 := lt_of_cell h5; have HK1 := Lib.hid hk1; clear ho1 hk1) | (at_make; refine make_val (w1.setCell ⟨g, 5, none⟩ (.slice (some ⟨f, 0, none⟩) n2 n2)) rfl _ _ 114 4 _ 1 rfl Tryz.underlying114 info4 rfl (by decide) n2 rfl rfl HNN.out ?_; intro w3 ho3 hk3 hs3; have HO3 := Lib.hid ho3; have HK3 := Lib.hid hk3; have a1 := hk3.cell (cell_set_off (u := .slice (some ⟨f, 0, none⟩) n2 n2) a0 (o := 5) (by omega)); clear ho3 hk3 hs3) | fail)
  obtain ⟨sb, hsb⟩ : ∃ sb, w1.heap.size = sb := ⟨_, rfl⟩
  have hsb2 : f < sb := by rw [← hsb, ← hf]; exact hs1
  have HNA : Hid (NumAt w w3 g f sb n2 (numE P E 0).face (numE P E 0).seen) := Lib.hid (by
    rw [HZ.out]
    refine ⟨((HK1.out.stay g).five _).trans (HK3.out.stay g), grownBy_kept (grownBy_cell (grownBy_kept (grownBy_same w _) HK1.out) 5 _) HK3.out, HK3.out.cell (cell_set_same h5), ?_, ?_, by omega, by omega, by omega, hg⟩
    · rw [hf]
      refine OwnV.ints ?_
      rw [List.map_replicate]
      exact OwnG.kept (OwnG.setNe HO1.out (by simp [Value.ownBlock]; omega) _) HK3.out
    · have h := HO3.out
      rw [World.size_setCell, hsb] at h
      rw [show boolL (List.replicate n2 false) = List.replicate n2 (Value.bool false) by unfold boolL; rw [List.map_replicate]]
      exact OwnG.base' h (by omega))
  rw [hsb]
  clear h5 hfz a0 HO1 HO3 hs1 hg1 a1 HK1 HK3 hsb
  go_loopw [5, 6, 7, 34] (fun mv ov fv kv wr => ∃ k : Nat, k ≤ n2 ∧ kv = .int .i64 k ∧ mv = .int .i64 (numE P E k).many ∧ ov = .int .i64 (numE P E k).outside ∧ fv = .bool (numE P E k).flat ∧ NumAt w wr g f sb n2 (numE P E k).face (numE P E k).seen) (fun _ _ _ kv _ => n2 - (intOf kv).toNat)
  case atStart => exact ⟨0, Nat.zero_le _, rfl, by rw [HZ.out]; rfl, by rw [HZ.out]; rfl, by rw [HZ.out], HNA.out⟩
  case round =>
    clear HNA HZ
    obtain ⟨k, hk, rfl, rfl, rfl, rfl, hna⟩ := hrel
    have HNA := Lib.hid hna
    have hle := HLE.out k
    have hok := HOKK.out k hk
    have HFL : Hid ((numE P E k).face.length = n2 ∧ (numE P E k).seen.length = n2) := Lib.hid ⟨hok.fl, hok.sl⟩
    clear hna hok
    by_cases hlt : k < n2
    · have HST := Lib.hid (HSTEP.out k)
      generalize hS : numE P E k = S at *
      have hsk := atV HNA.out.seen (k := k) (by rw [boolL_len, HFL.out.2]; exact hlt)
      rw [boolL_get _ (by rw [HFL.out.2]; exact hlt)] at hsk
      have HSD : Hid (S.seen.getD k false = S.seen[k]'(by rw [HFL.out.2]; exact hlt)) := Lib.hid (by rw [List.getD_eq_getElem?_getD, List.getElem?_eq_getElem (by rw [HFL.out.2]; exact hlt)]; rfl)
      generalize S.seen[k]'(by rw [HFL.out.2]; exact hlt) = sk at hsk HSD
      cases sk
      · have hsbw := lt_of_cell hsk
        have hfw : f < wr.heap.size := by
          obtain ⟨cur, -, -, hh, -⟩ := HNA.out.face.parts
          exact (Array.getElem?_eq_some_iff.1 hh).1
        go_wp2_with fail
        refine (walk_any g k P E wr (HW.out.stay HNA.out.stay) HE.out (by rw [HN2.out]; exact hlt)).mono ?_
        rintro e w4 ⟨vl, rfl, hov, hk4⟩
        obtain ⟨ao, cl, rfl, hints, hbl⟩ := OwnG.ints hov
        obtain ⟨m, hm⟩ : ∃ m, (natL (orbE P E k)).length = m := ⟨_, rfl⟩
        rw [hm] at hov ⊢
        have HM := Lib.hid hm
        have HML : Hid ((orbE P E k).length = m) := Lib.hid (by rw [← hm, natL_len])
        have HNA4 := Lib.hid (HNA.out.kept hk4)
        have HOV := Lib.hid hov
        have HII := Lib.hid hints
        clear hov hk4 hints hm HNA
        go_wp2_with fail
        refine (areaW_any g P E (orbE P E k) ao m cl w4 HM.out (HW.out.stay HNA4.out.stay) HE.out HOK.out HII.out (fun x hx => by rw [HN2.out]; exact HLT.out k x hlt hx) (by have := HLL.out k hlt; have := HN.out; omega)).mono ?_
        rintro e w5 ⟨rfl, hk5⟩
        have HNA5 := Lib.hid (HNA4.out.kept hk5)
        have HVL := Lib.hid (OwnG.kept HOV.out hk5)
        obtain ⟨A, hA⟩ : ∃ A, areaW P E (orbE P E k) = A := ⟨_, rfl⟩
        rw [hA]
        have HA := Lib.hid hA
        clear hk5 hA HNA4 HOV HII hsk
        obtain ⟨wz, hwz⟩ : ∃ z, wr.heap.size = z := ⟨_, rfl⟩
        rw [hwz] at HVL hsbw hfw hbl
        clear hwz
        have hm8 : m ≤ 800 := by have := HLL.out k hlt; have := HML.out; have := HN.out; omega
        rcases Int.lt_trichotomy 0 A with hpos | hpos | hpos
        · have HT : Hid (decide (0 < A) = true) := Lib.hid (by simp; omega)
          have HST2 : Hid (numE P E (k + 1) = { face := markF (orbE P E k) ((S.many : Int) + 1) S.face, seen := markF (orbE P E k) true S.seen, many := S.many + 1, outside := S.outside, flat := S.flat }) := Lib.hid (by have h := numStep_pos (n := n2) (g := nxtF P E) (A := fun d => areaW P E (orbE P E d)) HSD.out (show 0 < areaW P E (orbE P E k) from by have := HA.out; omega); rw [show orbF n2 (nxtF P E) k = orbE P E k by rw [← HN2.out]; rfl] at h; exact HST.out.trans h)
          have w1 : IntKind.i64.wrap ((S.many : Int) + 1) = (S.many : Int) + 1 := IntWalk.i64_in _ (by omega)
          have w2 : IntKind.i64.wrap ((S.outside : Int) + 1) = (S.outside : Int) + 1 := IntWalk.i64_in _ (by omega)
          go_wp2
          go_loopw [60] (fun jv wj => ∃ j : Nat, j ≤ m ∧ jv = .int .i64 j ∧ NumAt w wj g f sb n2 (markF ((orbE P E k).take j) (((S.many : Int) + 1)) S.face) (markF ((orbE P E k).take j) true S.seen) ∧ OwnN wj wz (.slice ao m cl) (natL (orbE P E k))) (fun jv _ => m - (intOf jv).toNat)
          case atStart => exact ⟨0, Nat.zero_le _, rfl, HNA5.out, HVL.out⟩
          case round =>
            clear HNA5 HVL
            obtain ⟨j, hj, rfl, hna, hvl⟩ := hrel
            have HNA := Lib.hid hna
            have HVL := Lib.hid hvl
            clear hna hvl
            by_cases hjm : j < m
            · have HLJ : Hid (0 < (orbE P E k).length - j) := Lib.hid (by have := HML.out; omega)
              obtain ⟨B, off, rfl, hc⟩ := (OwnG.intsAt HVL.out).1 j (by rw [HM.out]; exact hjm)
              rw [natL_get (by have := HLJ.out; omega)] at hc
              have hx := HLT.out k _ hlt (List.getElem_mem (show j < (orbE P E k).length by have := HLJ.out; omega))
              have HM1 := Lib.hid (markF_cons (orbE P E k) (((S.many : Int) + 1)) S.face j (by have := HLJ.out; omega))
              have HM2 := Lib.hid (markF_cons (orbE P E k) true S.seen j (by have := HLJ.out; omega))
              have HL1 : Hid ((markF ((orbE P E k).take j) (((S.many : Int) + 1)) S.face).length = n2) := Lib.hid (by rw [markF_len]; exact HFL.out.1)
              have HL2 : Hid ((markF ((orbE P E k).take j) true S.seen).length = n2) := Lib.hid (by rw [markF_len]; exact HFL.out.2)
              generalize (orbE P E k)[j]'(by have := HLJ.out; omega) = x at hc hx HM1 HM2
              generalize markF ((orbE P E k).take j) (((S.many : Int) + 1)) S.face = F1 at HNA HM1 HL1
              generalize markF ((orbE P E k).take j) true S.seen = F2 at HNA HM2 HL2
              have b1 := atV HNA.out.seen (k := x) (by rw [boolL_len, HL2.out]; exact hx)
              have b2 := HNA.out.seen.warm x
              have b3 := atN HNA.out.face (k := x) (by rw [HL1.out]; exact hx)
              have b4 := HNA.out.face.warm x
              have b5 := HNA.out.cell
              have hnb : wz ≤ B := hbl _ rfl
              have HNA2 := Lib.hid (HNA.out.set (x := x) (by rw [HL1.out]; exact hx) (((S.many : Int) + 1)))
              have HVL2 : Hid (OwnN ((wr.setCell ⟨sb, x, none⟩ (.bool true)).setCell ⟨f, x, none⟩ (.int .i64 (((S.many : Int) + 1)))) wz (.slice (some ⟨B, off, none⟩) m cl) (natL (orbE P E k))) := Lib.hid (OwnG.setNe (OwnG.setNe HVL.out (by simp [Value.ownBlock]; omega) _) (by simp [Value.ownBlock]; omega) _)
              have n1 : ¬ f = sb := by omega
              have n2' : ¬ sb = f := by omega
              have n3 : ¬ g = sb := by omega
              have n4 : ¬ sb = g := by omega
              go_wp2
              refine ⟨⟨j + 1, by omega, by go_num, by rw [HM1.out, HM2.out]; exact HNA2.out, HVL2.out⟩, by simp [intOf]; omega⟩
            · have hjm : j = m := by omega
              have HTK : Hid ((orbE P E k).take j = orbE P E k) := Lib.hid (List.take_of_length_le (by have := HML.out; omega))
              have HNA2 : Hid (NumAt w wr g f sb n2 (markF (orbE P E k) (((S.many : Int) + 1)) S.face) (markF (orbE P E k) true S.seen)) := Lib.hid (by have := HNA.out; rw [HTK.out] at this; exact this)
              clear HNA
              go_wp2
              refine ⟨⟨k + 1, by omega, by go_num, by rw [HST2.out]; simp, by rw [HST2.out], by rw [HST2.out], by rw [HST2.out]; exact HNA2.out⟩, by simp [intOf]; omega⟩
        · subst hpos
          have HST2 : Hid (numE P E (k + 1) = { face := markF (orbE P E k) 0 S.face, seen := markF (orbE P E k) true S.seen, many := S.many, outside := S.outside, flat := true }) := Lib.hid (by have h := numStep_zero (n := n2) (g := nxtF P E) (A := fun d => areaW P E (orbE P E d)) HSD.out (show areaW P E (orbE P E k) = 0 from by have := HA.out; omega); rw [show orbF n2 (nxtF P E) k = orbE P E k by rw [← HN2.out]; rfl] at h; exact HST.out.trans h)
          have w1 : IntKind.i64.wrap ((S.many : Int) + 1) = (S.many : Int) + 1 := IntWalk.i64_in _ (by omega)
          have w2 : IntKind.i64.wrap ((S.outside : Int) + 1) = (S.outside : Int) + 1 := IntWalk.i64_in _ (by omega)
          go_wp2
          go_loopw [60] (fun jv wj => ∃ j : Nat, j ≤ m ∧ jv = .int .i64 j ∧ NumAt w wj g f sb n2 (markF ((orbE P E k).take j) (0) S.face) (markF ((orbE P E k).take j) true S.seen) ∧ OwnN wj wz (.slice ao m cl) (natL (orbE P E k))) (fun jv _ => m - (intOf jv).toNat)
          case atStart => exact ⟨0, Nat.zero_le _, rfl, HNA5.out, HVL.out⟩
          case round =>
            clear HNA5 HVL
            obtain ⟨j, hj, rfl, hna, hvl⟩ := hrel
            have HNA := Lib.hid hna
            have HVL := Lib.hid hvl
            clear hna hvl
            by_cases hjm : j < m
            · have HLJ : Hid (0 < (orbE P E k).length - j) := Lib.hid (by have := HML.out; omega)
              obtain ⟨B, off, rfl, hc⟩ := (OwnG.intsAt HVL.out).1 j (by rw [HM.out]; exact hjm)
              rw [natL_get (by have := HLJ.out; omega)] at hc
              have hx := HLT.out k _ hlt (List.getElem_mem (show j < (orbE P E k).length by have := HLJ.out; omega))
              have HM1 := Lib.hid (markF_cons (orbE P E k) (0) S.face j (by have := HLJ.out; omega))
              have HM2 := Lib.hid (markF_cons (orbE P E k) true S.seen j (by have := HLJ.out; omega))
              have HL1 : Hid ((markF ((orbE P E k).take j) (0) S.face).length = n2) := Lib.hid (by rw [markF_len]; exact HFL.out.1)
              have HL2 : Hid ((markF ((orbE P E k).take j) true S.seen).length = n2) := Lib.hid (by rw [markF_len]; exact HFL.out.2)
              generalize (orbE P E k)[j]'(by have := HLJ.out; omega) = x at hc hx HM1 HM2
              generalize markF ((orbE P E k).take j) (0) S.face = F1 at HNA HM1 HL1
              generalize markF ((orbE P E k).take j) true S.seen = F2 at HNA HM2 HL2
              have b1 := atV HNA.out.seen (k := x) (by rw [boolL_len, HL2.out]; exact hx)
              have b2 := HNA.out.seen.warm x
              have b3 := atN HNA.out.face (k := x) (by rw [HL1.out]; exact hx)
              have b4 := HNA.out.face.warm x
              have b5 := HNA.out.cell
              have hnb : wz ≤ B := hbl _ rfl
              have HNA2 := Lib.hid (HNA.out.set (x := x) (by rw [HL1.out]; exact hx) (0))
              have HVL2 : Hid (OwnN ((wr.setCell ⟨sb, x, none⟩ (.bool true)).setCell ⟨f, x, none⟩ (.int .i64 (0))) wz (.slice (some ⟨B, off, none⟩) m cl) (natL (orbE P E k))) := Lib.hid (OwnG.setNe (OwnG.setNe HVL.out (by simp [Value.ownBlock]; omega) _) (by simp [Value.ownBlock]; omega) _)
              have n1 : ¬ f = sb := by omega
              have n2' : ¬ sb = f := by omega
              have n3 : ¬ g = sb := by omega
              have n4 : ¬ sb = g := by omega
              go_wp2
              refine ⟨⟨j + 1, by omega, by go_num, by rw [HM1.out, HM2.out]; exact HNA2.out, HVL2.out⟩, by simp [intOf]; omega⟩
            · have hjm : j = m := by omega
              have HTK : Hid ((orbE P E k).take j = orbE P E k) := Lib.hid (List.take_of_length_le (by have := HML.out; omega))
              have HNA2 : Hid (NumAt w wr g f sb n2 (markF (orbE P E k) (0) S.face) (markF (orbE P E k) true S.seen)) := Lib.hid (by have := HNA.out; rw [HTK.out] at this; exact this)
              clear HNA
              go_wp2
              refine ⟨⟨k + 1, by omega, by go_num, by rw [HST2.out], by rw [HST2.out], by rw [HST2.out], by rw [HST2.out]; exact HNA2.out⟩, by simp [intOf]; omega⟩
        · have HT : Hid (decide (0 < A) = false) := Lib.hid (by simp; omega)
          have HST2 : Hid (numE P E (k + 1) = { face := markF (orbE P E k) 0 S.face, seen := markF (orbE P E k) true S.seen, many := S.many, outside := S.outside + 1, flat := S.flat }) := Lib.hid (by have h := numStep_neg (n := n2) (g := nxtF P E) (A := fun d => areaW P E (orbE P E d)) HSD.out (show areaW P E (orbE P E k) < 0 from by have := HA.out; omega); rw [show orbF n2 (nxtF P E) k = orbE P E k by rw [← HN2.out]; rfl] at h; exact HST.out.trans h)
          have w1 : IntKind.i64.wrap ((S.many : Int) + 1) = (S.many : Int) + 1 := IntWalk.i64_in _ (by omega)
          have w2 : IntKind.i64.wrap ((S.outside : Int) + 1) = (S.outside : Int) + 1 := IntWalk.i64_in _ (by omega)
          go_wp2
          go_loopw [60] (fun jv wj => ∃ j : Nat, j ≤ m ∧ jv = .int .i64 j ∧ NumAt w wj g f sb n2 (markF ((orbE P E k).take j) (0) S.face) (markF ((orbE P E k).take j) true S.seen) ∧ OwnN wj wz (.slice ao m cl) (natL (orbE P E k))) (fun jv _ => m - (intOf jv).toNat)
          case atStart => exact ⟨0, Nat.zero_le _, rfl, HNA5.out, HVL.out⟩
          case round =>
            clear HNA5 HVL
            obtain ⟨j, hj, rfl, hna, hvl⟩ := hrel
            have HNA := Lib.hid hna
            have HVL := Lib.hid hvl
            clear hna hvl
            by_cases hjm : j < m
            · have HLJ : Hid (0 < (orbE P E k).length - j) := Lib.hid (by have := HML.out; omega)
              obtain ⟨B, off, rfl, hc⟩ := (OwnG.intsAt HVL.out).1 j (by rw [HM.out]; exact hjm)
              rw [natL_get (by have := HLJ.out; omega)] at hc
              have hx := HLT.out k _ hlt (List.getElem_mem (show j < (orbE P E k).length by have := HLJ.out; omega))
              have HM1 := Lib.hid (markF_cons (orbE P E k) (0) S.face j (by have := HLJ.out; omega))
              have HM2 := Lib.hid (markF_cons (orbE P E k) true S.seen j (by have := HLJ.out; omega))
              have HL1 : Hid ((markF ((orbE P E k).take j) (0) S.face).length = n2) := Lib.hid (by rw [markF_len]; exact HFL.out.1)
              have HL2 : Hid ((markF ((orbE P E k).take j) true S.seen).length = n2) := Lib.hid (by rw [markF_len]; exact HFL.out.2)
              generalize (orbE P E k)[j]'(by have := HLJ.out; omega) = x at hc hx HM1 HM2
              generalize markF ((orbE P E k).take j) (0) S.face = F1 at HNA HM1 HL1
              generalize markF ((orbE P E k).take j) true S.seen = F2 at HNA HM2 HL2
              have b1 := atV HNA.out.seen (k := x) (by rw [boolL_len, HL2.out]; exact hx)
              have b2 := HNA.out.seen.warm x
              have b3 := atN HNA.out.face (k := x) (by rw [HL1.out]; exact hx)
              have b4 := HNA.out.face.warm x
              have b5 := HNA.out.cell
              have hnb : wz ≤ B := hbl _ rfl
              have HNA2 := Lib.hid (HNA.out.set (x := x) (by rw [HL1.out]; exact hx) (0))
              have HVL2 : Hid (OwnN ((wr.setCell ⟨sb, x, none⟩ (.bool true)).setCell ⟨f, x, none⟩ (.int .i64 (0))) wz (.slice (some ⟨B, off, none⟩) m cl) (natL (orbE P E k))) := Lib.hid (OwnG.setNe (OwnG.setNe HVL.out (by simp [Value.ownBlock]; omega) _) (by simp [Value.ownBlock]; omega) _)
              have n1 : ¬ f = sb := by omega
              have n2' : ¬ sb = f := by omega
              have n3 : ¬ g = sb := by omega
              have n4 : ¬ sb = g := by omega
              go_wp2
              refine ⟨⟨j + 1, by omega, by go_num, by rw [HM1.out, HM2.out]; exact HNA2.out, HVL2.out⟩, by simp [intOf]; omega⟩
            · have hjm : j = m := by omega
              have HTK : Hid ((orbE P E k).take j = orbE P E k) := Lib.hid (List.take_of_length_le (by have := HML.out; omega))
              have HNA2 : Hid (NumAt w wr g f sb n2 (markF (orbE P E k) (0) S.face) (markF (orbE P E k) true S.seen)) := Lib.hid (by have := HNA.out; rw [HTK.out] at this; exact this)
              clear HNA
              go_wp2
              refine ⟨⟨k + 1, by omega, by go_num, by rw [HST2.out], by rw [HST2.out]; simp, by rw [HST2.out], by rw [HST2.out]; exact HNA2.out⟩, by simp [intOf]; omega⟩
      · have HS2 : Hid (numE P E (k + 1) = S) := Lib.hid (by rw [HST.out]; unfold numStep; rw [if_pos HSD.out])
        go_wp2
        go_roundw
        case rel => exact ⟨k + 1, by omega, by go_num, by rw [HS2.out], by rw [HS2.out], by rw [HS2.out], by rw [HS2.out]; exact HNA.out⟩
        case measure => simp [intOf]; omega
    · have hkn : k = n2 := by omega
      subst hkn
      obtain ⟨S, hS⟩ : ∃ S, numE P E k = S := ⟨_, rfl⟩
      have HS := Lib.hid hS
      rw [hS] at hle HNA HFL ⊢
      clear hS
      obtain ⟨b1, hb1⟩ : ∃ b1 : Bool, decide (S.outside = 1) = b1 := ⟨_, rfl⟩
      have hb2 : ((S.outside : Int) == 1) = b1 := by rw [← hb1, Bool.eq_iff_iff]; simp; omega
      have HB1 := Lib.hid hb1
      clear hb1
      cases b1
      · go_wp2
        refine bodyPost_ret (results_tmp2 rfl _ _ _) rfl ?_
        rw [HS.out]
        refine ⟨f, sb, ?_, HNA.out⟩
        rw [HB1.out]
        simp
      · go_wp2
        refine bodyPost_ret (results_tmp2 rfl _ _ _) rfl ?_
        rw [HS.out]
        refine ⟨f, sb, ?_, HNA.out⟩
        rw [HB1.out]
        simp
end Go.Proofs.YtlglfcdobbocnaaGreat
