/- Which points are reached. -/
import Derived.Test.YtlglfcdobbocnaaGreatXe
set_option maxRecDepth 100000
namespace Go.Proofs.YtlglfcdobbocnaaGreat
open Go Go.Proofs Go.RowKit
attribute [local go_sem] Oper.semAt_some
def sAt (S : List Bool) (i : Nat) : Bool := S.getD i false
/-- How many are not seen. -/
noncomputable def fcnt (S : List Bool) : Int := sm S.length (fun i => ind (¬ sAt S i = true))
theorem sAt_set {S : List Bool} {p : Nat} (hp : p < S.length) (i : Nat) : sAt (S.set p true) i = if i = p then true else sAt S i := by
  unfold sAt
  by_cases e : i = p
  · subst e
    rw [if_pos rfl, List.getD_eq_getElem?_getD, List.getElem?_set_self hp]
    rfl
  · rw [if_neg e, List.getD_eq_getElem?_getD, List.getElem?_set_ne (Ne.symm e), List.getD_eq_getElem?_getD]
theorem fcnt_nonneg (S : List Bool) : 0 ≤ fcnt S := by
  have : sm S.length (fun i => -ind (¬ sAt S i = true)) ≤ 0 := sm_le fun i _ => by rcases ind_cases (¬ sAt S i = true) with ⟨_, e⟩ | ⟨_, e⟩ <;> rw [e] <;> omega
  unfold fcnt
  have e : sm S.length (fun i => -ind (¬ sAt S i = true)) = - sm S.length (fun i => ind (¬ sAt S i = true)) := by
    have := sm_sub S.length (fun _ => 0) (fun i => ind (¬ sAt S i = true))
    rw [sm_zero] at this
    rw [← Int.zero_sub (sm _ _), ← this]
    exact sm_congr fun i _ => by omega
  omega
theorem fcnt_set {S : List Bool} {p : Nat} (hp : p < S.length) (h : sAt S p = false) : fcnt (S.set p true) = fcnt S - 1 := by
  unfold fcnt
  rw [List.length_set]
  have : sm S.length (fun i => (fun _ : Nat => (1 : Int)) i * ind (p = i)) = 1 := sm_pick S.length p hp (fun _ => 1)
  rw [← this, ← sm_sub]
  refine sm_congr fun i _ => ?_
  rw [sAt_set hp]
  by_cases e : i = p
  · subst e
    rw [if_pos rfl, ind_true rfl, ind_false (by simp), ind_true (by rw [h]; simp)]
    rfl
  · rw [if_neg e, ind_false (p := p = i) (fun k => e k.symm)]
    omega
theorem fcnt_le {S T : List Bool} (hl : S.length = T.length) (h : ∀ i, sAt S i = true → sAt T i = true) : fcnt T ≤ fcnt S := by
  have : sm S.length (fun i => ind (¬ sAt T i = true) - ind (¬ sAt S i = true)) ≤ 0 := sm_le fun i _ => by
    rcases ind_cases (¬ sAt T i = true) with ⟨a, e⟩ | ⟨a, e⟩ <;> rcases ind_cases (¬ sAt S i = true) with ⟨b, f⟩ | ⟨b, f⟩ <;> rw [e, f]
    · omega
    · exact absurd (h i (Classical.byContradiction b)) a
    · omega
    · omega
  rw [sm_sub] at this
  unfold fcnt
  rw [← hl]
  omega
/-- What a visit has done. -/
structure Done (E : List (Nat × Nat)) (S T : List Bool) : Prop where
  len : T.length = S.length
  sub : ∀ i, sAt S i = true → sAt T i = true
  sound : ∀ i, sAt T i = true → sAt S i = true ∨ Reach E i
  closed : ∀ d, d < 2 * E.length → sAt T (dTail E d) = true → sAt S (dTail E d) = true ∨ sAt T (dHead E d) = true
theorem Done.refl (E : List (Nat × Nat)) (S : List Bool) : Done E S S := ⟨rfl, fun _ h => h, fun _ h => .inl h, fun _ _ h => .inl h⟩
theorem Done.trans {E : List (Nat × Nat)} {S T U : List Bool} (h : Done E S T) (k : Done E T U) : Done E S U := by
  refine ⟨k.len.trans h.len, fun i hi => k.sub i (h.sub i hi), fun i hi => ?_, fun d hd ht => ?_⟩
  · rcases k.sound i hi with c | c
    · exact h.sound i c
    · exact .inr c
  · rcases k.closed d hd ht with c | c
    · rcases h.closed d hd c with c | c
      · exact .inl c
      · exact .inr (k.sub _ c)
    · exact .inr c
abbrev visV (cs cw cv : Nat) : Value := .func (.func 84) #[] #[.pointer (some ⟨cs, 0, none⟩), .pointer (some ⟨cw, 0, none⟩), .pointer (some ⟨cv, 0, none⟩)]
theorem Done.finish {P : List Pt} {E : List (Nat × Nat)} {S T : List Bool} {p : Nat} (hp : p < S.length) (hr : Reach E p) (h : Done E (S.set p true) T) (ho : ∀ d ∈ outF P E p, sAt T (dHead E d) = true) : Done E S T ∧ sAt T p = true := by
  have hset := sAt_set (S := S) hp
  have hp1 : sAt T p = true := h.sub p (by rw [hset, if_pos rfl])
  refine ⟨⟨by rw [h.len, List.length_set], fun i hi => h.sub i (by rw [hset]; split; rfl; exact hi), fun i hi => ?_, fun d hd ht => ?_⟩, hp1⟩
  · rcases h.sound i hi with c | c
    · rw [hset] at c
      by_cases e : i = p
      · subst e; exact .inr hr
      · rw [if_neg e] at c; exact .inl c
    · exact .inr c
  · by_cases e : dTail E d = p
    · exact .inr (ho d (out_mem.2 ⟨hd, e⟩))
    · rcases h.closed d hd ht with c | c
      · rw [hset, if_neg e] at c; exact .inl c
      · exact .inr c
/-- Where the search is. -/
structure Vis (w0 X : World) (g cs cw cv sb n : Nat) (S : List Bool) : Prop where
  kept : Kept w0 X
  c1 : X.cell? ⟨cs, 0, none⟩ = some (.slice (some ⟨sb, 0, none⟩) n n)
  c2 : X.cell? ⟨cw, 0, none⟩ = some (.pointer (some ⟨g, 0, none⟩))
  c3 : X.cell? ⟨cv, 0, none⟩ = some (visV cs cw cv)
  own : OwnV X w0.heap.size 4 (.slice (some ⟨sb, 0, none⟩) n n) (boolL S)
  n1 : cs ≠ sb
  n2 : cw ≠ sb
  n3 : cv ≠ sb
  s0 : w0.heap.size ≤ sb
  len : S.length = n
theorem Vis.set {w0 X : World} {g cs cw cv sb n : Nat} {S : List Bool} (h : Vis w0 X g cs cw cv sb n S) (p : Nat) : Vis w0 (X.setCell ⟨sb, p, none⟩ (.bool true)) g cs cw cv sb n (S.set p true) :=
  ⟨h.kept.setCell (p := ⟨sb, p, none⟩) h.s0 _, cell_set_block h.c1 h.n1, cell_set_block h.c2 h.n2, cell_set_block h.c3 h.n3, by rw [boolL_set]; exact OwnG.setV h.own p _, h.n1, h.n2, h.n3, h.s0, by rw [List.length_set]; exact h.len⟩
theorem Vis.to {w0 X Y : World} {g cs cw cv sb n : Nat} {S : List Bool} (h : Vis w0 X g cs cw cv sb n S) (hk : Kept X Y) : Vis w0 Y g cs cw cv sb n S :=
  ⟨h.kept.trans hk, hk.cell h.c1, hk.cell h.c2, hk.cell h.c3, OwnG.kept h.own hk, h.n1, h.n2, h.n3, h.s0, h.len⟩
def dHead_ok (_P : List Pt) (E : List (Nat × Nat)) (n : Nat) : Prop := ∀ d, d < 2 * E.length → dHead E d < n
def VisPost (w0 : World) (g cs cw cv sb n : Nat) (E : List (Nat × Nat)) (S : List Bool) (p : Nat) (e : Ending) (w' : World) : Prop :=
  ∃ T, e = .returned (.tuple #[]) ∧ Vis w0 w' g cs cw cv sb n T ∧ Done E S T ∧ sAt T p = true
set_option maxHeartbeats 2000000 in
theorem visit_any (w0 : World) (g cs cw cv sb : Nat) (P : List Pt) (E : List (Nat × Nat)) (hW : WebC w0 g P E) (he : Ends P E) : ∀ (fuel : Nat) (S : List Bool) (p : Nat) (X : World), fcnt S ≤ fuel → Vis w0 X g cs cw cv sb P.length S → p < P.length → Reach E p → sAt S p = false →
    Calls Tryz.prog 84 #[.int .i64 p, .pointer (some ⟨cs, 0, none⟩), .pointer (some ⟨cw, 0, none⟩), .pointer (some ⟨cv, 0, none⟩)] X (VisPost w0 g cs cw cv sb P.length E S p) := by
  intro fuel
  induction fuel with
  | zero =>
    intro S p X hf hv hp _ hs
    exfalso
    have h1 := fcnt_set (S := S) (p := p) (by rw [hv.len]; exact hp) hs
    have h2 := fcnt_nonneg (S.set p true)
    omega
  | succ fuel ih =>
    intro S p X hf hv hp hr hs
    have IH := Lib.hid ih
    have HW := Lib.hid hW
    have HE := Lib.hid he
    have HR := Lib.hid hr
    have HF : Hid (fcnt (S.set p true) ≤ fuel) := Lib.hid (by rw [fcnt_set (by rw [hv.len]; exact hp) hs]; omega)
    have HV := Lib.hid hv
    have HV1 := Lib.hid (hv.set p)
    have HS := Lib.hid hs
    obtain ⟨b, off, c, a', c', o0, o1, oi⟩ := hW.outs hp
    have o0 := hv.kept.cell o0
    have o1 := hv.kept.cell o1
    have hb1 := lt_of_cell o0
    have hb2 := lt_of_cell o1
    have v1 := hv.c1
    have v2 := hv.c2
    have v3 := hv.c3
    have v4 := atV hv.own (k := p) (by rw [boolL_len, hv.len]; exact hp)
    rw [boolL_get _ (by rw [hv.len]; exact hp)] at v4
    generalize S[p]'(by rw [hv.len]; exact hp) = sp at v4
    have v5 := hv.own.warm p
    have n1 := hv.n1
    have n2 := hv.n2
    have n4 : ¬ g = sb := by have := hv.s0; have := lt_of_cell (hW.outs hp).choose_spec.choose_spec.choose_spec.choose_spec.choose_spec.1; omega
    have n5 : ¬ b = sb := by
      obtain ⟨b2, off2, c2, a2, c2', q0, q1, -⟩ := hW.outs hp
      have e := hv.kept.cell q0
      rw [o0] at e
      simp only [Option.some.injEq, Value.slice.injEq, Addr.mk.injEq] at e
      have := lt_of_cell q1
      have := hv.s0
      omega
    obtain ⟨M, hM⟩ : ∃ M, natL (outF P E p) = M := ⟨_, rfl⟩
    rw [hM] at o1 oi
    have HM := Lib.hid hM
    have HI0 := Lib.hid oi
    generalize hNN : P.length = nn at *
    clear ih hW he hr hv hs hM oi
    go_enter Tryz.func84, Tryz.ntmps84
    go_wp2
    have HN3 : Hid (dHead_ok P E nn) := Lib.hid (fun d hd => by rw [← hNN]; exact (HE.out.tail d hd).2)
    have HSL : Hid (S.length = nn) := Lib.hid HV.out.len
    obtain ⟨O, hO⟩ : ∃ O, outF P E p = O := ⟨_, rfl⟩
    have HO := Lib.hid hO
    have HMO : Hid (M = natL O) := Lib.hid (by rw [← hO, HM.out])
    have HON : Hid (∀ x ∈ O, x < 2 * E.length) := Lib.hid (by rw [← hO]; exact fun x hx => (out_mem.1 hx).1)
    have HOT : Hid (∀ x ∈ O, dTail E x = p) := Lib.hid (by rw [← hO]; exact fun x hx => (out_mem.1 hx).2)
    have HML : Hid (M.length ≤ 800) := Lib.hid (by
      have := len_of_sub (l := outF P E p) (m := List.range (2 * E.length)) (out_nodup _) fun x hx => List.mem_range.2 (out_mem.1 hx).1
      rw [← HM.out, natL_len]
      simp at this
      have := HE.out.few
      omega)
    clear v1 v2 v3 v4 v5 o0 o1 hO
    go_loopw [18] (fun iv wr => ∃ j : Nat, j ≤ M.length ∧ iv = .int .i64 j ∧ ∃ T, Vis w0 wr g cs cw cv sb nn T ∧ Done E (S.set p true) T ∧ ∀ i (h : i < O.length), i < j → sAt T (dHead E O[i]) = true) (fun iv _ => M.length - (intOf iv).toNat)
    case atStart => exact ⟨0, Nat.zero_le _, rfl, S.set p true, HV1.out, .refl _ _, fun i _ h => by omega⟩
    case round =>
      clear HV1
      obtain ⟨j, hj, rfl, T, hv, hd, hh⟩ := hrel
      have HV := Lib.hid hv
      have HD := Lib.hid hd
      have HH := Lib.hid hh
      clear hv hd hh
      by_cases hlt : j < M.length
      · have hm8 := HML.out
        have HJL : Hid (0 < O.length - j) := Lib.hid (by rw [HMO.out, natL_len] at hlt; omega)
        obtain ⟨B, ofs, rfl, hc⟩ := (HI0.out.kept HV.out.kept) j hlt
        have hMj : M[j] = ((O[j]'(by have := HJL.out; omega) : Nat) : Int) := by
          have := natL_get (l := O) (i := j) (by have := HJL.out; omega) (by rw [← HMO.out]; exact hlt)
          rw [← this]
          congr 1
        rw [hMj] at hc
        have hdl := HON.out _ (List.getElem_mem (show j < O.length by have := HJL.out; omega))
        have hdt := HOT.out _ (List.getElem_mem (show j < O.length by have := HJL.out; omega))
        have HNXT : Hid (∀ U, Done E T U → sAt U (dHead E (O[j]'(by have := HJL.out; omega))) = true → ∀ i (h : i < O.length), i < j + 1 → sAt U (dHead E O[i]) = true) := Lib.hid fun U hU hu i hi hij => by
          by_cases e : i = j
          · subst e; exact hu
          · exact hU.sub _ (HH.out i hi (by omega))
        generalize O[j]'(by have := HJL.out; omega) = d at hc hdl hdt HNXT
        clear hMj
        obtain ⟨b3, off3, c3, d0, -, -, -, d4⟩ := (HW.out.kept HV.out.kept).dart hdl
        have hq := HN3.out d hdl
        have HRQ : Hid (Reach E (dHead E d)) := Lib.hid (.step (by rw [hdt]; exact HR.out) hdl)
        generalize dHead E d = q at d4 hq HNXT HRQ
        generalize 2 * E.length = N at d0 hdl
        have s1 := HV.out.c1
        have s2 := HV.out.c2
        have s3 := HV.out.c3
        have s4 := atV HV.out.own (k := q) (by rw [boolL_len, HV.out.len]; exact hq)
        rw [boolL_get _ (by rw [HV.out.len]; exact hq)] at s4
        have HTQ : Hid (sAt T q = T[q]'(by rw [HV.out.len]; exact hq)) := Lib.hid (by unfold sAt; rw [List.getD_eq_getElem?_getD, List.getElem?_eq_getElem (by rw [HV.out.len]; exact hq)]; rfl)
        generalize T[q]'(by rw [HV.out.len]; exact hq) = tq at s4 HTQ
        have hl1 := lt_of_cell d4
        have hl2 := lt_of_cell s4
        have hl3 := lt_of_cell s1
        have hl4 := lt_of_cell s2
        have hl5 := lt_of_cell s3
        have hl6 := lt_of_cell d0
        go_wp2
        refine region_tail 11 (by kernel_rfl) (by kernel_rfl) ?_
        simp only [List.take_succ_cons, List.take_zero, List.drop_succ_cons, List.drop_zero]
        repeat still_step
        refine wpStill_nil ?_
        cases tq
        · go_wp2
          refine region_tail 9 (by kernel_rfl) (by kernel_rfl) ?_
          simp only [List.take_succ_cons, List.take_zero, List.drop_succ_cons, List.drop_zero]
          repeat still_step
          refine wpStill_nil ?_
          go_wp2_with fail
          refine (IH.out T q _ ?_ (HV.out.to ((Kept.refl wr).drew.trans (Kept.refl _).drew)) hq HRQ.out HTQ.out).mono ?_
          · exact Int.le_trans (fcnt_le HD.out.len.symm HD.out.sub) HF.out
          rintro e w5 ⟨U, rfl, hv, hd, hu⟩
          have HV5 := Lib.hid hv
          have HD5 := Lib.hid (HD.out.trans hd)
          have HH5 := Lib.hid (HNXT.out U hd hu)
          clear hv hd hu s1 s2 s3 s4 d0 d4 hc
          go_wp2
          go_roundw
          case rel => exact ⟨j + 1, by omega, by go_num, U, HV5.out, HD5.out, HH5.out⟩
          case measure => simp [intOf]; omega
        · have HV2 := Lib.hid (HV.out.to (Kept.refl wr).drew)
          go_wp2
          go_roundw
          case rel => exact ⟨j + 1, by omega, by go_num, T, HV2.out, HD.out, HNXT.out T (.refl _ _) HTQ.out⟩
          case measure => simp [intOf]; omega
      · have hjm : j = M.length := by omega
        have HFIN := Lib.hid (Done.finish (P := P) (by rw [HSL.out]; exact hp) HR.out HD.out fun x hx => by
          rw [HO.out] at hx
          obtain ⟨i, hi, rfl⟩ := List.mem_iff_getElem.1 hx
          exact HH.out i hi (by rw [hjm, HMO.out, natL_len]; exact hi))
        subst hjm
        go_wp2
        exact bodyPost_ret (results_none rfl _ _ _) rfl ⟨T, rfl, HV.out, HFIN.out.1, HFIN.out.2⟩
/-- The answer of connected. -/
def AllReached (P : List Pt) (E : List (Nat × Nat)) : Prop := ∀ p, p < P.length → Reach E p
def ConnPost (P : List Pt) (E : List (Nat × Nat)) (w : World) (e : Ending) (w' : World) : Prop := ∃ b : Bool, e = .returned (.bool b) ∧ (b = true ↔ AllReached P E) ∧ Kept w w'
theorem reach_lt {P : List Pt} {E : List (Nat × Nat)} (he : Ends P E) (h0 : 0 < P.length) : ∀ p, Reach E p → p < P.length := by
  intro p hp
  induction hp with
  | zero => exact h0
  | step _ hd _ => exact (he.tail _ hd).2
theorem sAt_rep (n i : Nat) : sAt (List.replicate n false) i = false := by
  unfold sAt
  rw [List.getD_eq_getElem?_getD, List.getElem?_replicate]
  split <;> rfl
theorem Done.all {P : List Pt} {E : List (Nat × Nat)} {T : List Bool} (h : Done E (List.replicate P.length false) T) (h0 : sAt T 0 = true) : (!decide (false ∈ T)) = true ↔ AllReached P E := by
  have hr : ∀ p, Reach E p → sAt T p = true := by
    intro p hp
    induction hp with
    | zero => exact h0
    | step _ hd ih =>
      rcases h.closed _ hd ih with c | c
      · rw [sAt_rep] at c; cases c
      · exact c
  have hlen : T.length = P.length := by rw [h.len, List.length_replicate]
  have key : (!decide (false ∈ T)) = true ↔ ∀ p, p < T.length → sAt T p = true := by
    rw [Bool.not_eq_true', decide_eq_false_iff_not]
    constructor
    · intro hn p hp
      unfold sAt
      rw [List.getD_eq_getElem?_getD, List.getElem?_eq_getElem hp, Option.getD_some]
      cases c : T[p] with
      | true => rfl
      | false => exact absurd (c ▸ List.getElem_mem hp) hn
    · intro ha hm
      obtain ⟨p, hp, e⟩ := List.mem_iff_getElem.1 hm
      have := ha p hp
      unfold sAt at this
      rw [List.getD_eq_getElem?_getD, List.getElem?_eq_getElem hp, Option.getD_some, e] at this
      cases this
  rw [key]
  constructor
  · intro ha p hp
    rcases h.sound p (ha p (by rw [hlen]; exact hp)) with c | c
    · rw [sAt_rep] at c; cases c
    · exact c
  · intro ha p hp
    exact hr p (ha p (by rw [← hlen]; exact hp))
set_option maxHeartbeats 2000000 in
theorem connected_any (g : Nat) (P : List Pt) (E : List (Nat × Nat)) (w : World) (hW : WebC w g P E) (he : Ends P E) (hn : P.length ≤ 1000) : Calls Tryz.prog 59 #[.pointer (some ⟨g, 0, none⟩)] w (ConnPost P E w) := by
  have HW := Lib.hid hW
  have HE := Lib.hid he
  obtain ⟨a, c, a0, -⟩ := hW.out
  obtain ⟨w0, hw0⟩ : ∃ w0, w.alloc (.cells #[.pointer (some ⟨g, 0, none⟩)] 59) = w0 := ⟨_, rfl⟩
  obtain ⟨cw, hcw⟩ : ∃ cw, w.heap.size = cw := ⟨_, rfl⟩
  have HK0 : Hid (Kept w w0) := Lib.hid (by rw [← hw0]; exact (Kept.refl w).alloc _)
  have c0 : w0.cell? ⟨cw, 0, none⟩ = some (.pointer (some ⟨g, 0, none⟩)) := by rw [← hw0, ← hcw]; simp [go_sem]
  have hz0 : w0.heap.size = cw + 1 := by rw [← hw0, ← hcw]; simp
  have a1 := HK0.out.cell a0
  have hg := lt_of_cell a1
  generalize hNN : P.length = nn at *
  have HNN := Lib.hid hNN
  clear hW he a0 hNN
  have HN1 : Hid (nn < 1099511627776) := Lib.hid (by omega)
  have hsf := fun (a : Addr) (c : Array Value) (w : World) => run_store Tryz.prog w a (.func (.func 84) #[] c) .plain rfl
  have HBR : boolL (List.replicate nn false) = List.replicate nn (Value.bool false) := by unfold boolL; rw [List.map_replicate]
  have HBR := Lib.hid HBR
  by_cases h0 : 0 < nn
  · have h0' : decide ((0 : Int) < nn) = true := by simp; omega
    go_enter Tryz.func59, Tryz.ntmps59
    go_wp2_with (first | (at_make; refine make_val w0 rfl _ _ 114 4 _ 1 rfl Tryz.underlying114 info4 rfl (by decide) nn rfl rfl HN1.out ?_; intro w1 ho1 hk1 hs1; have HO1 := Lib.hid ho1; have HK1 := Lib.hid hk1; have HS1 := Lib.hid hs1; have c1 := hk1.cell c0; clear ho1 hk1 hs1) | fail)
    clear hw0
    have HVIS : Hid (Vis w0 ((w1.alloc (.cells #[.slice (some ⟨cw + 1, 0, none⟩) nn nn] 114)).alloc (.cells #[visV w1.heap.size cw (w1.heap.size + 1)] 115)) g w1.heap.size cw (w1.heap.size + 1) (cw + 1) nn (List.replicate nn false)) := Lib.hid (by
      have hs1 := HS1.out
      have hk2 : Kept w1 ((w1.alloc (.cells #[.slice (some ⟨cw + 1, 0, none⟩) nn nn] 114)).alloc (.cells #[visV w1.heap.size cw (w1.heap.size + 1)] 115)) := ((Kept.refl w1).alloc _).alloc _
      refine ⟨HK1.out.trans hk2, by simp [go_sem], hk2.cell c1, by simp [go_sem], ?_, by omega, by omega, by omega, by omega, by simp⟩
      rw [HBR.out]
      have := HO1.out
      rw [hz0] at this ⊢
      exact OwnG.kept this hk2)
    have hs1 := HS1.out
    refine (visit_any w0 g w1.heap.size cw (w1.heap.size + 1) (cw + 1) P E (HW.out.kept HK0.out) HE.out (fcnt (List.replicate nn false)).toNat (List.replicate nn false) 0 _ (by have := fcnt_nonneg (List.replicate nn false); omega) (by rw [HNN.out]; exact HVIS.out) (by rw [HNN.out]; exact h0) .zero (sAt_rep nn 0)).mono ?_
    rintro e w5 ⟨T, rfl, hv, hd, ht⟩
    have HV := Lib.hid hv
    have HALL : Hid ((!decide (false ∈ T)) = true ↔ AllReached P E) := Lib.hid (Done.all (by rw [HNN.out]; exact hd) ht)
    have v1 := hv.c1
    rw [HNN.out] at v1
    have HTL : Hid (T.length = nn) := Lib.hid (by rw [hv.len, HNN.out])
    have HB : Hid (Bools w5 (some ⟨cw + 1, 0, none⟩) T) := Lib.hid (by
      obtain ⟨ao, cc, e, hb⟩ := hv.own.bools
      simp only [Value.slice.injEq] at e
      obtain ⟨rfl, -, -⟩ := e
      exact hb)
    clear hv hd ht
    go_wp2_with fail
    have hC := containsB_any T (some ⟨cw + 1, 0, none⟩) nn false w5 (by rw [HTL.out]; omega) HB.out
    rw [HTL.out] at hC
    refine hC.mono ?_
    rintro e w6 ⟨rfl, rfl⟩
    have HKW : Hid (Kept w w5) := Lib.hid (HK0.out.trans HV.out.kept)
    obtain ⟨b, hb⟩ : ∃ b, decide (false ∈ T) = b := ⟨_, rfl⟩
    rw [hb] at HALL ⊢
    clear hC hb v1
    go_wp2
    go_ret
    exact ⟨!b, rfl, HALL.out, HKW.out⟩
  · have h0' : nn = 0 := by omega
    subst h0'
    go_enter Tryz.func59, Tryz.ntmps59
    go_wp2_with (first | (at_make; refine make_val w0 rfl _ _ 114 4 _ 1 rfl Tryz.underlying114 info4 rfl (by decide) 0 rfl rfl HN1.out ?_; intro w1 ho1 hk1 hs1; have HO1 := Lib.hid ho1; have HK1 := Lib.hid hk1; have HS1 := Lib.hid hs1; have c1 := hk1.cell c0; clear ho1 hk1 hs1) | fail)
    have hK2 : Kept w1 ((w1.alloc (.cells #[.slice (some ⟨cw + 1, 0, none⟩) 0 0] 114)).alloc (.cells #[visV w1.heap.size cw (w1.heap.size + 1)] 115)) := ((Kept.refl w1).alloc _).alloc _
    have HKW : Hid (Kept w ((w1.alloc (.cells #[.slice (some ⟨cw + 1, 0, none⟩) 0 0] 114)).alloc (.cells #[visV w1.heap.size cw (w1.heap.size + 1)] 115))) := Lib.hid ((HK0.out.trans HK1.out).trans hK2)
    refine (containsB_any [] (some ⟨cw + 1, 0, none⟩) 0 false _ (by simp) (fun i h => by simp at h)).mono ?_
    rintro e w6 ⟨rfl, rfl⟩
    clear hw0
    go_wp2
    go_ret
    exact ⟨true, rfl, ⟨fun _ p hp => by rw [HNN.out] at hp; omega, fun _ => rfl⟩, HKW.out⟩
end Go.Proofs.YtlglfcdobbocnaaGreat
