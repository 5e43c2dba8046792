/- counter, counted, Count. -/
import Derived.Test.YteljjkghjbofnaaWo
set_option maxRecDepth 100000
namespace Go.Proofs.Yteljjkghjbofnaa
open Go Go.Proofs Go.RowKit
open Go.Maps (Keyed)

theorem wpList_insert_own {H : Type} {P : Program} (w : World) {ops : Array Oper} {rest : List Oper} {o : Oper} {a : Act} {Q : Exit → Act → World → Prop}
    (hg : o.guard = none) (m x v : Operand) (t : TypeId) (hop : o.op = Op.insert t m x v)
    (k e : TypeId) (K : Keyed P k) (ht : P.underlying t = some (.map k e)) (R : Value → Option (DataW H × List MemPlace)) (b n : Nat) (D : DataW H)
    (hm : a.eval m = .map (some b)) (hown : w.ownsMap P k R b n D) (hn : n < maxLen) (key val : Value) (kl : Lit) (hx : a.eval x = key) (hv : a.eval v = val) (hkey : keyOf P k key = some kl)
    (d : DataW H) (ps : List MemPlace) (hval : R val = some (d, ps))
    (hK : ∀ w', w'.ownsMap P k R b (n + 1) (D.put kl d) → w.grownBy w' (some b) → wpList P ops Q rest (a.put o.dst undef) w') :
    wpList P ops Q (o :: rest) a w := by
  refine wpList_plain hg fun K' hK' => ?_
  obtain ⟨w', hrun, r1, r2⟩ := hown.update K ht hn hkey hval
  unfold Oper.wp
  simp [execOp, hop, hm, hx, hv, hrun, Result.andThen]
  exact hK' _ _ (hK w' r1 r2)

def closureV (kb wb cb : Nat) : Value := .func (.func 145) #[] #[.pointer (some ⟨kb, 0, none⟩), .pointer (some ⟨wb, 0, none⟩), .pointer (some ⟨cb, 0, none⟩)]
def CounterPost (b : Nat) (W : Web) (w : World) (e : Ending) (w' : World) : Prop :=
  ∃ kb wb cb mb, e = .returned (closureV kb wb cb) ∧ Memo kb wb cb mb b W w' ∧ w.heap.size ≤ kb ∧ w.heap.size ≤ wb ∧ w.heap.size ≤ cb ∧ w.heap.size ≤ mb ∧ Kept w w'

set_option maxHeartbeats 800000 in
theorem counter_any (b : Nat) (W : Web) (hn : W.n ≤ 24) (w : World) (hw : WebAt w b W) : Calls Try.prog 112 #[.pointer (some ⟨b, 0, none⟩)] w (CounterPost b W w) := by
  have HW := Lib.hid hw
  clear hw
  have hmm := @run_makeMap Try.prog
  have hsf := fun (a : Addr) (c : Array Value) (w : World) => run_store Try.prog w a (.func (.func 145) #[] c) .plain rfl
  have hwhole : cnt W (wholeS W.n) = 1 := by rw [cnt_eq (by omega), if_pos rfl]
  go_enter Try.func112, Try.ntmps112
  have hfresh := World.ownsMap_made (H := Unit) (w.alloc (.cells #[.pointer (some ⟨b, 0, none⟩)] 88)) Try.prog 93 (plainElem Try.prog 3)
  have hsz : (w.alloc (.cells #[.pointer (some ⟨b, 0, none⟩)] 88)).heap.size = w.heap.size + 1 := by simp
  rw [hsz] at hfresh
  have hW0 := HW.out.kept (((Kept.refl w).alloc (.cells #[.pointer (some ⟨b, 0, none⟩)] 88)).alloc (.map #[] 0))
  go_wp2_with fail
  refine (whole_any b W _ hW0 hn).mono ?_
  rintro e w1 ⟨rfl, rfl⟩
  have HK0 : Hid (Kept w ((w.alloc (.cells #[.pointer (some ⟨b, 0, none⟩)] 88)).alloc (.map #[] 0))) := ((Kept.refl w).alloc _).alloc _
  have hwb : ((w.alloc (.cells #[.pointer (some ⟨b, 0, none⟩)] 88)).alloc (.map #[] 0)).cell? ⟨w.heap.size, 0, none⟩ = some (.pointer (some ⟨b, 0, none⟩)) := by simp [go_sem]
  have hsz1 : ((w.alloc (.cells #[.pointer (some ⟨b, 0, none⟩)] 88)).alloc (.map #[] 0)).heap.size = w.heap.size + 2 := by simp
  have HW0 := Lib.hid hW0
  clear hW0 hmm
  generalize ((w.alloc (.cells #[.pointer (some ⟨b, 0, none⟩)] 88)).alloc (.map #[] 0)) = w0 at *
  have HFR := Lib.hid hfresh
  have HWB := Lib.hid hwb
  have HSZ := Lib.hid hsz1
  clear hfresh hsz hwb hsz1
  go_wp2_with (refine wpList_insert_own _ rfl _ _ _ 156 rfl 93 3 keyed93 Try.underlying156 _ _ 0 (.map []) rfl HFR.out (by unfold maxLen; omega) _ _ _ rfl rfl (keyOfS _) (.lit (.int .i64 1)) [] (plainElem_int Try.underlying3 (by decide)) ?_; intro w2 hown2 hgrow2; have HO2 := Lib.hid hown2; have HG2 := Lib.hid hgrow2; clear hown2 hgrow2; have hc2 : ((w2.alloc (.cells #[.map (some (w.heap.size + 1))] 156)).alloc (.cells #[.nilFunc] 121)).cell? ⟨w2.heap.size + 1, 0, none⟩ = some .nilFunc := (by simp [go_sem]); have hf2 : ((w2.alloc (.cells #[.map (some (w.heap.size + 1))] 156)).alloc (.cells #[.nilFunc] 121)).frozen? ⟨w2.heap.size + 1, 0, none⟩ = false := (by simp [go_sem]))
  go_ret
  have hg := HG2.out
  have hsz2 := hg.size
  have hsz := HSZ.out
  have hk2 : Kept w w2 := HK0.out.grown hg (fun r e => by cases e; omega)
  refine ⟨w2.heap.size, w.heap.size, w2.heap.size + 1, w.heap.size + 1, rfl, ?_, by omega, by omega, by omega, by omega, (hk2.alloc _).alloc _⟩
  have hkb : Kept w2 ((w2.alloc (.cells #[.map (some (w.heap.size + 1))] 156)).alloc (.cells #[closureV w2.heap.size w.heap.size (w2.heap.size + 1)] 121)) := ((Kept.refl w2).alloc _).alloc _
  have hc1 : ((w2.alloc (.cells #[.map (some (w.heap.size + 1))] 156)).alloc (.cells #[closureV w2.heap.size w.heap.size (w2.heap.size + 1)] 121)).cell? ⟨w2.heap.size, 0, none⟩ = some (.map (some (w.heap.size + 1))) := by simp [go_sem]
  have hc3 : ((w2.alloc (.cells #[.map (some (w.heap.size + 1))] 156)).alloc (.cells #[closureV w2.heap.size w.heap.size (w2.heap.size + 1)] 121)).cell? ⟨w2.heap.size + 1, 0, none⟩ = some (closureV w2.heap.size w.heap.size (w2.heap.size + 1)) := by simp [go_sem]
  have hne : some w.heap.size ≠ some (w.heap.size + 1) := by simp
  have hm := HO2.out.mono (n' := 4294967296) (by omega)
  obtain ⟨es, clock, hb, F, hs, hD⟩ := hm
  refine ⟨hc1, hkb.cell (hg.cell HWB.out hne), hc3, (HW0.out.grownNe hg (fun e => ?_)).kept hkb, _, ⟨es, clock, (hkb.below.block _ (Array.getElem?_eq_some_iff.1 hb).1).trans hb, F, hs, hD⟩, fun d hd => ?_, ?_⟩
  · have := lt_of_cell HW.out.n
    have := Option.some.inj e
    omega
  · by_cases e : d = wholeS W.n
    · subst e
      rw [Maps.atKey_put_same Maps.isMap_empty (keyed93.key (keyOfS _)), hwhole]
    · rw [Maps.has_put_other (fun h => e (keyS_inj h))] at hd
      cases hd
  · exact Maps.has_put_same Maps.isMap_empty (keyed93.key (keyOfS _)) _

/-! ### counted, Count -/

def errC (o : Prob) : Int := if chk o = 0 then (if 12 < (webOf o).n then 2 else 0) else chk o

theorem errC_ok {o : Prob} (h : errC o = 0) : chk o = 0 ∧ (webOf o).n ≤ 12 := by
  unfold errC at h
  split at h
  · rename_i h1
    split at h
    · cases h
    · exact ⟨h1, by omega⟩
  · rename_i h1; exact absurd h h1

set_option maxHeartbeats 400000 in
theorem counted_ok (o : Prob) (ao bo : Option Addr) (ca cb : Nat) (w : World) (ho : IsProb w o ao bo) (hv : errC o = 0) :
    Calls Try.prog 111 #[probV o ao ca bo cb] w (OpenPost o w) := by
  have HO := Lib.hid ho
  obtain ⟨h1, h2⟩ := errC_ok hv
  have H1 := Lib.hid h1
  have H2 := Lib.hid h2
  clear ho hv h1 h2
  go_enter Try.func111, Try.ntmps111
  go_wp2_with fail
  obtain ⟨w0, e0, hk0, hb0, -⟩ := alloc_prob w o.N o.arcs o.near ao ca bo cb
  rw [e0]
  clear e0
  have HK0 := Lib.hid hk0
  clear hk0 hb0
  refine (open_ok o ao bo ca cb w0 (HO.out.kept HK0.out) H1.out).mono ?_
  rintro e w1 ⟨b, rfl, hw1, hk1⟩
  have HW1 := Lib.hid hw1
  have HK1 := Lib.hid (HK0.out.trans hk1)
  have hwn := hw1.n
  have hgt : decide (((webOf o).n : Int) > 12) = false := by have := H2.out; simp; omega
  clear hw1 hk1
  go_wp2
  go_ret2
  exact ⟨b, rfl, HW1.out, HK1.out⟩

set_option maxHeartbeats 400000 in
theorem counted_bad (o : Prob) (ao bo : Option Addr) (ca cb : Nat) (w : World) (ho : IsProb w o ao bo) (hv : errC o ≠ 0) :
    Calls Try.prog 111 #[probV o ao ca bo cb] w (Gives (.tuple #[.pointer none, .int .i64 (errC o)]) w) := by
  have HO := Lib.hid ho
  have HV := Lib.hid hv
  clear ho hv
  go_enter Try.func111, Try.ntmps111
  go_wp2_with fail
  obtain ⟨w0, e0, hk0, hb0, -⟩ := alloc_prob w o.N o.arcs o.near ao ca bo cb
  rw [e0]
  clear e0
  have HK0 := Lib.hid hk0
  clear hk0 hb0
  by_cases h1 : chk o = 0
  · have h2 : 12 < (webOf o).n := Nat.lt_of_not_le fun h => HV.out (by unfold errC; rw [if_pos h1, if_neg (by omega)])
    have he : errC o = 2 := by unfold errC; rw [if_pos h1, if_pos h2]
    have HE := Lib.hid he
    have H1 := Lib.hid h1
    refine (open_ok o ao bo ca cb w0 (HO.out.kept HK0.out) H1.out).mono ?_
    rintro e w1 ⟨b, rfl, hw1, hk1⟩
    have HK1 := Lib.hid (HK0.out.trans hk1)
    have hwn := hw1.n
    have hgt : decide (((webOf o).n : Int) > 12) = true := decide_eq_true (by omega)
    clear hw1 hk1 h1 he
    go_wp2
    go_ret2
    exact ⟨by rw [HE.out]; rfl, HK1.out⟩
  · have he : errC o = chk o := by unfold errC; rw [if_neg h1]
    have HE := Lib.hid he
    have H1 := Lib.hid h1
    have hb : (chk o != 0) = true := by simp [h1]
    clear h1 he
    refine (open_bad o ao bo ca cb w0 (HO.out.kept HK0.out) H1.out).mono ?_
    rintro e w1 ⟨rfl, hk1⟩
    have HK1 := Lib.hid (HK0.out.trans hk1)
    clear hk1
    go_wp2
    go_ret2
    exact ⟨by rw [HE.out]; rfl, HK1.out⟩

def CountR (o : Prob) : Int × Int := if errC o = 0 then (cnt (webOf o) 0#32, 0) else (0, errC o)

set_option maxHeartbeats 400000 in
theorem Count_any (o : Prob) (ao bo : Option Addr) (ca cb : Nat) (w : World) (ho : IsProb w o ao bo) :
    Calls Try.prog 49 #[probV o ao ca bo cb] w (Gives (.tuple #[.int .i64 (CountR o).1, .int .i64 (CountR o).2]) w) := by
  have HO := Lib.hid ho
  clear ho
  by_cases h : errC o = 0
  · have hr : CountR o = (cnt (webOf o) 0#32, 0) := by unfold CountR; rw [if_pos h]
    rw [hr]
    have H := Lib.hid h
    have hn := (errC_ok h).2
    clear hr h
    go_enter Try.func49, Try.ntmps49
    go_wp2_with fail
    obtain ⟨w0, e0, hk0, hb0, -⟩ := alloc_prob w o.N o.arcs o.near ao ca bo cb
    rw [e0]
    clear e0
    have HK0 := Lib.hid hk0
    clear hk0 hb0
    refine (counted_ok o ao bo ca cb w0 (HO.out.kept HK0.out) H.out).mono ?_
    rintro e w1 ⟨b, rfl, hw1, hk1⟩
    have HW1 := Lib.hid hw1
    have HK1 := Lib.hid (HK0.out.trans hk1)
    clear hw1 hk1
    generalize webOf o = W at *
    go_wp2_with fail
    refine (counter_any b W (by omega) w1 HW1.out).mono ?_
    rintro e w2 ⟨kb, wb, cb', mb, rfl, hm, h1, h2, h3, h4, hk2⟩
    have HM := Lib.hid hm
    have HK2 := Lib.hid (HK1.out.trans hk2)
    have HMB := Lib.hid (Nat.le_trans HK1.out.size h4)
    clear hm hk2 h1 h2 h3 h4
    unfold closureV
    go_wp2_with fail
    refine (count_any kb wb cb' mb b W (by omega) (rest W 0#32 + 1) 0#32 w2 (Nat.lt_succ_self _) HM.out).mono ?_
    rintro e w3 ⟨rfl, hg, hm3⟩
    have HK3 := Lib.hid (HK2.out.grown hg (fun r e => by cases e; exact HMB.out))
    clear hg hm3
    go_wp2
    go_ret2
    exact ⟨rfl, HK3.out⟩
  · have hr : CountR o = (0, errC o) := by unfold CountR; rw [if_neg h]
    rw [hr]
    have H := Lib.hid h
    have hb : (errC o != 0) = true := by simp [h]
    clear hr h
    go_enter Try.func49, Try.ntmps49
    go_wp2_with fail
    obtain ⟨w0, e0, hk0, hb0, -⟩ := alloc_prob w o.N o.arcs o.near ao ca bo cb
    rw [e0]
    clear e0
    have HK0 := Lib.hid hk0
    clear hk0 hb0
    refine (counted_bad o ao bo ca cb w0 (HO.out.kept HK0.out) H.out).mono ?_
    rintro e w1 ⟨rfl, hk1⟩
    have HK1 := Lib.hid (HK0.out.trans hk1)
    clear hk1
    go_wp2
    go_ret2
    exact ⟨rfl, HK1.out⟩

end Go.Proofs.Yteljjkghjbofnaa
