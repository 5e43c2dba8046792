/- order.Check, order.Days, order.CheckDays at this seat, first part. Drawn out of the texts of seat Ytgmodcipbklejaa (tools/extract.py), numbers turned by tools/renum.py. -/
import Derived.Test.YtgmodcipbklejaaProg
import Derived.WalkKit
import Derived.Lib.Hide
import Derived.WalkSpells
import Derived.BigQuiet
import Derived.Deep.QuietTactic
import Derived.StillTailTactics
import Derived.Deep.MidRow
namespace Go.Proofs.Ytgmodcipbklejaa
open Go Go.Proofs Go.RowKit
/-- Whatever lay in w lies in w' as it lay. -/
def Kept (w w' : World) : Prop := Below w.heap.size w w'
theorem Kept.refl (w : World) : Kept w w := Below.refl _ _
theorem Kept.trans {a b c : World} (h : Kept a b) (k : Kept b c) : Kept a c := Below.trans h (Below.mono k h.size)
theorem Kept.drew {a b : World} (h : Kept a b) : Kept a b.drew := Below.drew h
theorem Kept.alloc {a b : World} (h : Kept a b) (o : Obj) : Kept a (b.alloc o) := Below.alloc h h.size o
theorem Kept.setCell {a b : World} (h : Kept a b) {p : Addr} (hp : a.heap.size ≤ p.block) (u : Value) : Kept a (b.setCell p u) := Below.setCell h hp u
theorem Kept.size {a b : World} (h : Kept a b) : a.heap.size ≤ b.heap.size := Below.size h
theorem Kept.cells {w w' : World} (h : Kept w w') :
    (∀ b o, b < w.heap.size → w'.cell? ⟨b, o, none⟩ = w.cell? ⟨b, o, none⟩) ∧ (∀ b o, b < w.heap.size → w'.frozen? ⟨b, o, none⟩ = w.frozen? ⟨b, o, none⟩) :=
  ⟨fun b o hb => Below.cell (p := ⟨b, o, none⟩) h hb, fun b o hb => Below.frozen (p := ⟨b, o, none⟩) h hb⟩
theorem lt_of_cell {w : World} {b o : Nat} {v : Value} (h : w.cell? ⟨b, o, none⟩ = some v) : b < w.heap.size :=
  World.block_lt_of_cell? w ⟨b, o, none⟩ h
theorem Kept.cell {w w' : World} (h : Kept w w') {b o : Nat} {v : Value} (hc : w.cell? ⟨b, o, none⟩ = some v) : w'.cell? ⟨b, o, none⟩ = some v :=
  (h.cells.1 b o (lt_of_cell hc)).trans hc
/-- What a call hands back where it may make memory of its own and turns nothing. -/
def Gives (v : Value) (w : World) (e : Ending) (w' : World) : Prop := e = .returned v ∧ Kept w w'
/-- What a call hands back that makes no memory. -/
def Tells (v : Value) (w : World) (e : Ending) (w' : World) : Prop := e = .returned v ∧ w = w'
theorem Calls_still {P : Program} {f : FuncId} {args : Array Value} {w : World} {v : Value} (h : Calls P f args w (Tells v w)) :
    Calls P f args w (fun e w' => e = .returned v ∧ w' = w) := h.mono fun _ _ h => ⟨h.1, h.2.symm⟩
/-- A region that draws its order, whose first n operations only read, and whose others come behind them one after the other. -/
theorem region_tail {P : Program} {id : Nat} {Q : Exit → Act → World → Prop} {a : Act} {w : World} {l : List Oper} (n : Nat) (hm : P.follows .mixedOrders = true) (hB : Region.lexTailB .any l.toArray n = true)
    (h : wpStill P l.toArray w.drew (fun a' => wpList P l.toArray Q (l.drop n) a' w.drew) (l.take n) a) : (Code.region id l.toArray true).wp P Q a w :=
  wp_region_still_tail n hm hB h
theorem ret_bool {a b : Bool} (h : a = b) : Ending.returned (.bool a) = .returned (.bool b) := by rw [h]
theorem ret_int {k : IntKind} {a b : Int} (h : a = b) : Ending.returned (.int k a) = .returned (.int k b) := by rw [h]
/-- Behind ao lie the numbers l. -/
def Ints (w : World) (ao : Option Addr) (l : List Int) : Prop :=
  ∀ i, (h : i < l.length) → ∃ b off, ao = some ⟨b, off, none⟩ ∧ w.cell? ⟨b, off + i, none⟩ = some (.int .i64 l[i])
/-- Behind ao lie the pairs l. -/
def Pairs (w : World) (ao : Option Addr) (l : List (Int × Int)) : Prop :=
  ∀ i, (h : i < l.length) → ∃ b off, ao = some ⟨b, off, none⟩ ∧ w.cell? ⟨b, off + i * 2, none⟩ = some (.int .i64 l[i].1) ∧ w.cell? ⟨b, off + i * 2 + 1, none⟩ = some (.int .i64 l[i].2)
theorem Ints.kept {w w' : World} {ao : Option Addr} {l : List Int} (h : Ints w ao l) (hk : Kept w w') : Ints w' ao l := fun i hi =>
  let ⟨b, off, e, hc⟩ := h i hi
  ⟨b, off, e, hk.cell hc⟩
theorem Pairs.kept {w w' : World} {ao : Option Addr} {l : List (Int × Int)} (h : Pairs w ao l) (hk : Kept w w') : Pairs w' ao l := fun i hi =>
  let ⟨b, off, e, hc, hd⟩ := h i hi
  ⟨b, off, e, hk.cell hc, hk.cell hd⟩
theorem Ints.nil (w : World) (ao : Option Addr) : Ints w ao [] := fun i h => absurd h (by simp)
theorem Pairs.nil (w : World) (ao : Option Addr) : Pairs w ao [] := fun i h => absurd h (by simp)
theorem Ints.take {w : World} {ao : Option Addr} {l : List Int} (h : Ints w ao l) (k : Nat) : Ints w ao (l.take k) := fun i hi => by
  obtain ⟨b, off, e, hc⟩ := h i (by simp at hi; omega)
  exact ⟨b, off, e, by rw [hc]; simp⟩
abbrev S := BitVec 32
/-- The number that a set is. -/
def sI (s : S) : Int := (s.toNat : Int)
/-- The set of one patch. -/
def oneS (p : Nat) : S := 1#32 <<< p
/-- Is p in s? -/
def hasS (s : S) (p : Nat) : Bool := s.getLsbD p
theorem sI_nonneg (s : S) : 0 ≤ sI s := by unfold sI; omega
theorem sI_lt (s : S) : sI s < 4294967296 := by unfold sI; have := s.isLt; omega
theorem sI_zero : sI 0#32 = 0 := rfl
theorem sI_inj {a b : S} : sI a = sI b ↔ a = b := by
  unfold sI; constructor
  · intro h; exact BitVec.eq_of_toNat_eq (by omega)
  · rintro rfl; rfl
theorem sI_eq_zero {a : S} : sI a = 0 ↔ a = 0#32 := by rw [← sI_zero, sI_inj]
theorem wrap_sI (s : S) : IntKind.u32.wrap (sI s) = sI s := by rw [IntKind.wrap_u32]; have := sI_nonneg s; have := sI_lt s; omega
theorem ofInt_sI (s : S) : BitVec.ofInt 32 (sI s) = s := by
  unfold sI; rw [BitVec.ofInt_natCast]; simp
@[go_sem] theorem bits_or_sI (a b : S) : bits .or .u32 (sI a) (sI b) = sI (a ||| b) := by
  show IntKind.u32.wrap ((BitVec.ofInt 32 (sI a) ||| BitVec.ofInt 32 (sI b)).toNat : Int) = _
  rw [ofInt_sI, ofInt_sI]; exact wrap_sI _
@[go_sem] theorem bits_and_sI (a b : S) : bits .and .u32 (sI a) (sI b) = sI (a &&& b) := by
  show IntKind.u32.wrap ((BitVec.ofInt 32 (sI a) &&& BitVec.ofInt 32 (sI b)).toNat : Int) = _
  rw [ofInt_sI, ofInt_sI]; exact wrap_sI _
@[go_sem] theorem bits_andNot_sI (a b : S) : bits .andNot .u32 (sI a) (sI b) = sI (a &&& ~~~b) := by
  show IntKind.u32.wrap ((BitVec.ofInt 32 (sI a) &&& ~~~(BitVec.ofInt 32 (sI b))).toNat : Int) = _
  rw [ofInt_sI, ofInt_sI]; exact wrap_sI _
@[simp] theorem hasS_zero (x : Nat) : hasS 0#32 x = false := by simp [hasS]
@[simp] theorem hasS_or (a b : S) (x : Nat) : hasS (a ||| b) x = (hasS a x || hasS b x) := by simp [hasS]
@[simp] theorem hasS_and (a b : S) (x : Nat) : hasS (a &&& b) x = (hasS a x && hasS b x) := by simp [hasS]
theorem hasS_one (p x : Nat) (hp : p < 32) : hasS (oneS p) x = decide (x = p) := by
  unfold hasS oneS
  rw [BitVec.getLsbD_shiftLeft]
  by_cases h : x = p
  · subst h; simp [hp]
  · simp only [BitVec.getLsbD_one, h, decide_false]
    by_cases h2 : x < p
    · simp [h2]
    · have : ¬ (x - p = 0) := by omega
      simp [this]
/-- The set of a list of patches. -/
def setS (l : List Int) : S := l.foldl (fun s p => s ||| oneS p.toNat) 0#32
theorem setS_snoc (l : List Int) (p : Int) : setS (l ++ [p]) = setS l ||| oneS p.toNat := by simp [setS]
theorem setS_take (l : List Int) (k : Nat) (hk : k < l.length) : setS (l.take (k + 1)) = setS (l.take k) ||| oneS l[k].toNat := by
  rw [List.take_succ_eq_append_getElem hk, setS_snoc]
theorem hasS_setS (l : List Int) (hl : ∀ p ∈ l, 0 ≤ p ∧ p < 32) (x : Nat) : hasS (setS l) x = decide ((x : Int) ∈ l) := by
  have key : ∀ (l : List Int) (s : S), (∀ p ∈ l, 0 ≤ p ∧ p < 32) → hasS (l.foldl (fun s p => s ||| oneS p.toNat) s) x = (hasS s x || decide ((x : Int) ∈ l)) := by
    intro l
    induction l with
    | nil => intro s _; simp
    | cons p l ih =>
      intro s h
      have hp := h p (by simp)
      rw [List.foldl_cons, ih _ (fun q hq => h q (by simp [hq])), hasS_or, hasS_one _ _ (by omega), Bool.or_assoc]
      congr 1
      have e : (x = p.toNat) = ((x : Int) = p) := propext (by omega)
      rw [Bool.eq_iff_iff]
      simp [e]
  have := key l 0#32 hl
  simpa [setS] using this
structure Prob where
  N : Int
  arcs : List (Int × Int)
  near : List (Int × Int)
/-- The value of a problem whose lists lie behind ao and bo. -/
abbrev probV (o : Prob) (ao : Option Addr) (ca : Nat) (bo : Option Addr) (cb : Nat) : Value :=
  .agg #[.int .i64 o.N, .slice ao o.arcs.length ca, .slice bo o.near.length cb]
/-- The lists of a problem lie in memory, and are not too long to be counted. -/
structure IsProb (w : World) (o : Prob) (ao bo : Option Addr) : Prop where
  arcs : Pairs w ao o.arcs
  near : Pairs w bo o.near
  la : o.arcs.length < 1152921504606846976
  lb : o.near.length < 1152921504606846976
theorem IsProb.kept {w w' : World} {o : Prob} {ao bo : Option Addr} (h : IsProb w o ao bo) (hk : Kept w w') : IsProb w' o ao bo :=
  ⟨h.arcs.kept hk, h.near.kept hk, h.la, h.lb⟩
/-- Block b is the variable of a problem. -/
structure ProbBox (w : World) (b : Nat) (o : Prob) (ao : Option Addr) (ca : Nat) (bo : Option Addr) (cb : Nat) : Prop where
  c0 : w.cell? ⟨b, 0, none⟩ = some (.int .i64 o.N)
  c1 : w.cell? ⟨b, 1, none⟩ = some (.slice ao o.arcs.length ca)
  c2 : w.cell? ⟨b, 2, none⟩ = some (.slice bo o.near.length cb)
theorem ProbBox.kept {w w' : World} {b : Nat} {o : Prob} {ao : Option Addr} {ca : Nat} {bo : Option Addr} {cb : Nat} (h : ProbBox w b o ao ca bo cb) (hk : Kept w w') : ProbBox w' b o ao ca bo cb :=
  ⟨hk.cell h.c0, hk.cell h.c1, hk.cell h.c2⟩
/-- A problem is put into a variable of the call's own: the world under a new name. -/
theorem alloc_prob (w : World) (N : Int) (A B : List (Int × Int)) (ao : Option Addr) (ca : Nat) (bo : Option Addr) (cb : Nat) :
    ∃ w0, w.alloc (.cells #[.int .i64 N, .slice ao A.length ca, .slice bo B.length cb] 24) = w0 ∧ Kept w w0 ∧ ProbBox w0 w.heap.size ⟨N, A, B⟩ ao ca bo cb ∧ w.heap.size + 1 = w0.heap.size :=
  ⟨_, rfl, (Kept.refl w).alloc _, ⟨by simp [go_sem], by simp [go_sem], by simp [go_sem]⟩, by simp⟩
set_option maxRecDepth 100000
open Go Go.Proofs Go.RowKit
theorem shr_and_one (s : S) (p : Nat) : (bits BinOp.and IntKind.u32 (sI s / 2 ^ p) 1 == 1) = hasS s p := by
  have h1 : (1 : Int) = sI 1#32 := rfl
  have h2 : sI s / 2 ^ p = sI (s >>> p) := by
    unfold sI
    rw [BitVec.toNat_ushiftRight, Nat.shiftRight_eq_div_pow]
    push_cast
    rfl
  rw [h2, h1, bits_and_sI]
  unfold hasS
  rw [Bool.eq_iff_iff, beq_iff_eq, sI_inj]
  constructor
  · intro h
    have := congrArg (fun x : S => x.getLsbD 0) h
    simpa using this
  · intro h
    apply BitVec.eq_of_getLsbD_eq
    intro i hi
    rcases Nat.eq_zero_or_pos i with rfl | hp
    · simpa using h
    · simp; omega
theorem one_val (p : Nat) : (2 : Int) ^ p % 4294967296 = sI (oneS p) := by
  unfold sI oneS
  rw [BitVec.toNat_shiftLeft]
  simp [Nat.shiftLeft_eq]
set_option maxHeartbeats 400000 in
theorem has_any (s : S) (p : Nat) (w : World) (hp : p < 32) :
    Calls Try.prog 47 #[.int .u32 (sI s), .int .i64 p] w (Tells (.bool (hasS s p)) w) := by
  have hs := sI_nonneg s
  have hl := sI_lt s
  go_enter Try.func47, Try.ntmps47
  go_wp2
  go_ret
  refine ⟨?_, rfl⟩
  rw [← shr_and_one]
  rfl
set_option maxHeartbeats 400000 in
theorem one_any (p : Nat) (w : World) (hp : p < 32) :
    Calls Try.prog 60 #[.int .i64 p] w (Tells (.int .u32 (sI (oneS p))) w) := by
  go_enter Try.func60, Try.ntmps60
  go_wp2
  go_ret
  refine ⟨?_, rfl⟩
  rw [← one_val p]
  rfl
/-- cmp.Compare. -/
def cmpI (x y : Int) : Int := if x < y then -1 else if y < x then 1 else 0
set_option maxHeartbeats 400000 in
theorem compareInt_any (x y : Int) (w : World) : Calls Try.prog 23 #[.int .i64 x, .int .i64 y] w (Tells (.int .i64 (cmpI x y)) w) := by
  by_cases h1 : x < y
  · have e : cmpI x y = -1 := by simp [cmpI, h1]
    rw [e]
    clear e
    go_enter Try.func23, Try.ntmps23
    go_wp2
    go_ret
    exact ⟨rfl, rfl⟩
  · by_cases h2 : y < x
    · have e : cmpI x y = 1 := by simp [cmpI, h1, h2]
      rw [e]
      clear e
      go_enter Try.func23, Try.ntmps23
      go_wp2
      go_ret
      exact ⟨rfl, rfl⟩
    · have e : cmpI x y = 0 := by simp [cmpI, h1, h2]
      rw [e]
      clear e
      go_enter Try.func23, Try.ntmps23
      go_wp2
      go_ret
      exact ⟨rfl, rfl⟩
set_option maxHeartbeats 400000 in
theorem isDry_any (d : Int) (w : World) : Calls Try.prog 37 #[.int .i64 d] w (Tells (.bool (decide (0 ≤ d) && decide (d ≤ 30))) w) := by
  by_cases h1 : 0 ≤ d
  · go_enter Try.func37, Try.ntmps37
    go_wp2
    go_ret
    refine ⟨?_, rfl⟩
    simp [h1]
  · go_enter Try.func37, Try.ntmps37
    go_wp2
    go_ret
    refine ⟨?_, rfl⟩
    simp; omega
/-- cmp.Or. -/
def orI : List Int → Int
  | [] => 0
  | x :: l => if x = 0 then orI l else x
theorem orI_drop (l : List Int) (k : Nat) (hk : k < l.length) (h0 : l[k] = 0) : orI (l.drop k) = orI (l.drop (k + 1)) := by
  rw [List.drop_eq_getElem_cons hk]; simp [orI, h0]
theorem orI_drop' (l : List Int) (k : Nat) (hk : k < l.length) (h0 : l[k] ≠ 0) : orI (l.drop k) = l[k] := by
  rw [List.drop_eq_getElem_cons hk]; simp [orI, h0]
set_option maxHeartbeats 400000 in
theorem or_any (l : List Int) (ao : Option Addr) (c : Nat) (w : World) (hl : l.length < 1152921504606846976) (hp : Ints w ao l) :
    Calls Try.prog 62 #[.slice ao l.length c] w (Tells (.int .i64 (orI l)) w) := by
  go_enter Try.func62, Try.ntmps62
  go_wp2
  go_loop [8] (fun i => ∃ k : Nat, k ≤ l.length ∧ i = .int .i64 k ∧ orI l = orI (l.drop k)) (fun i => l.length - (intOf i).toNat)
  case atStart => exact ⟨0, Nat.zero_le _, rfl, by simp⟩
  case round =>
    obtain ⟨k, hk, rfl, hn⟩ := hrel
    have HN := Lib.hid hn
    clear hn
    by_cases hlt : k < l.length
    · obtain ⟨B, off, rfl, hc⟩ := hp k hlt
      have HP := Lib.hid hp
      clear hp
      have e0 := orI_drop l k hlt
      have e1 := orI_drop' l k hlt
      have E0 := Lib.hid e0
      have E1 := Lib.hid e1
      clear e0 e1
      by_cases hz : l[k] = 0
      · have HZ := Lib.hid hz
        have hz' : (l[k] != 0) = false := by simp [hz]
        clear hz
        go_wp2
        go_round
        case rel => exact ⟨k + 1, by omega, by go_num, HN.out.trans (E0.out HZ.out)⟩
        case measure => simp [intOf]; omega
      · have hz' : (l[k] != 0) = true := by simp [hz]
        have HZ := Lib.hid hz
        clear hz
        go_wp2
        go_ret
        exact ⟨by rw [HN.out, E1.out HZ.out]; rfl, rfl⟩
    · have HP := Lib.hid hp
      clear hp
      go_wp2
      go_ret
      exact ⟨by rw [HN.out, List.drop_of_length_le (by omega)]; rfl, rfl⟩
/-- order.compare. -/
def cmpP (a b : Int × Int) : Int := orI [cmpI a.1 b.1, cmpI a.2 b.2]
set_option maxHeartbeats 400000 in
theorem compare_any (a b c d : Int) (w : World) :
    Calls Try.prog 43 #[.agg #[.int .i64 a, .int .i64 b], .agg #[.int .i64 c, .int .i64 d]] w (Gives (.int .i64 (cmpP (a, b) (c, d))) w) := by
  go_enter Try.func43, Try.ntmps43
  go_wp2
  refine region_tail 10 (by kernel_rfl) (by kernel_rfl) ?_
  simp only [List.take_succ_cons, List.take_zero, List.drop_succ_cons, List.drop_zero]
  repeat still_step
  still_call Calls_still (compareInt_any _ _ _)
  repeat still_step
  still_call Calls_still (compareInt_any _ _ _)
  refine wpStill_nil ?_
  go_wp2_with fail
  refine (or_any [cmpI a c, cmpI b d] _ 2 _ (by simp) ?_).mono ?_
  · intro i hi
    match i, hi with
    | 0, _ => exact ⟨_, _, rfl, by simp [go_sem]⟩
    | 1, _ => exact ⟨_, _, rfl, by simp [go_sem]⟩
  rintro e w' ⟨rfl, rfl⟩
  go_wp2
  go_ret
  exact ⟨rfl, ((((Kept.refl w).alloc _).alloc _).alloc _).drew⟩
/-- Check's closure 'bad'. -/
def badB (N a b : Int) : Bool := decide (min a b < 0) || decide (N ≤ max a b) || decide (a = b)
set_option maxHeartbeats 400000 in
theorem check1_any (a b N : Int) (bo : Nat) (w : World) (hN : w.cell? ⟨bo, 0, none⟩ = some (.int .i64 N)) :
    Calls Try.prog 40 #[.agg #[.int .i64 a, .int .i64 b], .pointer (some ⟨bo, 0, none⟩)] w (Gives (.bool (badB N a b)) w) := by
  have hlt := lt_of_cell hN
  go_enter Try.func40, Try.ntmps40
  go_wp2
  all_goals (go_ret; exact ⟨ret_bool (by unfold badB; rw [Bool.eq_iff_iff]; simp; omega), (Kept.refl w).alloc _⟩)
set_option maxHeartbeats 400000 in
theorem check2_any (a b : Int) (w : World) :
    Calls Try.prog 44 #[.agg #[.int .i64 a, .int .i64 b]] w (Gives (.bool (decide (b < a))) w) := by
  go_enter Try.func44, Try.ntmps44
  go_wp2
  all_goals (go_ret; exact ⟨rfl, (Kept.refl w).alloc _⟩)
/-- What slices.IndexFunc hands back: a place, not negative just where p is true of some element. -/
def IdxPost {α : Type} (p : α → Bool) (l : List α) (w : World) (e : Ending) (w' : World) : Prop :=
  ∃ i : Int, e = .returned (.int .i64 i) ∧ decide (0 ≤ i) = l.any p ∧ Kept w w'
theorem any_take_succ {α : Type} (p : α → Bool) (l : List α) (k : Nat) (hk : k < l.length) (h : (l.take k).any p = false) : (l.take (k + 1)).any p = p l[k] := by
  rw [List.take_succ_eq_append_getElem hk, List.any_append, h]; simp
theorem any_of_get {α : Type} (p : α → Bool) (l : List α) (k : Nat) (hk : k < l.length) (h : p l[k] = true) : l.any p = true :=
  List.any_eq_true.2 ⟨l[k], List.getElem_mem hk, h⟩
set_option maxHeartbeats 800000 in
/-- slices.IndexFunc at pairs: whatever function of a pair is handed in, if it answers p wherever nothing of w has turned. -/
theorem indexFuncP_any (l : List (Int × Int)) (ao : Option Addr) (c g : Nat) (caps : Array Value) (p : Int × Int → Bool) (w : World) (hl : l.length < 1152921504606846976) (hp : Pairs w ao l)
    (hf : ∀ a b W, Kept w W → Calls Try.prog g (#[.agg #[.int .i64 a, .int .i64 b]] ++ caps) W (Gives (.bool (p (a, b))) W)) (hg : ∀ args W, (callFunc g args).run Try.prog W = .ok (.enter g args) W) :
    Calls Try.prog 61 #[.slice ao l.length c, .func (.func g) #[] caps] w (IdxPost p l w) := by
  have HF := Lib.hid hf
  clear hf
  go_enter Try.func61, Try.ntmps61
  go_wp2
  go_loopw [8] (fun i wr => ∃ k : Nat, k ≤ l.length ∧ i = .int .i64 k ∧ (l.take k).any p = false ∧ Kept w wr) (fun i _ => l.length - (intOf i).toNat)
  case atStart => exact ⟨0, Nat.zero_le _, rfl, by simp, Kept.refl w⟩
  case round =>
    obtain ⟨k, hk, rfl, hn, hkw⟩ := hrel
    have HN := Lib.hid hn
    clear hn
    by_cases hlt : k < l.length
    · obtain ⟨B, off, rfl, hc, hd⟩ := (hp.kept hkw) k hlt
      have HP := Lib.hid hp
      clear hp
      have HKW := Lib.hid hkw
      clear hkw
      cases hpk : p l[k]
      all_goals
        go_wp2_with fail
        refine (HF.out _ _ _ HKW.out).mono ?_
        rintro e w1 ⟨rfl, hk1⟩
        have HK1 := Lib.hid (HKW.out.trans hk1)
        clear hk1
      · go_wp2
        go_roundw
        case rel => exact ⟨k + 1, by omega, by go_num, (any_take_succ p l k hlt HN.out).trans hpk, HK1.out⟩
        case measure => simp [intOf]; omega
      · go_wp2
        go_ret
        exact ⟨k, rfl, by rw [any_of_get p l k hlt hpk]; simp, HK1.out⟩
    · have HP := Lib.hid hp
      clear hp
      have HKW := Lib.hid hkw
      clear hkw
      go_wp2
      go_ret
      refine ⟨-1, rfl, ?_, HKW.out⟩
      rw [List.take_of_length_le (by omega)] at HN
      rw [HN.out]; rfl
set_option maxRecDepth 100000
open Go Go.Proofs Go.RowKit
set_option maxHeartbeats 400000 in
theorem containsFuncP_any (l : List (Int × Int)) (ao : Option Addr) (c g : Nat) (caps : Array Value) (p : Int × Int → Bool) (w : World) (hl : l.length < 1152921504606846976) (hp : Pairs w ao l)
    (hf : ∀ a b W, Kept w W → Calls Try.prog g (#[.agg #[.int .i64 a, .int .i64 b]] ++ caps) W (Gives (.bool (p (a, b))) W)) (hg : ∀ args W, (callFunc g args).run Try.prog W = .ok (.enter g args) W) :
    Calls Try.prog 41 #[.slice ao l.length c, .func (.func g) #[] caps] w (Gives (.bool (l.any p)) w) := by
  have HF := Lib.hid hf
  clear hf
  go_enter Try.func41, Try.ntmps41
  go_wp2_with fail
  refine (indexFuncP_any l ao c g caps p w hl hp HF.out hg).mono ?_
  rintro e w1 ⟨i, rfl, hi, hk⟩
  have HI := Lib.hid hi
  have HK := Lib.hid hk
  clear hi hk hg
  go_wp2
  go_ret
  exact ⟨ret_bool HI.out, HK.out⟩
/-- Is a list of pairs strictly ascending? -/
def risB (l : List (Int × Int)) : Bool := (List.range (l.length - 1)).all fun i => decide (cmpP (l.getD i (0, 0)) (l.getD (i + 1) (0, 0)) < 0)
theorem risB_false {l : List (Int × Int)} {k : Nat} (h1 : 1 ≤ k) (hk : k < l.length) (h : ¬ cmpP l[k - 1] l[k] < 0) : risB l = false := by
  unfold risB
  rw [List.all_eq_false]
  refine ⟨k - 1, by simp; omega, ?_⟩
  have e : k - 1 + 1 = k := by omega
  simp only [e, List.getD_eq_getElem?_getD]
  rw [List.getElem?_eq_getElem (by omega), List.getElem?_eq_getElem hk]
  simpa using h
theorem risB_true {l : List (Int × Int)} (h : ∀ i, (h : i + 1 < l.length) → cmpP l[i] l[i + 1] < 0) : risB l = true := by
  unfold risB
  rw [List.all_eq_true]
  intro i hi
  have hi' : i + 1 < l.length := by simp at hi; omega
  simp only [List.getD_eq_getElem?_getD]
  rw [List.getElem?_eq_getElem (by omega), List.getElem?_eq_getElem hi']
  simpa using h i hi'
set_option maxHeartbeats 800000 in
theorem risingP_any (l : List (Int × Int)) (ao : Option Addr) (c : Nat) (w : World) (hl : l.length < 1152921504606846976) (hp : Pairs w ao l) :
    Calls Try.prog 42 #[.slice ao l.length c, .func (.func 43) #[] #[]] w (Gives (.bool (risB l)) w) := by
  go_enter Try.func42, Try.ntmps42
  go_wp2
  go_loopw [5] (fun i wr => ∃ k : Nat, 1 ≤ k ∧ (k ≤ l.length ∨ k = 1) ∧ i = .int .i64 k ∧ (∀ i, (h : i + 1 < l.length) → i + 1 < k → cmpP l[i] l[i + 1] < 0) ∧ Kept w wr) (fun i _ => l.length - (intOf i).toNat)
  case atStart => exact ⟨1, by omega, .inr rfl, rfl, fun i h hk => by omega, Kept.refl w⟩
  case round =>
    obtain ⟨k, hk1, hk, rfl, hn, hkw⟩ := hrel
    have HN := Lib.hid hn
    clear hn
    have HKW := Lib.hid hkw
    clear hkw
    by_cases hlt : k < l.length
    · obtain ⟨j, rfl⟩ : ∃ j, k = j + 1 := ⟨k - 1, by omega⟩
      obtain ⟨B, off, rfl, hc, hd⟩ := (hp.kept HKW.out) (j + 1) hlt
      obtain ⟨B', off', e', hc', hd'⟩ := (hp.kept HKW.out) j (by omega)
      simp only [Option.some.injEq, Addr.mk.injEq] at e'
      obtain ⟨rfl, rfl, -⟩ := e'
      have HP := Lib.hid hp
      clear hp
      clear hk
      have hwj : IntKind.i64.wrap (j : Int) = j := IntWalk.i64_in _ (by omega)
      have hj0 : (j : Int) < (l.length : Int) := by omega
      have hj1 : ((j : Int) + 1).toNat = j + 1 := by omega
      have hj2 : (0 : Int) ≤ (j : Int) + 1 := by omega
      go_wp2
      refine region_tail 10 (by kernel_rfl) (by kernel_rfl) ?_
      simp only [List.take_succ_cons, List.take_zero, List.drop_succ_cons, List.drop_zero]
      repeat still_step
      refine wpStill_nil ?_
      by_cases hcm : cmpP l[j] l[j + 1] < 0
      all_goals
        have hdc : decide (0 ≤ cmpP l[j] l[j + 1]) = decide (¬ cmpP l[j] l[j + 1] < 0) := by simp
        have HCM := Lib.hid hcm
        simp only [hcm] at hdc
        clear hcm
        go_wp2_with fail
        refine (compare_any _ _ _ _ _).mono ?_
        rintro e w1 ⟨rfl, hk1⟩
        have HK1 := Lib.hid (HKW.out.trans (Kept.trans ((Kept.refl _).drew) hk1))
        clear hk1
      · go_wp2
        go_roundw
        case rel => exact ⟨j + 2, by omega, .inl (by omega), by go_num, fun i h hi => by
          rcases Nat.lt_or_ge (i + 1) (j + 1) with h' | h'
          · exact HN.out i h h'
          · obtain rfl : i = j := by omega
            exact HCM.out, HK1.out⟩
        case measure => simp [intOf]; omega
      · go_wp2
        go_ret
        exact ⟨ret_bool (risB_false (k := j + 1) (by omega) hlt (by have := HCM.out; simp only [Nat.add_sub_cancel]; omega)).symm, HK1.out⟩
    · clear hp hk
      go_wp2
      go_ret
      exact ⟨ret_bool (risB_true (fun i h => HN.out i h (by omega))).symm, HKW.out⟩
/-- E1: what is wrong with a problem: 0 nothing, 1 ErrArg, 2 ErrLimit. -/
def chk (o : Prob) : Int :=
  if 24 < o.N then 2 else
  if o.N < 0 ∨ o.arcs.any (fun x => badB o.N x.1 x.2) = true ∨ o.near.any (fun x => badB o.N x.1 x.2) = true ∨ risB o.arcs = false ∨ risB o.near = false ∨ o.near.any (fun x => decide (x.2 < x.1)) = true then 1 else 0
set_option maxHeartbeats 1600000 in
theorem Check_any (o : Prob) (ao bo : Option Addr) (ca cb : Nat) (w : World) (ho : IsProb w o ao bo) :
    Calls Try.prog 16 #[probV o ao ca bo cb] w (Gives (.int .i64 (chk o)) w) := by
  obtain ⟨hA, hB, hla, hlb⟩ := ho
  have HA := Lib.hid hA
  have HB := Lib.hid hB
  clear hA hB
  by_cases h1 : 24 < o.N
  · have e : chk o = 2 := by simp [chk, h1]
    rw [e]
    clear e
    go_enter Try.func16, Try.ntmps16
    go_wp2
    go_ret
    exact ⟨rfl, (Kept.refl w).alloc _⟩
  · by_cases h2 : o.N < 0
    · have e : chk o = 1 := by simp [chk, h1, h2]
      rw [e]
      clear e
      go_enter Try.func16, Try.ntmps16
      go_wp2
      go_ret
      exact ⟨rfl, (Kept.refl w).alloc _⟩
    · go_enter Try.func16, Try.ntmps16
      go_wp2_with fail
      obtain ⟨w0, e0, hk0, hb0, -⟩ := alloc_prob w o.N o.arcs o.near ao ca bo cb
      rw [e0]
      clear e0
      have HK0 := Lib.hid hk0
      have HB0 := Lib.hid hb0
      clear hk0 hb0
      refine (containsFuncP_any o.arcs ao ca 40 #[.pointer (some ⟨w.heap.size, 0, none⟩)] (fun x => badB o.N x.1 x.2) _ hla (HA.out.kept HK0.out) (fun a b W hW => check1_any a b o.N _ W (hW.cell HB0.out.c0)) Try.call40).mono ?_
      rintro e w1 ⟨rfl, hk1⟩
      have HB1 := Lib.hid (HB0.out.kept hk1)
      have HK1 := Lib.hid (HK0.out.trans hk1)
      clear hk1 HB0 HK0
      cases hA1 : o.arcs.any (fun x => badB o.N x.1 x.2)
      all_goals
        have F1 := Lib.hid hA1
        clear hA1
        obtain ⟨q0, q1, q2⟩ := HB1.out
      case true =>
        go_wp2
        go_ret
        exact ⟨ret_int (by rw [chk, if_neg (by omega), if_pos (.inr (.inl F1.out))]), HK1.out⟩
      go_wp2_with fail
      clear q0 q1 q2
      refine (containsFuncP_any o.near bo cb 40 #[.pointer (some ⟨w.heap.size, 0, none⟩)] (fun x => badB o.N x.1 x.2) _ hlb (HB.out.kept HK1.out) (fun a b W hW => check1_any a b o.N _ W (hW.cell HB1.out.c0)) Try.call40).mono ?_
      rintro e w2 ⟨rfl, hk2⟩
      have HB2 := Lib.hid (HB1.out.kept hk2)
      have HK2 := Lib.hid (HK1.out.trans hk2)
      clear hk2 HB1 HK1
      cases hA2 : o.near.any (fun x => badB o.N x.1 x.2)
      all_goals
        have F2 := Lib.hid hA2
        clear hA2
        obtain ⟨q0, q1, q2⟩ := HB2.out
      case true =>
        go_wp2
        go_ret
        exact ⟨ret_int (by rw [chk, if_neg (by omega), if_pos (.inr (.inr (.inl F2.out)))]), HK2.out⟩
      go_wp2_with fail
      clear q0 q1 q2
      refine (risingP_any o.arcs ao ca _ hla (HA.out.kept HK2.out)).mono ?_
      rintro e w3 ⟨rfl, hk3⟩
      have HB3 := Lib.hid (HB2.out.kept hk3)
      have HK3 := Lib.hid (HK2.out.trans hk3)
      clear hk3 HB2 HK2
      cases hA3 : risB o.arcs
      all_goals
        have F3 := Lib.hid hA3
        clear hA3
        obtain ⟨q0, q1, q2⟩ := HB3.out
      case false =>
        go_wp2
        go_ret
        exact ⟨ret_int (by rw [chk, if_neg (by omega), if_pos (.inr (.inr (.inr (.inl F3.out))))]), HK3.out⟩
      go_wp2_with fail
      clear q0 q1 q2
      refine (risingP_any o.near bo cb _ hlb (HB.out.kept HK3.out)).mono ?_
      rintro e w4 ⟨rfl, hk4⟩
      have HB4 := Lib.hid (HB3.out.kept hk4)
      have HK4 := Lib.hid (HK3.out.trans hk4)
      clear hk4 HB3 HK3
      cases hA4 : risB o.near
      all_goals
        have F4 := Lib.hid hA4
        clear hA4
        obtain ⟨q0, q1, q2⟩ := HB4.out
      case false =>
        go_wp2
        go_ret
        exact ⟨ret_int (by rw [chk, if_neg (by omega), if_pos (.inr (.inr (.inr (.inr (.inl F4.out)))))]), HK4.out⟩
      go_wp2_with fail
      clear q0 q1 q2
      refine (containsFuncP_any o.near bo cb 44 #[] (fun x => decide (x.2 < x.1)) _ hlb (HB.out.kept HK4.out) (fun a b W hW => check2_any a b W) Try.call44).mono ?_
      rintro e w5 ⟨rfl, hk5⟩
      have HB5 := Lib.hid (HB4.out.kept hk5)
      have HK5 := Lib.hid (HK4.out.trans hk5)
      clear hk5 HB4 HK4
      cases hA5 : o.near.any (fun x => decide (x.2 < x.1))
      all_goals
        have F5 := Lib.hid hA5
        clear hA5
        obtain ⟨q0, q1, q2⟩ := HB5.out
      case true =>
        go_wp2
        go_ret
        exact ⟨ret_int (by rw [chk, if_neg (by omega), if_pos (.inr (.inr (.inr (.inr (.inr F5.out)))))]), HK5.out⟩
      go_wp2
      go_ret
      exact ⟨ret_int (by rw [chk, if_neg (by omega), if_neg]; simp [F1.out, F2.out, F3.out, F4.out]; exact ⟨by omega, by simpa using F5.out⟩), HK5.out⟩
set_option maxRecDepth 100000
open Go Go.Proofs Go.RowKit
structure Web where
  n : Nat
  to : Nat → S
  reach : Nat → S
  near : Nat → S
def upd (f : Nat → S) (a : Nat) (s : S) : Nat → S := fun x => if x = a then s else f x
def stepTo (f : Nat → S) (x : Int × Int) : Nat → S := upd f x.1.toNat (f x.1.toNat ||| oneS x.2.toNat)
def toS (l : List (Int × Int)) : Nat → S := l.foldl stepTo (fun _ => 0#32)
def stepBack (f : Nat → S) (x : Int × Int) : Nat → S := upd f x.2.toNat (f x.2.toNat ||| oneS x.1.toNat)
def nearS (l : List (Int × Int)) : Nat → S := l.foldl (fun f x => stepBack (stepTo f x) x) (fun _ => 0#32)
def stepR (c : Nat) (f : Nat → S) (a : Nat) : Nat → S := if hasS (f a) c then upd f a (f a ||| f c) else f
def roundR (n c : Nat) (f : Nat → S) : Nat → S := (List.range n).foldl (stepR c) f
def reachS (n : Nat) (f : Nat → S) : Nat → S := (List.range n).foldl (fun f c => roundR n c f) f
def webOf (o : Prob) : Web := { n := o.N.toNat, to := toS o.arcs, reach := reachS o.N.toNat (toS o.arcs), near := nearS o.near }
theorem toS_snoc (l : List (Int × Int)) (k : Nat) (hk : k < l.length) : toS (l.take (k + 1)) = stepTo (toS (l.take k)) l[k] := by
  rw [List.take_succ_eq_append_getElem hk]; unfold toS; rw [List.foldl_append]; rfl
theorem nearS_snoc (l : List (Int × Int)) (k : Nat) (hk : k < l.length) : nearS (l.take (k + 1)) = stepBack (stepTo (nearS (l.take k)) l[k]) l[k] := by
  rw [List.take_succ_eq_append_getElem hk]; unfold nearS; rw [List.foldl_append]; rfl
def partR (c : Nat) (f : Nat → S) (k : Nat) : Nat → S := (List.range k).foldl (stepR c) f
theorem partR_succ (c : Nat) (f : Nat → S) (k : Nat) : partR c f (k + 1) = stepR c (partR c f k) k := by simp [partR, List.range_succ]
def partS (n : Nat) (f : Nat → S) (k : Nat) : Nat → S := (List.range k).foldl (fun f c => roundR n c f) f
theorem partS_succ (n : Nat) (f : Nat → S) (k : Nat) : partS n f (k + 1) = partR k (partS n f k) n := by simp [partS, partR, roundR, List.range_succ]
structure WebAt (w : World) (b : Nat) (W : Web) : Prop where
  n : w.cell? ⟨b, 0, none⟩ = some (.int .i64 W.n)
  to : ∀ a, a < 24 → w.cell? ⟨b, 1 + a, none⟩ = some (.int .u32 (sI (W.to a)))
  reach : ∀ a, a < 24 → w.cell? ⟨b, 25 + a, none⟩ = some (.int .u32 (sI (W.reach a)))
  near : ∀ a, a < 24 → w.cell? ⟨b, 49 + a, none⟩ = some (.int .u32 (sI (W.near a)))
  free : ∀ o, w.frozen? ⟨b, o, none⟩ = false
theorem WebAt.kept {w w' : World} {b : Nat} {W : Web} (h : WebAt w b W) (hk : Kept w w') : WebAt w' b W :=
  ⟨hk.cell h.n, fun a ha => hk.cell (h.to a ha), fun a ha => hk.cell (h.reach a ha), fun a ha => hk.cell (h.near a ha),
   fun o => (hk.cells.2 b o (lt_of_cell h.n)).trans (h.free o)⟩
theorem cell_set_same {w : World} {b o : Nat} {v u : Value} (h : w.cell? ⟨b, o, none⟩ = some v) : (w.setCell ⟨b, o, none⟩ u).cell? ⟨b, o, none⟩ = some u :=
  World.cell?_setCell_same' _ _ _ (by rw [h]; rfl)
theorem cell_set_off {w : World} {b o o' : Nat} {v u : Value} (h : w.cell? ⟨b, o', none⟩ = some v) (hne : o' ≠ o) : (w.setCell ⟨b, o, none⟩ u).cell? ⟨b, o', none⟩ = some v := by
  rw [World.cell?_setCell_other]
  · exact h
  · intro e; exact hne (by simpa using e.symm)
theorem cell_set_block {w : World} {b b' o o' : Nat} {v u : Value} (h : w.cell? ⟨b', o', none⟩ = some v) (hne : b' ≠ b) : (w.setCell ⟨b, o, none⟩ u).cell? ⟨b', o', none⟩ = some v := by
  rw [World.cell?_setCell_other]
  · exact h
  · intro e; simp only [Addr.mk.injEq] at e; exact hne e.1.symm
theorem cell_set_or {w : World} {b o o' : Nat} {v u : Value} (h : w.cell? ⟨b, o', none⟩ = some v) : (w.setCell ⟨b, o, none⟩ u).cell? ⟨b, o', none⟩ = some (if o' = o then u else v) := by
  by_cases e : o' = o
  · subst e; rw [if_pos rfl]; exact cell_set_same h
  · rw [if_neg e]; exact cell_set_off h e
theorem WebAt.setOther {w : World} {b b' o : Nat} {W : Web} {u : Value} (h : WebAt w b W) (hne : b ≠ b') : WebAt (w.setCell ⟨b', o, none⟩ u) b W :=
  ⟨cell_set_block h.n hne, fun a ha => cell_set_block (h.to a ha) hne, fun a ha => cell_set_block (h.reach a ha) hne, fun a ha => cell_set_block (h.near a ha) hne,
   fun o => by rw [World.frozen?_setCell]; exact h.free o⟩
theorem ProbBox.setOther {w : World} {b b' o' : Nat} {o : Prob} {ao : Option Addr} {ca : Nat} {bo : Option Addr} {cb : Nat} {u : Value} (h : ProbBox w b o ao ca bo cb) (hne : b ≠ b') :
    ProbBox (w.setCell ⟨b', o', none⟩ u) b o ao ca bo cb := ⟨cell_set_block h.c0 hne, cell_set_block h.c1 hne, cell_set_block h.c2 hne⟩
theorem WebAt.setTo {w : World} {b a : Nat} {W : Web} (h : WebAt w b W) (ha : a < 24) (s : S) :
    WebAt (w.setCell ⟨b, 1 + a, none⟩ (.int .u32 (sI s))) b { W with to := upd W.to a s } :=
  ⟨cell_set_off h.n (by omega), fun x hx => by rw [cell_set_or (h.to x hx)]; unfold upd; by_cases e : x = a <;> simp [e],
   fun x hx => cell_set_off (h.reach x hx) (by omega), fun x hx => cell_set_off (h.near x hx) (by omega), fun o => by rw [World.frozen?_setCell]; exact h.free o⟩
theorem WebAt.setReach {w : World} {b a : Nat} {W : Web} (h : WebAt w b W) (ha : a < 24) (s : S) :
    WebAt (w.setCell ⟨b, 25 + a, none⟩ (.int .u32 (sI s))) b { W with reach := upd W.reach a s } :=
  ⟨cell_set_off h.n (by omega), fun x hx => cell_set_off (h.to x hx) (by omega), fun x hx => by rw [cell_set_or (h.reach x hx)]; unfold upd; by_cases e : x = a <;> simp [e],
   fun x hx => cell_set_off (h.near x hx) (by omega), fun o => by rw [World.frozen?_setCell]; exact h.free o⟩
theorem WebAt.setNear {w : World} {b a : Nat} {W : Web} (h : WebAt w b W) (ha : a < 24) (s : S) :
    WebAt (w.setCell ⟨b, 49 + a, none⟩ (.int .u32 (sI s))) b { W with near := upd W.near a s } :=
  ⟨cell_set_off h.n (by omega), fun x hx => cell_set_off (h.to x hx) (by omega), fun x hx => cell_set_off (h.reach x hx) (by omega),
   fun x hx => by rw [cell_set_or (h.near x hx)]; unfold upd; by_cases e : x = a <;> simp [e], fun o => by rw [World.frozen?_setCell]; exact h.free o⟩
def cells24 (f : Nat → S) : List Value := (List.range 24).map (fun a => .int .u32 (sI (f a)))
theorem cells24_length (f : Nat → S) : (cells24 f).length = 24 := by simp [cells24]
theorem cells24_get (f : Nat → S) (a : Nat) (ha : a < 24) : (cells24 f)[a]? = some (.int .u32 (sI (f a))) := by
  unfold cells24; rw [List.getElem?_map, List.getElem?_range ha]; rfl
theorem cells24_one (f : Nat → S) : (cells24 f).toArray.all (·.oneCell') = true := by
  apply all_oneCell_toArray
  intro v hv
  obtain ⟨_, _, rfl⟩ := List.mem_map.1 hv
  rfl
theorem range24 {w : World} {b o : Nat} {f : Nat → S} (h : ∀ a, a < 24 → w.cell? ⟨b, o + a, none⟩ = some (.int .u32 (sI (f a)))) : w.rangeAt b o (cells24 f) := by
  intro j v hv
  have hj : j < 24 := by have := (List.getElem?_eq_some_iff.1 hv).1; rwa [cells24_length] at this
  rw [cells24_get f j hj] at hv
  rw [← hv]; exact h j hj
theorem there24 {w : World} {b o : Nat} {f : Nat → S} (h : ∀ a, a < 24 → w.cell? ⟨b, o + a, none⟩ = some (.int .u32 (sI (f a)))) (hf : ∀ o, w.frozen? ⟨b, o, none⟩ = false) (n : Nat) (hn : n ≤ 24) : w.there b o n :=
  fun j hj => ⟨by rw [h j (by omega)]; rfl, hf _⟩
theorem WebAt.copy {w : World} {b : Nat} {W : Web} (h : WebAt w b W) : WebAt (w.setCells b 25 (cells24 W.to)) b { W with reach := W.to } := by
  have hout : ∀ o v, w.cell? ⟨b, o, none⟩ = some v → (o < 25 ∨ 49 ≤ o) → (w.setCells b 25 (cells24 W.to)).cell? ⟨b, o, none⟩ = some v := fun o v hv ho => by
    rw [World.cell?_setCells_out b _ _ w _ (fun _ _ => by rw [cells24_length]; exact ho)]; exact hv
  refine ⟨hout _ _ h.n (by omega), fun a ha => hout _ _ (h.to a ha) (by omega), fun a ha => ?_, fun a ha => hout _ _ (h.near a ha) (by omega), fun o => by rw [World.frozen?_setCells]; exact h.free o⟩
  have := World.rangeAt_setCells_same w b 25 (cells24 W.to) (by rw [cells24_length]; exact there24 h.reach h.free 24 (Nat.le_refl _))
  exact this a _ (cells24_get _ a ha)
theorem Kept.setCells {a w : World} (h : Kept a w) {b : Nat} (hb : a.heap.size ≤ b) : ∀ (vs : List Value) (o : Nat), Kept a (w.setCells b o vs) := by
  intro vs
  induction vs generalizing w with
  | nil => intro o; exact h
  | cons v r ih => intro o; exact ih (h.setCell (p := ⟨b, o, none⟩) hb v) (o + 1)
theorem size94 : (Try.prog.info? 96).map (·.size) = some 24 := by kernel_rfl
theorem zero96 : Try.zeroCells98 = #[.int .i64 0] ++ Array.replicate 72 (.int .u32 0) := by kernel_rfl
theorem zero96_get (N : Int) (i : Nat) (h0 : 0 < i) (hi : i < 73) : (Try.zeroCells98.setIfInBounds 0 (.int .i64 N))[i]? = some (.int .u32 (sI 0#32)) := by
  rw [zero96, Array.getElem?_setIfInBounds, if_neg (by omega), Array.getElem?_append_right (by simp; omega)]
  rw [Array.getElem?_replicate, if_pos (by simp; omega)]; rfl
/-- The web's block as it is made. -/
theorem alloc_web (w : World) (n : Nat) : ∃ w0, w.alloc (.cells (Try.zeroCells98.setIfInBounds 0 (.int .i64 n)) 98) = w0 ∧ Kept w w0 ∧ w.heap.size < w0.heap.size ∧
    WebAt w0 w.heap.size { n, to := fun _ => 0#32, reach := fun _ => 0#32, near := fun _ => 0#32 } := by
  have hh : (w.alloc (.cells (Try.zeroCells98.setIfInBounds 0 (.int .i64 n)) 98)).heap[w.heap.size]? = some (.cells (Try.zeroCells98.setIfInBounds 0 (.int .i64 n)) 98 (0, 0)) := heap_alloc_new w _
  have hz := fun i h0 hi => zero96_get n i h0 hi
  refine ⟨_, rfl, (Kept.refl w).alloc _, by simp, ?_, ?_, ?_, ?_, ?_⟩
  · rw [cell_of_row _ _ _ _ _ _ hh, zero96]; simp
  · intro a ha; rw [cell_of_row _ _ _ _ _ _ hh]; exact hz (1 + a) (by omega) (by omega)
  · intro a ha; rw [cell_of_row _ _ _ _ _ _ hh]; exact hz (25 + a) (by omega) (by omega)
  · intro a ha; rw [cell_of_row _ _ _ _ _ _ hh]; exact hz (49 + a) (by omega) (by omega)
  · intro o; exact frozen_of_row _ _ _ _ _ hh
/-- What a valid problem's pairs are. -/
theorem pair_of_chk {o : Prob} (h : chk o = 0) : 0 ≤ o.N ∧ o.N ≤ 24 ∧ (∀ x ∈ o.arcs, 0 ≤ x.1 ∧ x.1 < o.N ∧ 0 ≤ x.2 ∧ x.2 < o.N ∧ x.1 ≠ x.2) ∧ (∀ x ∈ o.near, 0 ≤ x.1 ∧ x.2 < o.N ∧ x.1 < x.2) := by
  unfold chk at h
  split at h
  · cases h
  · split at h
    · cases h
    · rename_i h1 h2
      simp only [not_or, List.any_eq_true, not_exists, not_and] at h2
      obtain ⟨h3, h4, h5, -, -, h6⟩ := h2
      refine ⟨by omega, by omega, fun x hx => ?_, fun x hx => ?_⟩
      · have := h4 x hx; unfold badB at this; simp at this; omega
      · have := h5 x hx; have h7 := h6 x hx; unfold badB at this; simp at this h7; omega
def WovenPost (o : Prob) (w : World) (e : Ending) (w' : World) : Prop :=
  ∃ b, e = .returned (.pointer (some ⟨b, 0, none⟩)) ∧ WebAt w' b (webOf o) ∧ Kept w w'
set_option maxHeartbeats 1600000 in
theorem woven_any (o : Prob) (ao bo : Option Addr) (ca cb : Nat) (w : World) (ho : IsProb w o ao bo) (hv : chk o = 0) :
    Calls Try.prog 58 #[probV o ao ca bo cb] w (WovenPost o w) := by
  obtain ⟨hA, hB, hla, hlb⟩ := ho
  obtain ⟨h0, h24, hpa, hpn⟩ := pair_of_chk hv
  obtain ⟨N, A, B⟩ := o
  dsimp only at *
  obtain ⟨N, rfl⟩ := Int.eq_ofNat_of_zero_le h0
  have HA := Lib.hid hA
  have HB := Lib.hid hB
  have HPA := Lib.hid hpa
  have HPN := Lib.hid hpn
  clear hA hB hpa hpn hv
  go_enter Try.func58, Try.ntmps58
  go_wp2
  obtain ⟨w0, e0, hk0, hb0, hs0⟩ := alloc_prob w N A B ao ca bo cb
  rw [e0, hs0]
  clear e0
  obtain ⟨w1, e1, hk1, hs1, hw1⟩ := alloc_web w0 N
  rw [e1]
  clear e1
  have HB1 := Lib.hid (hb0.kept hk1)
  have HK1 := Lib.hid (hk0.trans hk1)
  have HW1 := Lib.hid hw1
  have hS : w.heap.size < w0.heap.size := by rw [← hs0]; omega
  clear hs0
  have HS := Lib.hid hS
  clear hS
  generalize w0.heap.size = b at *
  clear hk0 hb0 hk1 hs1 hw1
  go_loopw [17] (fun i wr => ∃ k : Nat, k ≤ A.length ∧ i = .int .i64 k ∧ Kept w wr ∧ ProbBox wr w.heap.size ⟨N, A, B⟩ ao ca bo cb ∧ WebAt wr b { n := N, to := toS (A.take k), reach := fun _ => 0#32, near := fun _ => 0#32 })
    (fun i _ => A.length - (intOf i).toNat)
  case atStart => exact ⟨0, Nat.zero_le _, rfl, HK1.out, HB1.out, HW1.out⟩
  case round =>
    obtain ⟨k, hk, rfl, hkw, hbx, hwb⟩ := hrel
    have HKW := Lib.hid hkw
    have HBX := Lib.hid hbx
    have HWB := Lib.hid hwb
    clear hkw hbx hwb HB1 HK1 HW1
    by_cases hlt : k < A.length
    · obtain ⟨p0, p1, p2, p3, -⟩ := HPA.out A[k] (List.getElem_mem hlt)
      obtain ⟨ab, off, rfl, hc, hd⟩ := (HA.out.kept HKW.out) k hlt
      obtain ⟨x, hx⟩ := Int.eq_ofNat_of_zero_le p0
      obtain ⟨y, hy⟩ := Int.eq_ofNat_of_zero_le p2
      rw [hx] at p1 hc
      rw [hy] at p3 hd
      have HX := Lib.hid hx
      have HY := Lib.hid hy
      have hl := lt_of_cell hc
      clear hx hy p0 p2
      have hx24 : x < 24 := by omega
      have hy32 : y < 32 := by omega
      have hxi : (x : Int) < 24 := by omega
      have hto := HWB.out.to x hx24
      have hfr := HWB.out.free (1 + x)
      have hlb' := lt_of_cell hto
      go_wp2
      refine region_tail 13 (by kernel_rfl) (by kernel_rfl) ?_
      simp only [List.take_succ_cons, List.take_zero, List.drop_succ_cons, List.drop_zero]
      repeat still_step
      still_call Calls_still (one_any _ _ hy32)
      repeat still_step
      refine wpStill_nil ?_
      go_wp2
      go_roundw
      case rel =>
        refine ⟨k + 1, by omega, by go_num, ((HKW.out.setCell (Nat.le_of_lt HS.out) _).alloc _).drew, ((HBX.out.setOther (Nat.ne_of_lt HS.out)).kept ((Kept.refl _).alloc _)).kept (Kept.refl _).drew, ?_⟩
        have e : toS (A.take (k + 1)) = upd (toS (A.take k)) x (toS (A.take k) x ||| oneS y) := by
          rw [toS_snoc A k hlt, stepTo, HX.out, HY.out]; rfl
        rw [e]
        exact (((HWB.out.setTo hx24 _).kept ((Kept.refl _).alloc _)).kept (Kept.refl _).drew)
      case measure => simp [intOf]; omega
    · obtain ⟨q0, q1, q2⟩ := HBX.out
      have ek : A.take k = A := List.take_of_length_le (by omega)
      rw [ek] at HWB
      clear ek
      go_wp2
      clear q0 q1 q2
      go_loopw [39] (fun i wr => ∃ k : Nat, k ≤ B.length ∧ i = .int .i64 k ∧ Kept w wr ∧ WebAt wr b { n := N, to := toS A, reach := fun _ => 0#32, near := nearS (B.take k) })
        (fun i _ => B.length - (intOf i).toNat)
      case atStart => exact ⟨0, Nat.zero_le _, rfl, HKW.out, HWB.out⟩
      case round =>
        clear HKW HBX HWB hlt hk
        obtain ⟨m, hm, rfl, hkw, hwb⟩ := hrel
        have HKW := Lib.hid hkw
        have HWB := Lib.hid hwb
        clear hkw hwb
        by_cases hlt : m < B.length
        · obtain ⟨p0, p1, p2⟩ := HPN.out B[m] (List.getElem_mem hlt)
          obtain ⟨ab, off, rfl, hc, hd⟩ := (HB.out.kept HKW.out) m hlt
          obtain ⟨x, hx⟩ := Int.eq_ofNat_of_zero_le p0
          obtain ⟨y, hy⟩ := Int.eq_ofNat_of_zero_le (show 0 ≤ B[m].2 by omega)
          rw [hx] at p2 hc
          rw [hy] at p1 p2 hd
          have HX := Lib.hid hx
          have HY := Lib.hid hy
          have hl := lt_of_cell hc
          clear hx hy p0
          have hx24 : x < 24 := by omega
          have hy24 : y < 24 := by omega
          have hx32 : x < 32 := by omega
          have hy32 : y < 32 := by omega
          have hxi : (x : Int) < 24 := by omega
          have hyi : (y : Int) < 24 := by omega
          have hto := HWB.out.near x hx24
          have hfr := HWB.out.free (49 + x)
          have hlb' := lt_of_cell hto
          go_wp2
          refine region_tail 13 (by kernel_rfl) (by kernel_rfl) ?_
          simp only [List.take_succ_cons, List.take_zero, List.drop_succ_cons, List.drop_zero]
          repeat still_step
          still_call Calls_still (one_any _ _ hy32)
          repeat still_step
          refine wpStill_nil ?_
          have hne : b ≠ wr.heap.size := by omega
          go_wp2
          have HW1 := Lib.hid (((HWB.out.setNear hx24 (nearS (B.take m) x ||| oneS y)).kept ((Kept.refl _).alloc (.cells #[.int .i64 x, .int .i64 y] 47))).kept (Kept.refl _).drew)
          have HK1 := Lib.hid ((HKW.out.setCell (p := ⟨b, 49 + x, none⟩) (Nat.le_of_lt HS.out) (.int .u32 (sI (nearS (B.take m) x ||| oneS y)))).alloc (.cells #[.int .i64 x, .int .i64 y] 47)).drew
          have hx0 : (((wr.setCell ⟨b, 49 + x, none⟩ (.int .u32 (sI (nearS (B.take m) x ||| oneS y)))).alloc (.cells #[.int .i64 x, .int .i64 y] 47)).drew).cell? ⟨wr.heap.size, 0, none⟩ = some (.int .i64 x) := by simp [go_sem]
          have hx1 : (((wr.setCell ⟨b, 49 + x, none⟩ (.int .u32 (sI (nearS (B.take m) x ||| oneS y)))).alloc (.cells #[.int .i64 x, .int .i64 y] 47)).drew).cell? ⟨wr.heap.size, 1, none⟩ = some (.int .i64 y) := by simp [go_sem]
          generalize (((wr.setCell ⟨b, 49 + x, none⟩ (.int .u32 (sI (nearS (B.take m) x ||| oneS y)))).alloc (.cells #[.int .i64 x, .int .i64 y] 47)).drew) = w2 at *
          generalize wr.heap.size = bx at *
          clear hto hfr hc hd hl hlb' HWB HKW
          have hto := HW1.out.near y hy24
          have hfr := HW1.out.free (49 + y)
          refine region_tail 13 (by kernel_rfl) (by kernel_rfl) ?_
          simp only [List.take_succ_cons, List.take_zero, List.drop_succ_cons, List.drop_zero]
          repeat still_step
          still_call Calls_still (one_any _ _ hx32)
          repeat still_step
          refine wpStill_nil ?_
          go_wp2
          go_roundw
          case rel =>
            refine ⟨m + 1, by omega, by go_num, (HK1.out.setCell (Nat.le_of_lt HS.out) _).drew, ?_⟩
            have e : nearS (B.take (m + 1)) = upd (upd (nearS (B.take m)) x (nearS (B.take m) x ||| oneS y)) y (upd (nearS (B.take m)) x (nearS (B.take m) x ||| oneS y) y ||| oneS x) := by
              rw [nearS_snoc B m hlt, stepTo, stepBack, HX.out, HY.out]; rfl
            rw [e]
            exact ((HW1.out.setNear hy24 _).kept (Kept.refl _).drew)
          case measure => simp [intOf]; omega
        · have em : B.take m = B := List.take_of_length_le (by omega)
          rw [em] at HWB
          clear em
          have HW1 := Lib.hid HWB.out.copy
          have HK1 := Lib.hid (HKW.out.setCells (b := b) (Nat.le_of_lt HS.out) (cells24 (toS A)) 25)
          have hn0 := HW1.out.n
          go_wp2_with (first
            | (refine wpList_load_mid rfl 96 _ rfl b 1 rfl (cells24 (toS A)) _ (range24 HWB.out.to) Try.underlying96 rfl (by rw [cells24_length]; exact size94) ?_)
            | (refine wpList_store_mid rfl 96 _ _ rfl b 25 (cells24 (toS A)).toArray rfl rfl (there24 HWB.out.reach HWB.out.free _ (by simp [cells24_length])) (by simp [cells24_length, size94]) (cells24_one _) ?_; generalize wr.setCells b 25 (cells24 (toS A)) = w2 at *))
          clear hn0 HKW HWB hlt hm HA HB HPA HPN
          go_loopw [83] (fun i wr => ∃ c : Nat, c ≤ N ∧ i = .int .i64 c ∧ Kept w wr ∧ WebAt wr b { n := N, to := toS A, reach := partS N (toS A) c, near := nearS B }) (fun i _ => N - (intOf i).toNat)
          case atStart => exact ⟨0, Nat.zero_le _, rfl, HK1.out, HW1.out⟩
          case round =>
            clear HK1 HW1
            obtain ⟨c, hc, rfl, hkw, hwb⟩ := hrel
            have HKW := Lib.hid hkw
            have HWB := Lib.hid hwb
            clear hkw hwb
            by_cases hlt : c < N
            · have hn0 := HWB.out.n
              go_wp2
              clear hn0
              go_loopw [90] (fun i wr => ∃ a : Nat, a ≤ N ∧ i = .int .i64 a ∧ Kept w wr ∧ WebAt wr b { n := N, to := toS A, reach := partR c (partS N (toS A) c) a, near := nearS B }) (fun i _ => N - (intOf i).toNat)
              case atStart => exact ⟨0, Nat.zero_le _, rfl, HKW.out, HWB.out⟩
              case round =>
                clear HKW HWB
                obtain ⟨a, ha, rfl, hkw, hwb⟩ := hrel
                have HKW := Lib.hid hkw
                have HWB := Lib.hid hwb
                clear hkw hwb
                by_cases hlta : a < N
                · have ha24 : a < 24 := by omega
                  have hc32 : c < 32 := by omega
                  have hai : (a : Int) < 24 := by omega
                  have hci : (c : Int) < 24 := by omega
                  have hra := HWB.out.reach a ha24
                  have hrc := HWB.out.reach c (by omega)
                  have hfr := HWB.out.free (25 + a)
                  go_wp2_with fail
                  refine (has_any _ c _ hc32).mono ?_
                  rintro e w2 ⟨rfl, rfl⟩
                  cases hh : hasS (partR c (partS N (toS A) c) a a) c
                  all_goals
                    have HH := Lib.hid hh
                    clear hh
                  · go_wp2
                    go_roundw
                    case rel =>
                      refine ⟨a + 1, by omega, by go_num, HKW.out, ?_⟩
                      rw [partR_succ, stepR, if_neg (by rw [HH.out]; simp)]
                      exact HWB.out
                    case measure => simp [intOf]; omega
                  · go_wp2
                    refine region_tail 15 (by kernel_rfl) (by kernel_rfl) ?_
                    simp only [List.take_succ_cons, List.take_zero, List.drop_succ_cons, List.drop_zero]
                    repeat still_step
                    refine wpStill_nil ?_
                    go_wp2
                    go_roundw
                    case rel =>
                      refine ⟨a + 1, by omega, by go_num, (HKW.out.setCell (Nat.le_of_lt HS.out) _).drew, ?_⟩
                      rw [partR_succ, stepR, if_pos HH.out]
                      exact ((HWB.out.setReach ha24 _).kept (Kept.refl _).drew)
                    case measure => simp [intOf]; omega
                · have ea : a = N := by omega
                  rw [ea] at HWB
                  clear ea
                  go_wp2
                  go_roundw
                  case rel =>
                    refine ⟨c + 1, by omega, by go_num, HKW.out, ?_⟩
                    rw [partS_succ]
                    exact HWB.out
                  case measure => simp [intOf]; omega
            · have ec : c = N := by omega
              go_wp2
              go_ret
              refine ⟨b, rfl, ?_, HKW.out⟩
              rw [ec] at HWB
              exact HWB.out
set_option maxRecDepth 100000
open Go Go.Proofs Go.RowKit
def OpenPost (o : Prob) (w : World) (e : Ending) (w' : World) : Prop :=
  ∃ b, e = .returned (.tuple #[.pointer (some ⟨b, 0, none⟩), .int .i64 0]) ∧ WebAt w' b (webOf o) ∧ Kept w w'
set_option maxHeartbeats 400000 in
theorem open_ok (o : Prob) (ao bo : Option Addr) (ca cb : Nat) (w : World) (ho : IsProb w o ao bo) (hv : chk o = 0) :
    Calls Try.prog 36 #[probV o ao ca bo cb] w (OpenPost o w) := by
  have HO := Lib.hid ho
  have HV := Lib.hid hv
  clear ho hv
  go_enter Try.func36, Try.ntmps36
  go_wp2_with fail
  obtain ⟨w0, e0, hk0, hb0, -⟩ := alloc_prob w o.N o.arcs o.near ao ca bo cb
  rw [e0]
  clear e0
  have HK0 := Lib.hid hk0
  have HB0 := Lib.hid hb0
  clear hk0 hb0
  refine (Check_any o ao bo ca cb w0 (HO.out.kept HK0.out)).mono ?_
  rintro e w1 ⟨rfl, hk1⟩
  have HB1 := Lib.hid (HB0.out.kept hk1)
  have HK1 := Lib.hid (HK0.out.trans hk1)
  clear hk1
  obtain ⟨q0, q1, q2⟩ := HB1.out
  rw [HV.out]
  go_wp2_with fail
  refine (woven_any o ao bo ca cb w1 (HO.out.kept HK1.out) HV.out).mono ?_
  rintro e w2 ⟨b, rfl, hw2, hk2⟩
  have HW2 := Lib.hid hw2
  have HK2 := Lib.hid (HK1.out.trans hk2)
  clear hw2 hk2
  go_wp2
  go_ret2
  exact ⟨b, rfl, HW2.out, HK2.out⟩
set_option maxHeartbeats 400000 in
theorem open_bad (o : Prob) (ao bo : Option Addr) (ca cb : Nat) (w : World) (ho : IsProb w o ao bo) (hv : chk o ≠ 0) :
    Calls Try.prog 36 #[probV o ao ca bo cb] w (Gives (.tuple #[.pointer none, .int .i64 (chk o)]) w) := by
  have HO := Lib.hid ho
  have hv' : (chk o != 0) = true := by simp [hv]
  clear ho hv
  go_enter Try.func36, Try.ntmps36
  go_wp2_with fail
  obtain ⟨w0, e0, hk0, hb0, -⟩ := alloc_prob w o.N o.arcs o.near ao ca bo cb
  rw [e0]
  clear e0
  have HK0 := Lib.hid hk0
  have HB0 := Lib.hid hb0
  clear hk0 hb0
  refine (Check_any o ao bo ca cb w0 (HO.out.kept HK0.out)).mono ?_
  rintro e w1 ⟨rfl, hk1⟩
  have HK1 := Lib.hid (HK0.out.trans hk1)
  clear hk1
  go_wp2
  go_ret2
  exact ⟨rfl, HK1.out⟩
set_option maxHeartbeats 400000 in
theorem is_any (b : Nat) (W : Web) (p : Int) (w : World) (hw : WebAt w b W) :
    Calls Try.prog 76 #[.pointer (some ⟨b, 0, none⟩), .int .i64 p] w (Tells (.bool (decide (0 ≤ p) && decide (p < W.n))) w) := by
  have hn0 := hw.n
  clear hw
  by_cases h1 : 0 ≤ p
  · go_enter Try.func76, Try.ntmps76
    go_wp2
    go_ret
    exact ⟨ret_bool (by simp [h1]), rfl⟩
  · go_enter Try.func76, Try.ntmps76
    go_wp2
    go_ret
    exact ⟨ret_bool (by simp; omega), rfl⟩
/-- Does a list have different patches? -/
def eachB (n : Nat) (l : List Int) : Bool := decide ((∀ p ∈ l, 0 ≤ p ∧ p < n) ∧ l.Nodup)
theorem eachB_range {n : Nat} {l : List Int} {k : Nat} (hk : k < l.length) (h : ¬ (0 ≤ l[k] ∧ l[k] < n)) : eachB n l = false := by
  unfold eachB
  rw [decide_eq_false_iff_not]
  exact fun h' => h (h'.1 _ (List.getElem_mem hk))
theorem eachB_twice {n : Nat} {l : List Int} {k : Nat} (hk : k < l.length) (h : l[k] ∈ l.take k) : eachB n l = false := by
  unfold eachB
  rw [decide_eq_false_iff_not]
  intro h'
  have h2 := h'.2
  rw [← List.take_append_drop k l, List.nodup_append] at h2
  exact h2.2.2 _ h _ (by rw [List.drop_eq_getElem_cons hk]; exact List.mem_cons_self) rfl
theorem nodup_take_succ {l : List Int} {k : Nat} (hk : k < l.length) (h : (l.take k).Nodup) (hn : l[k] ∉ l.take k) : (l.take (k + 1)).Nodup := by
  rw [List.take_succ_eq_append_getElem hk, List.nodup_append]
  exact ⟨h, by simp, fun a ha b hb => by simp at hb; subst hb; exact fun e => hn (e ▸ ha)⟩
theorem forall_take_succ {P : Int → Prop} {l : List Int} {k : Nat} (hk : k < l.length) (h : ∀ p ∈ l.take k, P p) (hn : P l[k]) : ∀ p ∈ l.take (k + 1), P p := by
  rw [List.take_succ_eq_append_getElem hk]
  intro p hp
  rw [List.mem_append] at hp
  rcases hp with hp | hp
  · exact h p hp
  · simp at hp; subst hp; exact hn
set_option maxHeartbeats 800000 in
theorem each_any (b : Nat) (W : Web) (l : List Int) (ao : Option Addr) (c : Nat) (w : World) (hw : WebAt w b W) (hn : W.n ≤ 24) (hl : Ints w ao l) (hll : l.length < 1152921504606846976) :
    Calls Try.prog 59 #[.pointer (some ⟨b, 0, none⟩), .slice ao l.length c] w (Tells (.bool (eachB W.n l)) w) := by
  have HW := Lib.hid hw
  clear hw
  go_enter Try.func59, Try.ntmps59
  go_wp2
  go_loop [5, 10] (fun s i => ∃ k : Nat, k ≤ l.length ∧ i = .int .i64 k ∧ s = .int .u32 (sI (setS (l.take k))) ∧ (∀ p ∈ l.take k, 0 ≤ p ∧ p < (W.n : Int)) ∧ (l.take k).Nodup) (fun _ i => l.length - (intOf i).toNat)
  case atStart => exact ⟨0, Nat.zero_le _, rfl, rfl, by simp, by simp⟩
  case round =>
    obtain ⟨k, hk, rfl, rfl, hr, hd⟩ := hrel
    have HR := Lib.hid hr
    have HD := Lib.hid hd
    clear hr hd
    by_cases hlt : k < l.length
    · obtain ⟨B, off, rfl, hc⟩ := hl k hlt
      have HL := Lib.hid hl
      clear hl
      by_cases hin : 0 ≤ l[k] ∧ l[k] < W.n
      · obtain ⟨hp0, hp1⟩ := hin
        obtain ⟨p, hp⟩ := Int.eq_ofNat_of_zero_le hp0
        have HP := Lib.hid hp
        rw [hp] at hp1 hc
        clear hp hp0
        have hb1 : (decide ((0 : Int) ≤ (p : Int)) && decide ((p : Int) < (W.n : Int))) = true := by simp; omega
        go_wp2_with fail
        refine (is_any b W p _ HW.out).mono ?_
        rintro e w2 ⟨rfl, rfl⟩
        rw [hb1]
        clear hb1
        go_wp2_with fail
        refine (has_any _ p _ (by omega)).mono ?_
        rintro e w2 ⟨rfl, rfl⟩
        cases hh : hasS (setS (l.take k)) p
        all_goals
          have HH := Lib.hid hh
          clear hh
        · go_wp2_with fail
          refine (one_any p _ (by omega)).mono ?_
          rintro e w2 ⟨rfl, rfl⟩
          go_wp2
          go_round
          case rel =>
            have hnot : l[k] ∉ l.take k := by
              have h := HH.out
              rw [hasS_setS _ (fun q hq => by have := HR.out q hq; omega)] at h
              rw [HP.out]; simpa using h
            exact ⟨k + 1, by omega, by go_num, by rw [setS_take l k hlt, HP.out]; rfl, forall_take_succ hlt HR.out (by rw [HP.out]; omega), nodup_take_succ hlt HD.out hnot⟩
          case measure => simp [intOf]; omega
        · go_wp2
          go_ret
          refine ⟨ret_bool (Eq.symm (eachB_twice hlt ?_)), rfl⟩
          have h := HH.out
          rw [hasS_setS _ (fun q hq => by have := HR.out q hq; omega)] at h
          rw [HP.out]; simpa using h
      · have hb1 : (decide ((0 : Int) ≤ l[k]) && decide (l[k] < (W.n : Int))) = false := by simp; omega
        have HIN := Lib.hid hin
        clear hin
        go_wp2_with fail
        refine (is_any b W l[k] _ HW.out).mono ?_
        rintro e w2 ⟨rfl, rfl⟩
        rw [hb1]
        clear hb1
        go_wp2
        go_ret
        exact ⟨ret_bool (Eq.symm (eachB_range hlt HIN.out)), rfl⟩
    · have ek : l.take k = l := List.take_of_length_le (by omega)
      rw [ek] at HR HD
      clear ek hl
      go_wp2
      go_ret
      refine ⟨ret_bool ?_, rfl⟩
      unfold eachB
      rw [Eq.comm, decide_eq_true_eq]
      exact ⟨HR.out, HD.out⟩
/-- Is a list of different patches one in which no arc leads back? -/
def orderedB (W : Web) (l : List Int) : Bool :=
  decide (l.length = W.n) && eachB W.n l && (List.range l.length).all fun i => W.to (l.getD i 0).toNat &&& setS (l.take i) == 0#32
theorem orderedB_back {W : Web} {l : List Int} {k : Nat} (hk : k < l.length) (h : ¬ (W.to l[k].toNat &&& setS (l.take k) = 0#32)) : orderedB W l = false := by
  unfold orderedB
  have : ((List.range l.length).all fun i => W.to (l.getD i 0).toNat &&& setS (l.take i) == 0#32) = false := by
    rw [List.all_eq_false]
    refine ⟨k, List.mem_range.2 hk, ?_⟩
    rw [List.getD_eq_getElem?_getD, List.getElem?_eq_getElem hk]
    simpa using h
  rw [this, Bool.and_false]
set_option maxHeartbeats 1200000 in
theorem ordered_any (b : Nat) (W : Web) (l : List Int) (ao : Option Addr) (c : Nat) (w : World) (hw : WebAt w b W) (hn : W.n ≤ 24) (hl : Ints w ao l) (hll : l.length < 1152921504606846976) :
    Calls Try.prog 38 #[.pointer (some ⟨b, 0, none⟩), .slice ao l.length c] w (Tells (.bool (orderedB W l)) w) := by
  have HW := Lib.hid hw
  have HL := Lib.hid hl
  have hn0 := hw.n
  clear hw hl
  by_cases hlen : l.length = W.n
  · have hb0 : ((l.length : Int) != (W.n : Int)) = false := by simp [hlen]
    have HLEN := Lib.hid hlen
    clear hlen
    go_enter Try.func38, Try.ntmps38
    go_wp2_with fail
    refine (each_any b W l ao c _ HW.out hn HL.out hll).mono ?_
    rintro e w2 ⟨rfl, rfl⟩
    cases he : eachB W.n l
    all_goals
      have HE := Lib.hid he
      clear he hn0 hb0
    · go_wp2
      go_ret
      exact ⟨ret_bool (by simp [orderedB, HE.out]), rfl⟩
    · have hin : ∀ p ∈ l, 0 ≤ p ∧ p < (W.n : Int) := by have := HE.out; unfold eachB at this; exact (of_decide_eq_true this).1
      have HIN := Lib.hid hin
      clear hin
      go_wp2
      go_loop [5, 23] (fun s i => ∃ k : Nat, k ≤ l.length ∧ i = .int .i64 k ∧ s = .int .u32 (sI (setS (l.take k))) ∧ (∀ i, (h : i < l.length) → i < k → W.to l[i].toNat &&& setS (l.take i) = 0#32)) (fun _ i => l.length - (intOf i).toNat)
      case atStart => exact ⟨0, Nat.zero_le _, rfl, rfl, fun i _ h => by omega⟩
      case round =>
        obtain ⟨k, hk, rfl, rfl, hr⟩ := hrel
        have HR := Lib.hid hr
        clear hr
        by_cases hlt : k < l.length
        · obtain ⟨B, off, rfl, hc⟩ := HL.out k hlt
          obtain ⟨hp0, hp1⟩ := HIN.out l[k] (List.getElem_mem hlt)
          obtain ⟨p, hp⟩ := Int.eq_ofNat_of_zero_le hp0
          have HP := Lib.hid hp
          rw [hp] at hp1 hc
          clear hp hp0
          have hpi : (p : Int) < 24 := by omega
          have hto := HW.out.to p (by omega)
          by_cases hz : W.to p &&& setS (l.take k) = 0#32
          · have hb1 : (sI (W.to p &&& setS (l.take k)) != 0) = false := by simp [sI_eq_zero, hz]
            have HZ := Lib.hid hz
            clear hz
            go_wp2_with fail
            refine (one_any p _ (by omega)).mono ?_
            rintro e w2 ⟨rfl, rfl⟩
            go_wp2
            go_round
            case rel =>
              refine ⟨k + 1, by omega, by go_num, by rw [setS_take l k hlt, HP.out]; rfl, fun i h hi => ?_⟩
              rcases Nat.lt_or_ge i k with h' | h'
              · exact HR.out i h h'
              · obtain rfl : i = k := by omega
                rw [HP.out]; exact HZ.out
            case measure => simp [intOf]; omega
          · have hb1 : (sI (W.to p &&& setS (l.take k)) != 0) = true := by simp [sI_eq_zero, hz]
            have HZ := Lib.hid hz
            clear hz
            go_wp2
            go_ret
            exact ⟨ret_bool (Eq.symm (orderedB_back hlt (by rw [HP.out]; exact HZ.out))), rfl⟩
        · go_wp2
          go_ret
          refine ⟨ret_bool ?_, rfl⟩
          unfold orderedB
          rw [HE.out, Eq.comm, Bool.and_true, Bool.and_eq_true]
          refine ⟨decide_eq_true HLEN.out, ?_⟩
          rw [List.all_eq_true]
          intro i hi
          have hi' := List.mem_range.1 hi
          rw [List.getD_eq_getElem?_getD, List.getElem?_eq_getElem hi']
          simpa using HR.out i hi' (by omega)
  · have hb0 : ((l.length : Int) != (W.n : Int)) = true := by simp; omega
    have HLEN := Lib.hid hlen
    clear hlen
    go_enter Try.func38, Try.ntmps38
    go_wp2
    go_ret
    exact ⟨ret_bool (by simp [orderedB, HLEN.out]), rfl⟩
set_option maxRecDepth 100000
open Go Go.Proofs Go.RowKit
structure Arr (w : World) (g : Nat) (xs : List Int) : Prop where
  lt : g < w.heap.size
  get : ∀ i, (h : i < xs.length) → w.cell? ⟨g, i, none⟩ = some (.int .i64 xs[i])
  free : ∀ o, w.frozen? ⟨g, o, none⟩ = false
theorem Arr.kept {w w' : World} {g : Nat} {xs : List Int} (h : Arr w g xs) (hk : Kept w w') : Arr w' g xs :=
  ⟨Nat.lt_of_lt_of_le h.lt hk.size, fun i hi => hk.cell (h.get i hi), fun o => (hk.cells.2 g o h.lt).trans (h.free o)⟩
theorem Arr.setOther {w : World} {g b o : Nat} {xs : List Int} {u : Value} (h : Arr w g xs) (hne : g ≠ b) : Arr (w.setCell ⟨b, o, none⟩ u) g xs :=
  ⟨by simpa [World.setCell] using h.lt, fun i hi => cell_set_block (h.get i hi) hne, fun o => by rw [World.frozen?_setCell]; exact h.free o⟩
theorem Arr.set {w : World} {g i : Nat} {xs : List Int} (h : Arr w g xs) (x : Int) : Arr (w.setCell ⟨g, i, none⟩ (.int .i64 x)) g (xs.set i x) :=
  ⟨by simpa [World.setCell] using h.lt, fun j hj => by
    rw [cell_set_or (h.get j (by simpa using hj)), List.getElem_set]
    by_cases e : j = i
    · simp [e]
    · rw [if_neg e, if_neg (Ne.symm e)], fun o => by rw [World.frozen?_setCell]; exact h.free o⟩
theorem Arr.ints {w : World} {g : Nat} {xs : List Int} (h : Arr w g xs) : Ints w (some ⟨g, 0, none⟩) xs := fun i hi => ⟨g, 0, rfl, by rw [Nat.zero_add]; exact h.get i hi⟩
theorem info3 : (Try.prog.info? 3).map (fun i => (i.zero, i.size, i.bytes)) = some (some (.int .i64 0), 1, 8) := by kernel_rfl
theorem kept_of_grown {w w' : World} (h : w.grownBy w' none) : Kept w w' :=
  ⟨h.os, h.tape, h.output, h.size, fun k hk => h.block k hk (by simp)⟩
/-- make([]int, n). -/
theorem make_ints {ops : Array Oper} {rest : List Oper} {o : Oper} {a : Act} {Q : Exit → Act → World → Prop} (w : World)
    (hg : o.guard = none) (l c : Operand) (hop : o.op = Op.makeSlice 25 l c) (n : Nat) (hl : a.eval l = .int .i64 n) (hc : a.eval c = .int .i64 n) (hn : n < 1099511627776)
    (hK : ∀ w', Arr w' w.heap.size (List.replicate n 0) → Kept w w' → wpList Try.prog ops Q rest (a.put o.dst (.slice (some ⟨w.heap.size, 0, none⟩) n n)) w') :
    wpList Try.prog ops Q (o :: rest) a w := by
  obtain ⟨i0, hi, hz0, hz1, hz2⟩ := info_parts info3
  refine wpList_make_full w hg l c 25 hop w.heap.size 3 i0 (.int .i64 0) 1 Try.underlying25 hi hz0 hz1 .i64 .i64 n n n hl hc rfl rfl (by rw [hz2]; omega) (by unfold maxLen; omega) (Nat.le_refl _) ?_
  intro w' hown hgrow
  refine hK w' ?_ (kept_of_grown hgrow)
  rcases hown.2 with ⟨h, _⟩ | ⟨g, cap, cur, hv, hbg, hgg, hnc, hcm, hcs, htake⟩
  · cases h
  · simp only [Value.slice.injEq, Option.some.injEq, Addr.mk.injEq] at hv
    obtain ⟨⟨rfl, -, -⟩, -, rfl⟩ := hv
    refine ⟨(Array.getElem?_eq_some_iff.1 hgg).1, fun i h => ?_, fun o => frozen_of_row _ _ _ _ _ hgg⟩
    rw [cell_of_row _ _ _ _ _ _ hgg]
    have : cur.toList[i]? = some (.int .i64 0) := by
      have hlt : i < n * 1 := by simpa using h
      have e : (cur.toList.take (n * 1))[i]? = cur.toList[i]? := by rw [List.getElem?_take, if_pos hlt]
      rw [← e, htake]
      simp [madeCells]
      exact ⟨i, List.getElem?_range (by simpa using h), by simp [Value.cells, Nat.mod_one]⟩
    simpa using this
def dayFirst (l : List Int) (i : Nat) (out : List Int) : List Int :=
  if 0 < i then out.set (l.getD i 0).toNat (out.getD (l.getD (i - 1) 0).toNat 0 + 1) else out
def dayNear (W : Web) (dry : Int) (p : Nat) (out : List Int) (q : Int) : List Int :=
  if hasS (W.near p) q.toNat then out.set p (max (out.getD p 0) (out.getD q.toNat 0 + dry + 1)) else out
def dayStep (W : Web) (dry : Int) (l : List Int) (out : List Int) (i : Nat) : List Int :=
  (l.take i).foldl (dayNear W dry (l.getD i 0).toNat) (dayFirst l i out)
def daysPart (W : Web) (dry : Int) (l : List Int) (k : Nat) : List Int := (List.range k).foldl (dayStep W dry l) (List.replicate W.n 0)
/-- The earliest days of an order. -/
def daysOf (W : Web) (dry : Int) (l : List Int) : List Int := daysPart W dry l l.length
theorem daysPart_succ (W : Web) (dry : Int) (l : List Int) (k : Nat) : daysPart W dry l (k + 1) = dayStep W dry l (daysPart W dry l k) k := by
  simp [daysPart, List.range_succ]
/-- A row of n numbers from 0 to B. -/
def Row (n : Nat) (B : Int) (out : List Int) : Prop := out.length = n ∧ ∀ x ∈ out, 0 ≤ x ∧ x ≤ B
theorem Row.set {n : Nat} {B : Int} {out : List Int} (h : Row n B out) (p : Nat) {x : Int} (hx : 0 ≤ x ∧ x ≤ B) : Row n B (out.set p x) :=
  ⟨by simpa using h.1, fun y hy => by rcases List.mem_or_eq_of_mem_set hy with hy | rfl; exact h.2 y hy; exact hx⟩
theorem Row.mono {n : Nat} {B B' : Int} {out : List Int} (h : Row n B out) (hB : B ≤ B') : Row n B' out := ⟨h.1, fun x hx => ⟨(h.2 x hx).1, Int.le_trans (h.2 x hx).2 hB⟩⟩
theorem Row.getD {n : Nat} {B : Int} {out : List Int} (h : Row n B out) (hB : 0 ≤ B) (p : Nat) : 0 ≤ out.getD p 0 ∧ out.getD p 0 ≤ B := by
  rw [List.getD_eq_getElem?_getD]
  by_cases hp : p < out.length
  · rw [List.getElem?_eq_getElem hp]; exact h.2 _ (List.getElem_mem hp)
  · rw [List.getElem?_eq_none (by omega)]; simp; exact hB
theorem Row.first {n : Nat} {B : Int} {out : List Int} (h : Row n B out) (hB : 0 ≤ B) (l : List Int) (i : Nat) : Row n (B + 1) (dayFirst l i out) := by
  unfold dayFirst
  split
  · have := h.getD hB (l.getD (i - 1) 0).toNat
    exact (h.mono (by omega)).set _ (by omega)
  · exact h.mono (by omega)
def DaysPost (n : Nat) (xs : List Int) (w : World) (e : Ending) (w' : World) : Prop :=
  ∃ g, e = .returned (.slice (some ⟨g, 0, none⟩) n n) ∧ w.heap.size ≤ g ∧ Arr w' g xs ∧ Kept w w'
set_option maxHeartbeats 2000000 in
theorem days_any (b : Nat) (W : Web) (dry : Int) (l : List Int) (ao : Option Addr) (c : Nat) (w : World) (hw : WebAt w b W) (hn : W.n ≤ 24) (hl : Ints w ao l) (hll : l.length ≤ 24) (hlc : l.length ≤ c)
    (hin : ∀ p ∈ l, 0 ≤ p ∧ p < (W.n : Int)) (hd0 : 0 ≤ dry) (hd1 : dry ≤ 30) :
    Calls Try.prog 39 #[.pointer (some ⟨b, 0, none⟩), .int .i64 dry, .slice ao l.length c] w (DaysPost W.n (daysOf W dry l) w) := by
  have HW := Lib.hid hw
  have HL := Lib.hid hl
  have HIN := Lib.hid hin
  have hn0 := hw.n
  clear hw hl hin
  go_enter Try.func39, Try.ntmps39
  go_wp2_with (at_make; refine make_ints _ rfl _ _ rfl W.n rfl rfl (by omega) ?_; intro w1 ha1 hk1)
  have HA1 := Lib.hid ha1
  have HK1 := Lib.hid hk1
  clear ha1 hk1 hn0
  obtain ⟨g, hg⟩ : ∃ g, w.heap.size = g := ⟨_, rfl⟩
  rw [hg] at HA1 ⊢
  have HG := Lib.hid (Nat.le_of_eq hg)
  clear hg
  have hrow0 : Row W.n (1000 * ((0 : Nat) : Int)) (List.replicate W.n 0) := ⟨by simp, fun x hx => by have := List.eq_of_mem_replicate hx; omega⟩
  have HR0 := Lib.hid hrow0
  clear hrow0
  go_loopw [19] (fun i wr => ∃ k : Nat, k ≤ l.length ∧ i = .int .i64 k ∧ Kept w wr ∧ Arr wr g (daysPart W dry l k) ∧ Row W.n (1000 * (k : Int)) (daysPart W dry l k)) (fun i _ => l.length - (intOf i).toNat)
  case atStart => exact ⟨0, Nat.zero_le _, rfl, HK1.out, HA1.out, HR0.out⟩
  case round =>
    clear HK1 HA1 HR0
    obtain ⟨k, hk, rfl, hkw, harr, hrow⟩ := hrel
    have HKW := Lib.hid hkw
    by_cases hlt : k < l.length
    · obtain ⟨B, off, rfl, hc⟩ := (HL.out.kept hkw) k hlt
      obtain ⟨hp0, hp1⟩ := HIN.out l[k] (List.getElem_mem hlt)
      obtain ⟨p, hp⟩ := Int.eq_ofNat_of_zero_le hp0
      have hgp : l.getD k 0 = (p : Int) := by rw [List.getD_eq_getElem?_getD, List.getElem?_eq_getElem hlt, ← hp]; rfl
      have HGP := Lib.hid hgp
      rw [hp] at hp1 hc
      clear hp hp0 hgp hkw
      generalize hout : daysPart W dry l k = out at harr hrow
      have HOUT := Lib.hid hout
      have HROW := Lib.hid hrow
      have HARR := Lib.hid harr
      have hlen := hrow.1
      clear hout
      have hkc : k ≤ c := by omega
      rcases Nat.eq_zero_or_pos k with hk0 | hk0
      case' inl =>
        have HA2 : Hid (Arr wr g (dayFirst l k out)) := by unfold dayFirst; rw [if_neg (by omega)]; exact harr
        have HK2 := HKW
        have hkd : decide (0 < k) = false := by simp; omega
        clear harr hrow hk0
        go_wp2
        clear hkd hc
      case' inr =>
        obtain ⟨B', off', e', hc'⟩ := (HL.out.kept HKW.out) (k - 1) (by omega)
        simp only [Option.some.injEq, Addr.mk.injEq] at e'
        obtain ⟨rfl, rfl, -⟩ := e'
        obtain ⟨hq0, hq1⟩ := HIN.out l[k - 1] (List.getElem_mem (by omega))
        obtain ⟨q, hq⟩ := Int.eq_ofNat_of_zero_le hq0
        have hgq : l.getD (k - 1) 0 = (q : Int) := by rw [List.getD_eq_getElem?_getD, List.getElem?_eq_getElem (by omega), ← hq]; rfl
        have HGQ := Lib.hid hgq
        rw [hq] at hq1 hc'
        clear hq hq0 hgq
        have hcq := harr.get q (by omega)
        have hcp := harr.get p (by omega)
        have hfr := harr.free p
        have hb1 := hrow.2 out[q] (List.getElem_mem (by omega))
        have hdq : out.getD q 0 = out[q] := by rw [List.getD_eq_getElem?_getD, List.getElem?_eq_getElem]; rfl
        generalize out[q] = d at hcq hb1 hdq
        have HDQ := Lib.hid hdq
        obtain ⟨hb1, hb2⟩ := hb1
        have hd3 : d ≤ 100000 := by omega
        have hpi : (p : Int) < (W.n : Int) := hp1
        have hkd : decide (0 < k) = true := by simp; omega
        have HK0 := Lib.hid hk0
        clear harr hrow hb2 hdq
        go_wp2
        have HA2 : Hid (Arr (wr.setCell ⟨g, p, none⟩ (.int .i64 (d + 1))) g (dayFirst l k out)) := by
          unfold dayFirst
          rw [if_pos HK0.out, HGP.out, HGQ.out, Int.toNat_natCast, Int.toNat_natCast, HDQ.out]
          exact HARR.out.set _
        have HK2 := Lib.hid (HKW.out.setCell (p := ⟨g, p, none⟩) HG.out (.int .i64 (d + 1)))
        generalize (wr.setCell ⟨g, p, none⟩ (.int .i64 (d + 1))) = w2 at *
        clear hc hc' hcq hcp hfr hb1 hd3 hpi hkd hk0 HK0 HDQ HGQ hq1
      all_goals
        have HR2 := Lib.hid (HROW.out.first (by omega) l k)
        generalize hfirst : dayFirst l k out = f at *
        have HF := Lib.hid hfirst
        clear hfirst HKW HARR HROW
        go_loopw [42] (fun i wr => ∃ m : Nat, m ≤ k ∧ i = .int .i64 m ∧ Kept w wr ∧ Arr wr g ((l.take m).foldl (dayNear W dry p) f) ∧ Row W.n (1000 * (k : Int) + 1 + 31 * (m : Int)) ((l.take m).foldl (dayNear W dry p) f)) (fun i _ => k - (intOf i).toNat)
        case atStart => exact ⟨0, Nat.zero_le _, rfl, HK2.out, HA2.out, HR2.out.mono (by omega)⟩
        case round =>
          clear HK2 HA2 HR2
          obtain ⟨m, hm, rfl, hkw, harr, hrow⟩ := hrel
          have HKW := Lib.hid hkw
          clear hkw
          by_cases hltm : m < k
          · obtain ⟨B', off', e', hc'⟩ := (HL.out.kept HKW.out) m (by omega)
            simp only [Option.some.injEq, Addr.mk.injEq] at e'
            obtain ⟨rfl, rfl, -⟩ := e'
            obtain ⟨hq0, hq1⟩ := HIN.out l[m] (List.getElem_mem (by omega))
            obtain ⟨q, hq⟩ := Int.eq_ofNat_of_zero_le hq0
            have hstep : (l.take (m + 1)).foldl (dayNear W dry p) f = dayNear W dry p ((l.take m).foldl (dayNear W dry p) f) l[m] := by
              rw [List.take_succ_eq_append_getElem (by omega), List.foldl_append]; rfl
            have HST := Lib.hid hstep
            rw [hq] at hq1 hc' HST
            clear hq hq0 hstep
            generalize hcur : (l.take m).foldl (dayNear W dry p) f = cur at harr hrow HST
            have HCUR := Lib.hid hcur
            have HROW := Lib.hid hrow
            have HARR := Lib.hid harr
            have hlc := hrow.1
            have hpn : p < W.n := by omega
            have hqn : q < W.n := by omega
            have hcp := harr.get p (by omega)
            have hcq := harr.get q (by omega)
            have hfr := harr.free p
            have hbp := hrow.2 cur[p] (List.getElem_mem (by omega))
            have hbq := hrow.2 cur[q] (List.getElem_mem (by omega))
            have hdp : cur.getD p 0 = cur[p] := by rw [List.getD_eq_getElem?_getD, List.getElem?_eq_getElem]; rfl
            have hdq : cur.getD q 0 = cur[q] := by rw [List.getD_eq_getElem?_getD, List.getElem?_eq_getElem]; rfl
            generalize cur[p] = dp at hcp hbp hdp
            generalize cur[q] = dq at hcq hbq hdq
            have HDP := Lib.hid hdp
            have HDQ := Lib.hid hdq
            obtain ⟨hbp1, hbp2⟩ := hbp
            obtain ⟨hbq1, hbq2⟩ := hbq
            have hdp3 : dp ≤ 100000 := by omega
            have hdq3 : dq ≤ 100000 := by omega
            have HBD := Lib.hid (And.intro hbp2 hbq2)
            have hnr := (HW.out.kept HKW.out).near p (by omega)
            have hp24 : (p : Int) < 24 := by omega
            clear hcur hrow harr hlc hbp2 hbq2 hdp hdq
            go_wp2_with fail
            refine (has_any _ q _ (by omega)).mono ?_
            rintro e w3 ⟨rfl, rfl⟩
            cases hh : hasS (W.near p) q
            all_goals
              have HH := Lib.hid hh
              clear hh
            · go_wp2
              go_roundw
              case rel =>
                have e : dayNear W dry p cur (q : Int) = cur := by unfold dayNear; rw [Int.toNat_natCast, HH.out]; rfl
                refine ⟨m + 1, by omega, by go_num, HKW.out, ?_, ?_⟩
                · rw [HST.out, e]; exact HARR.out
                · rw [HST.out, e]; exact HROW.out.mono (by omega)
              case measure => simp [intOf]; omega
            · have hw1 : IntKind.i64.wrap (dq + dry) = dq + dry := IntWalk.i64_in _ (by omega)
              have hw2 : IntKind.i64.wrap (dq + dry + 1) = dq + dry + 1 := IntWalk.i64_in _ (by omega)
              go_wp2
              refine region_tail 14 (by kernel_rfl) (by kernel_rfl) ?_
              simp only [List.take_succ_cons, List.take_zero, List.drop_succ_cons, List.drop_zero]
              repeat still_step
              refine wpStill_nil ?_
              have e : dayNear W dry p cur (q : Int) = cur.set p (max dp (dq + dry + 1)) := by unfold dayNear; rw [Int.toNat_natCast, HH.out, HDP.out, HDQ.out]; rfl
              have HE := Lib.hid e
              clear e
              go_wp2
              go_roundw
              case rel =>
                obtain ⟨hb3, hb4⟩ := HBD.out
                have em : (if dp < dq + dry + 1 then dq + dry + 1 else dp) = max dp (dq + dry + 1) := by split <;> omega
                refine ⟨m + 1, by omega, by go_num, (HKW.out.setCell (p := ⟨g, p, none⟩) HG.out _).drew, ?_, ?_⟩
                · rw [HST.out, HE.out, em]; exact (HARR.out.set _).kept (Kept.refl _).drew
                · rw [HST.out, HE.out]; exact (HROW.out.mono (by omega)).set _ (by omega)
              case measure => simp [intOf]; omega
          · have em : m = k := by omega
            rw [em] at harr hrow
            have hfin : (l.take k).foldl (dayNear W dry p) f = daysPart W dry l (k + 1) := by
              rw [daysPart_succ, dayStep, HOUT.out, HF.out, HGP.out, Int.toNat_natCast]
            rw [hfin] at harr hrow
            have HARR := Lib.hid harr
            have HROW := Lib.hid hrow
            clear em hfin harr hrow
            go_wp2
            go_roundw
            case rel => exact ⟨k + 1, by omega, by go_num, HKW.out, HARR.out, HROW.out.mono (by omega)⟩
            case measure => simp [intOf]; omega
    · have ek : k = l.length := by omega
      rw [ek] at harr
      have HARR := Lib.hid harr
      clear harr hrow hkw ek
      go_wp2
      go_ret
      exact ⟨g, rfl, HG.out, HARR.out, HKW.out⟩
end Go.Proofs.Ytgmodcipbklejaa
