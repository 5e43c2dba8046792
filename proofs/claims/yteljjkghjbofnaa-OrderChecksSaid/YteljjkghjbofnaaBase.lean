/- Base of the proofs of this seat: words for memory (what lies where, what is kept), sets of patches as bit vectors, and the small laws on both. No program is walked here. -/
import Derived.Test.YteljjkghjbofnaaProg
import Derived.WalkKit
import Derived.Lib.Hide
import Derived.WalkSpells
import Derived.BigQuiet
import Derived.Deep.QuietTactic
import Derived.StillTailTactics
namespace Go.Proofs.Yteljjkghjbofnaa
open Go Go.Proofs Go.RowKit

/-! ### What is kept -/

/-- Whatever lay in w lies in w' as it lay. -/
def Kept (w w' : World) : Prop := Below w.heap.size w w'

theorem Kept.refl (w : World) : Kept w w := Below.refl _ _
theorem Kept.trans {a b c : World} (h : Kept a b) (k : Kept b c) : Kept a c := Below.trans h (Below.mono k h.size)
theorem Kept.drew {a b : World} (h : Kept a b) : Kept a b.drew := Below.drew h
theorem Kept.alloc {a b : World} (h : Kept a b) (o : Obj) : Kept a (b.alloc o) := Below.alloc h h.size o
theorem Kept.setCell {a b : World} (h : Kept a b) {p : Addr} (hp : a.heap.size ≤ p.block) (u : Value) : Kept a (b.setCell p u) := Below.setCell h hp u
theorem Kept.size {a b : World} (h : Kept a b) : a.heap.size ≤ b.heap.size := Below.size h
theorem Kept.below {a b : World} (h : Kept a b) : Below a.heap.size a b := h
theorem Kept.cells {w w' : World} (h : Kept w w') :
    (∀ b o, b < w.heap.size → w'.cell? ⟨b, o, none⟩ = w.cell? ⟨b, o, none⟩) ∧ (∀ b o, b < w.heap.size → w'.frozen? ⟨b, o, none⟩ = w.frozen? ⟨b, o, none⟩) :=
  ⟨fun b o hb => Below.cell (p := ⟨b, o, none⟩) h hb, fun b o hb => Below.frozen (p := ⟨b, o, none⟩) h hb⟩

theorem lt_of_cell {w : World} {b o : Nat} {v : Value} (h : w.cell? ⟨b, o, none⟩ = some v) : b < w.heap.size :=
  World.block_lt_of_cell? w ⟨b, o, none⟩ h
theorem Kept.cell {w w' : World} (h : Kept w w') {b o : Nat} {v : Value} (hc : w.cell? ⟨b, o, none⟩ = some v) : w'.cell? ⟨b, o, none⟩ = some v :=
  (h.cells.1 b o (lt_of_cell hc)).trans hc

/-- What a call hands back where it may make memory of its own and turns nothing. -/
def Gives (v : Value) (w : World) (e : Ending) (w' : World) : Prop := e = .returned v ∧ Kept w w'
/-- What a call hands back that makes no memory. -/
def Tells (v : Value) (w : World) (e : Ending) (w' : World) : Prop := e = .returned v ∧ w = w'

theorem Tells.gives {v : Value} {w w' : World} {e : Ending} (h : Tells v w e w') : Gives v w e w' := ⟨h.1, h.2 ▸ Kept.refl _⟩

theorem Calls_still {P : Program} {f : FuncId} {args : Array Value} {w : World} {v : Value} (h : Calls P f args w (Tells v w)) :
    Calls P f args w (fun e w' => e = .returned v ∧ w' = w) := h.mono fun _ _ h => ⟨h.1, h.2.symm⟩

/-- A region that draws its order, whose first n operations only read, and whose others come behind them one after the other. -/
theorem region_tail {P : Program} {id : Nat} {Q : Exit → Act → World → Prop} {a : Act} {w : World} {l : List Oper} (n : Nat) (hm : P.follows .mixedOrders = true) (hB : Region.lexTailB .any l.toArray n = true)
    (h : wpStill P l.toArray w.drew (fun a' => wpList P l.toArray Q (l.drop n) a' w.drew) (l.take n) a) : (Code.region id l.toArray true).wp P Q a w :=
  wp_region_still_tail n hm hB h

theorem ret_bool {a b : Bool} (h : a = b) : Ending.returned (.bool a) = .returned (.bool b) := by rw [h]
theorem ret_int {k : IntKind} {a b : Int} (h : a = b) : Ending.returned (.int k a) = .returned (.int k b) := by rw [h]

/-! ### Lists in memory -/

/-- Behind ao lie the numbers l. -/
def Ints (w : World) (ao : Option Addr) (l : List Int) : Prop :=
  ∀ i, (h : i < l.length) → ∃ b off, ao = some ⟨b, off, none⟩ ∧ w.cell? ⟨b, off + i, none⟩ = some (.int .i64 l[i])
/-- Behind ao lie the pairs l. -/
def Pairs (w : World) (ao : Option Addr) (l : List (Int × Int)) : Prop :=
  ∀ i, (h : i < l.length) → ∃ b off, ao = some ⟨b, off, none⟩ ∧ w.cell? ⟨b, off + i * 2, none⟩ = some (.int .i64 l[i].1) ∧ w.cell? ⟨b, off + i * 2 + 1, none⟩ = some (.int .i64 l[i].2)

theorem Ints.kept {w w' : World} {ao : Option Addr} {l : List Int} (h : Ints w ao l) (hk : Kept w w') : Ints w' ao l := fun i hi =>
  let ⟨b, off, e, hc⟩ := h i hi
  ⟨b, off, e, hk.cell hc⟩
theorem Pairs.kept {w w' : World} {ao : Option Addr} {l : List (Int × Int)} (h : Pairs w ao l) (hk : Kept w w') : Pairs w' ao l := fun i hi =>
  let ⟨b, off, e, hc, hd⟩ := h i hi
  ⟨b, off, e, hk.cell hc, hk.cell hd⟩
theorem Ints.nil (w : World) (ao : Option Addr) : Ints w ao [] := fun i h => absurd h (by simp)
theorem Pairs.nil (w : World) (ao : Option Addr) : Pairs w ao [] := fun i h => absurd h (by simp)
theorem Ints.take {w : World} {ao : Option Addr} {l : List Int} (h : Ints w ao l) (k : Nat) : Ints w ao (l.take k) := fun i hi => by
  obtain ⟨b, off, e, hc⟩ := h i (by simp at hi; omega)
  exact ⟨b, off, e, by rw [hc]; simp⟩

/-! ### Sets of patches -/

abbrev S := BitVec 32
/-- The number that a set is. -/
def sI (s : S) : Int := (s.toNat : Int)
/-- The set of one patch. -/
def oneS (p : Nat) : S := 1#32 <<< p
/-- Is p in s? -/
def hasS (s : S) (p : Nat) : Bool := s.getLsbD p

theorem sI_nonneg (s : S) : 0 ≤ sI s := by unfold sI; omega
theorem sI_lt (s : S) : sI s < 4294967296 := by unfold sI; have := s.isLt; omega
theorem sI_zero : sI 0#32 = 0 := rfl
theorem sI_inj {a b : S} : sI a = sI b ↔ a = b := by
  unfold sI; constructor
  · intro h; exact BitVec.eq_of_toNat_eq (by omega)
  · rintro rfl; rfl
theorem sI_eq_zero {a : S} : sI a = 0 ↔ a = 0#32 := by rw [← sI_zero, sI_inj]
theorem wrap_sI (s : S) : IntKind.u32.wrap (sI s) = sI s := by rw [IntKind.wrap_u32]; have := sI_nonneg s; have := sI_lt s; omega
theorem ofInt_sI (s : S) : BitVec.ofInt 32 (sI s) = s := by
  unfold sI; rw [BitVec.ofInt_natCast]; simp
@[go_sem] theorem bits_or_sI (a b : S) : bits .or .u32 (sI a) (sI b) = sI (a ||| b) := by
  show IntKind.u32.wrap ((BitVec.ofInt 32 (sI a) ||| BitVec.ofInt 32 (sI b)).toNat : Int) = _
  rw [ofInt_sI, ofInt_sI]; exact wrap_sI _
@[go_sem] theorem bits_and_sI (a b : S) : bits .and .u32 (sI a) (sI b) = sI (a &&& b) := by
  show IntKind.u32.wrap ((BitVec.ofInt 32 (sI a) &&& BitVec.ofInt 32 (sI b)).toNat : Int) = _
  rw [ofInt_sI, ofInt_sI]; exact wrap_sI _
@[go_sem] theorem bits_andNot_sI (a b : S) : bits .andNot .u32 (sI a) (sI b) = sI (a &&& ~~~b) := by
  show IntKind.u32.wrap ((BitVec.ofInt 32 (sI a) &&& ~~~(BitVec.ofInt 32 (sI b))).toNat : Int) = _
  rw [ofInt_sI, ofInt_sI]; exact wrap_sI _

@[simp] theorem hasS_zero (x : Nat) : hasS 0#32 x = false := by simp [hasS]
@[simp] theorem hasS_or (a b : S) (x : Nat) : hasS (a ||| b) x = (hasS a x || hasS b x) := by simp [hasS]
@[simp] theorem hasS_and (a b : S) (x : Nat) : hasS (a &&& b) x = (hasS a x && hasS b x) := by simp [hasS]
theorem hasS_one (p x : Nat) (hp : p < 32) : hasS (oneS p) x = decide (x = p) := by
  unfold hasS oneS
  rw [BitVec.getLsbD_shiftLeft]
  by_cases h : x = p
  · subst h; simp [hp]
  · simp only [BitVec.getLsbD_one, h, decide_false]
    by_cases h2 : x < p
    · simp [h2]
    · have : ¬ (x - p = 0) := by omega
      simp [this]
theorem hasS_ext {a b : S} (h : ∀ x, x < 32 → hasS a x = hasS b x) : a = b := BitVec.eq_of_getLsbD_eq fun i hi => h i hi
theorem hasS_ge {a : S} {x : Nat} (h : 32 ≤ x) : hasS a x = false := BitVec.getLsbD_of_ge _ _ h
/-- The set of a list of patches. -/
def setS (l : List Int) : S := l.foldl (fun s p => s ||| oneS p.toNat) 0#32
theorem setS_snoc (l : List Int) (p : Int) : setS (l ++ [p]) = setS l ||| oneS p.toNat := by simp [setS]
theorem setS_take (l : List Int) (k : Nat) (hk : k < l.length) : setS (l.take (k + 1)) = setS (l.take k) ||| oneS l[k].toNat := by
  rw [List.take_succ_eq_append_getElem hk, setS_snoc]
theorem hasS_setS (l : List Int) (hl : ∀ p ∈ l, 0 ≤ p ∧ p < 32) (x : Nat) : hasS (setS l) x = decide ((x : Int) ∈ l) := by
  have key : ∀ (l : List Int) (s : S), (∀ p ∈ l, 0 ≤ p ∧ p < 32) → hasS (l.foldl (fun s p => s ||| oneS p.toNat) s) x = (hasS s x || decide ((x : Int) ∈ l)) := by
    intro l
    induction l with
    | nil => intro s _; simp
    | cons p l ih =>
      intro s h
      have hp := h p (by simp)
      rw [List.foldl_cons, ih _ (fun q hq => h q (by simp [hq])), hasS_or, hasS_one _ _ (by omega), Bool.or_assoc]
      congr 1
      have e : (x = p.toNat) = ((x : Int) = p) := propext (by omega)
      rw [Bool.eq_iff_iff]
      simp [e]
  have := key l 0#32 hl
  simpa [setS] using this

/-! ### Problems -/

structure Prob where
  N : Int
  arcs : List (Int × Int)
  near : List (Int × Int)

/-- The value of a problem whose lists lie behind ao and bo. -/
abbrev probV (o : Prob) (ao : Option Addr) (ca : Nat) (bo : Option Addr) (cb : Nat) : Value :=
  .agg #[.int .i64 o.N, .slice ao o.arcs.length ca, .slice bo o.near.length cb]

/-- The lists of a problem lie in memory, and are not too long to be counted. -/
structure IsProb (w : World) (o : Prob) (ao bo : Option Addr) : Prop where
  arcs : Pairs w ao o.arcs
  near : Pairs w bo o.near
  la : o.arcs.length < 1152921504606846976
  lb : o.near.length < 1152921504606846976

theorem IsProb.kept {w w' : World} {o : Prob} {ao bo : Option Addr} (h : IsProb w o ao bo) (hk : Kept w w') : IsProb w' o ao bo :=
  ⟨h.arcs.kept hk, h.near.kept hk, h.la, h.lb⟩

/-- Block b is the variable of a problem. -/
structure ProbBox (w : World) (b : Nat) (o : Prob) (ao : Option Addr) (ca : Nat) (bo : Option Addr) (cb : Nat) : Prop where
  c0 : w.cell? ⟨b, 0, none⟩ = some (.int .i64 o.N)
  c1 : w.cell? ⟨b, 1, none⟩ = some (.slice ao o.arcs.length ca)
  c2 : w.cell? ⟨b, 2, none⟩ = some (.slice bo o.near.length cb)

theorem ProbBox.kept {w w' : World} {b : Nat} {o : Prob} {ao : Option Addr} {ca : Nat} {bo : Option Addr} {cb : Nat} (h : ProbBox w b o ao ca bo cb) (hk : Kept w w') : ProbBox w' b o ao ca bo cb :=
  ⟨hk.cell h.c0, hk.cell h.c1, hk.cell h.c2⟩
/-- A problem is put into a variable of the call's own: the world under a new name. -/
theorem alloc_prob (w : World) (N : Int) (A B : List (Int × Int)) (ao : Option Addr) (ca : Nat) (bo : Option Addr) (cb : Nat) :
    ∃ w0, w.alloc (.cells #[.int .i64 N, .slice ao A.length ca, .slice bo B.length cb] 24) = w0 ∧ Kept w w0 ∧ ProbBox w0 w.heap.size ⟨N, A, B⟩ ao ca bo cb ∧ w.heap.size + 1 = w0.heap.size :=
  ⟨_, rfl, (Kept.refl w).alloc _, ⟨by simp [go_sem], by simp [go_sem], by simp [go_sem]⟩, by simp⟩

end Go.Proofs.Yteljjkghjbofnaa
