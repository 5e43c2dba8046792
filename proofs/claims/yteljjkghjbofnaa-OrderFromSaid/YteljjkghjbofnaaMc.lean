/- round, Circle. -/
import Derived.Test.YteljjkghjbofnaaMb
import Derived.Deep.LoopGhost
import Derived.WalkMore
import Derived.Deep.DeepCutAuto
import Derived.Deep.CutBlock
import Derived.WalkSpells
import Derived.Deep.QuietTactic
import Derived.StillTail
import Derived.Maps.OwnSet
import Derived.Maps.OwnIn
/-! round, Circle. -/
set_option maxRecDepth 100000
namespace Go.Proofs.Yteljjkghjbofnaa
open Go Go.Proofs Go.RowKit

/-! ### The model of 'round' -/

def layerStep (W : Web) (now : S) (m : Int) (st : List Int × S) (p : Nat) : List Int × S :=
  if ¬ (W.to p &&& now = 0#32) ∧ st.1.getD p 0 = 0 then (st.1.set p m, st.2 ||| oneS p) else st
def layerPart (W : Web) (now : S) (m : Int) (a : Nat) (left : List Int) (j : Nat) : List Int × S := (List.range' a j).foldl (layerStep W now m) (left, 0#32)
def layer (W : Web) (a : Nat) (now : S) (m : Int) (left : List Int) : List Int × S := layerPart W now m a left (W.n - a)
/-- left[p]: how many arcs lead from p back to a, by patches above a. -/
def bfs (W : Web) (a : Nat) : Nat → S → Int → List Int → List Int
  | 0, _, _, left => left
  | f + 1, now, m, left => if now = 0#32 then left else if hasS (layer W a now m left).2 a then (layer W a now m left).1 else bfs W a f (layer W a now m left).2 (m + 1) (layer W a now m left).1
def leftOf (W : Web) (a : Nat) : List Int := bfs W a 25 (oneS a) 1 (List.replicate 24 0)

def findNext (W : Web) (a : Nat) (left : List Int) (last : Nat) (m : Int) : Option Nat := (List.range' (a + 1) (W.n - (a + 1))).find? fun q => hasS (W.to last) q && left.getD q 0 == m
def pathStep (W : Web) (a : Nat) (left : List Int) (out : List Int) (m : Int) : List Int :=
  match findNext W a left (out.getLastD 0).toNat m with | some q => out ++ [(q : Int)] | none => out
def pathL (W : Web) (a : Nat) (left : List Int) : List Int → Nat → List Int
  | out, 0 => out
  | out, m + 1 => pathL W a left (pathStep W a left out ((m + 1 : Nat) : Int)) m
def roundOf (W : Web) (a : Nat) : List Int := if (leftOf W a).getD a 0 = 0 then [] else pathL W a (leftOf W a) [(a : Int)] ((leftOf W a).getD a 0 - 1).toNat

theorem layerPart_succ (W : Web) (now : S) (m : Int) (a : Nat) (left : List Int) (j : Nat) : layerPart W now m a left (j + 1) = layerStep W now m (layerPart W now m a left j) (a + j) := by
  unfold layerPart; rw [List.range'_concat, List.foldl_append]; simp

/-- What a layer keeps: the length, the bounds; it has set something, or there is less to set. -/
structure LayerOk (left : List Int) (st : List Int × S) : Prop where
  len : st.1.length = 24
  bd : ∀ x ∈ st.1, 0 ≤ x ∧ x ≤ 30
  less : st.2 = 0#32 ∨ st.1.count 0 < left.count 0
  le : st.1.count 0 ≤ left.count 0

theorem layerStep_ok {W : Web} {now : S} {m : Int} {left : List Int} {st : List Int × S} {p : Nat} (h : LayerOk left st) (hm : 0 < m ∧ m ≤ 30) (hp : p < 24) : LayerOk left (layerStep W now m st p) := by
  unfold layerStep
  split
  · rename_i hc
    have hp' : p < st.1.length := by rw [h.len]; exact hp
    have h0 : st.1[p] = 0 := by
      have := hc.2
      rw [List.getD_eq_getElem?_getD, List.getElem?_eq_getElem hp'] at this
      simpa using this
    have hcount : (st.1.set p m).count 0 = st.1.count 0 - 1 := by
      rw [List.count_set (by exact hp'), h0]
      have : (m == (0 : Int)) = false := by simp; omega
      simp [this]
    have hpos : 0 < st.1.count 0 := List.count_pos_iff.2 (h0 ▸ List.getElem_mem hp')
    refine ⟨by simpa using h.len, fun x hx => ?_, .inr ?_, ?_⟩
    · rcases List.mem_or_eq_of_mem_set hx with hx | rfl
      · exact h.bd x hx
      · omega
    · have := h.le; simp only [hcount]; omega
    · have := h.le; simp only [hcount]; omega
  · exact h
theorem layerPart_ok {W : Web} {now : S} {m : Int} {a : Nat} {left : List Int} (hl : left.length = 24) (hb : ∀ x ∈ left, 0 ≤ x ∧ x ≤ 30) (hm : 0 < m ∧ m ≤ 30) (j : Nat) (hj : a + j ≤ 24) : LayerOk left (layerPart W now m a left j) := by
  induction j with
  | zero => exact ⟨hl, hb, .inl rfl, Nat.le_refl _⟩
  | succ j ih => rw [layerPart_succ]; exact layerStep_ok (ih (by omega)) hm (by omega)

theorem bfs_ok {W : Web} {a : Nat} (ha : a ≤ 24) (hn : W.n ≤ 24) : ∀ (f : Nat) (now : S) (m : Int) (left : List Int), 0 < m → m + f ≤ 26 → left.length = 24 → (∀ x ∈ left, 0 ≤ x ∧ x ≤ 30) → (bfs W a f now m left).length = 24 ∧ ∀ x ∈ bfs W a f now m left, 0 ≤ x ∧ x ≤ 30 := by
  intro f
  induction f with
  | zero => intro now m left _ _ h1 h2; exact ⟨h1, h2⟩
  | succ f ih =>
    intro now m left hm hf h1 h2
    have hok : LayerOk left (layer W a now m left) := layerPart_ok h1 h2 ⟨hm, by omega⟩ _ (by omega)
    unfold bfs
    split
    · exact ⟨h1, h2⟩
    · split
      · exact ⟨hok.len, hok.bd⟩
      · exact ih _ _ _ (by omega) (by omega) hok.len hok.bd
theorem leftOf_ok (W : Web) (a : Nat) (ha : a ≤ 24) (hn : W.n ≤ 24) : (leftOf W a).length = 24 ∧ ∀ x ∈ leftOf W a, 0 ≤ x ∧ x ≤ 30 :=
  bfs_ok ha hn 25 _ _ _ (by omega) (by omega) (by simp) (fun x hx => by have := List.eq_of_mem_replicate hx; omega)

/-! ### The walk -/

theorem OwnI.build (X : World) (base : Nat) (y : Int) (h : base ≤ X.heap.size) : OwnI (X.alloc (.cells #[.int .i64 y] 3)) base (.slice (some ⟨X.heap.size, 0, none⟩) 1 1) [y] :=
  ⟨rfl, .inr ⟨X.heap.size, 1, _, rfl, h, heap_alloc_new X _, Nat.le_refl _, by unfold maxLen; omega, rfl, rfl⟩⟩

theorem info154 : Try.prog.underlying 154 = some (.array 24 3) := Try.underlying154

theorem alloc_left (w : World) : ∃ w0, w.alloc (.cells #[Value.int IntKind.i64 0, Value.int IntKind.i64 0, Value.int IntKind.i64 0, Value.int IntKind.i64 0, Value.int IntKind.i64 0, Value.int IntKind.i64 0, Value.int IntKind.i64 0, Value.int IntKind.i64 0, Value.int IntKind.i64 0, Value.int IntKind.i64 0, Value.int IntKind.i64 0, Value.int IntKind.i64 0, Value.int IntKind.i64 0, Value.int IntKind.i64 0, Value.int IntKind.i64 0, Value.int IntKind.i64 0, Value.int IntKind.i64 0, Value.int IntKind.i64 0, Value.int IntKind.i64 0, Value.int IntKind.i64 0, Value.int IntKind.i64 0, Value.int IntKind.i64 0, Value.int IntKind.i64 0, Value.int IntKind.i64 0] 154) = w0 ∧ Kept w w0 ∧ w0.heap.size = w.heap.size + 1 ∧ Arr w0 w.heap.size (List.replicate 24 0) := by
  have hh := heap_alloc_new w (.cells #[Value.int IntKind.i64 0, Value.int IntKind.i64 0, Value.int IntKind.i64 0, Value.int IntKind.i64 0, Value.int IntKind.i64 0, Value.int IntKind.i64 0, Value.int IntKind.i64 0, Value.int IntKind.i64 0, Value.int IntKind.i64 0, Value.int IntKind.i64 0, Value.int IntKind.i64 0, Value.int IntKind.i64 0, Value.int IntKind.i64 0, Value.int IntKind.i64 0, Value.int IntKind.i64 0, Value.int IntKind.i64 0, Value.int IntKind.i64 0, Value.int IntKind.i64 0, Value.int IntKind.i64 0, Value.int IntKind.i64 0, Value.int IntKind.i64 0, Value.int IntKind.i64 0, Value.int IntKind.i64 0, Value.int IntKind.i64 0] 154)
  refine ⟨_, rfl, (Kept.refl w).alloc _, by simp, by simp, fun i hi => ?_, fun o => frozen_of_row _ _ _ _ _ hh⟩
  rw [cell_of_row _ _ _ _ _ _ hh]
  have h24 : i < 24 := by simpa using hi
  rw [List.getElem_replicate]
  have e : (#[Value.int IntKind.i64 0, Value.int IntKind.i64 0, Value.int IntKind.i64 0, Value.int IntKind.i64 0, Value.int IntKind.i64 0, Value.int IntKind.i64 0, Value.int IntKind.i64 0, Value.int IntKind.i64 0, Value.int IntKind.i64 0, Value.int IntKind.i64 0, Value.int IntKind.i64 0, Value.int IntKind.i64 0, Value.int IntKind.i64 0, Value.int IntKind.i64 0, Value.int IntKind.i64 0, Value.int IntKind.i64 0, Value.int IntKind.i64 0, Value.int IntKind.i64 0, Value.int IntKind.i64 0, Value.int IntKind.i64 0, Value.int IntKind.i64 0, Value.int IntKind.i64 0, Value.int IntKind.i64 0, Value.int IntKind.i64 0] : Array Value) = Array.replicate 24 (.int .i64 0) := rfl
  rw [e, Array.getElem?_replicate, if_pos h24]

theorem findNext_none {W : Web} {a : Nat} {left : List Int} {last : Nat} {m : Int} (h : ∀ q, a + 1 ≤ q → q < W.n → (hasS (W.to last) q && left.getD q 0 == m) = false) : findNext W a left last m = none := by
  unfold findNext
  rw [List.find?_eq_none]
  intro q hq
  rw [List.mem_range'_1] at hq
  simpa using h q (by omega) (by omega)
theorem findNext_some {W : Web} {a : Nat} {left : List Int} {last q : Nat} {m : Int} (h1 : a + 1 ≤ q) (h2 : q < W.n) (h3 : (hasS (W.to last) q && left.getD q 0 == m) = true)
    (h : ∀ r, a + 1 ≤ r → r < q → (hasS (W.to last) r && left.getD r 0 == m) = false) : findNext W a left last m = some q := by
  unfold findNext
  have e : List.range' (a + 1) (W.n - (a + 1)) = List.range' (a + 1) (q - (a + 1)) ++ q :: List.range' (q + 1) (W.n - (q + 1)) := by
    have h1' : List.range' (a + 1) (W.n - (a + 1)) = List.range' (a + 1) (q - (a + 1)) ++ List.range' q (W.n - q) := by
      rw [show W.n - (a + 1) = (q - (a + 1)) + (W.n - q) by omega, ← List.range'_append_1]
      congr 2; omega
    rw [h1', show W.n - q = (W.n - (q + 1)) + 1 by omega, List.range'_succ]
  rw [e, List.find?_append]
  have hn : (List.range' (a + 1) (q - (a + 1))).find? (fun q => hasS (W.to last) q && left.getD q 0 == m) = none := by
    rw [List.find?_eq_none]
    intro r hr
    rw [List.mem_range'_1] at hr
    simpa using h r (by omega) (by omega)
  rw [hn]
  simp only [Option.none_or]
  rw [List.find?_cons, h3]
theorem OwnI.get {X : World} {base g c n : Nat} {l : List Int} (h : OwnI X base (.slice (some ⟨g, 0, none⟩) n c) l) : n = l.length ∧ g < X.heap.size ∧ base ≤ g ∧ ∀ i, (h : i < l.length) → X.cell? ⟨g, i, none⟩ = some (.int .i64 l[i]) := by
  obtain ⟨ao, c', hv, _, hi⟩ := h.slice
  simp only [Value.slice.injEq] at hv
  obtain ⟨rfl, rfl, rfl⟩ := hv
  have hlt := h.lt g rfl
  refine ⟨rfl, hlt.2, hlt.1, fun i h => ?_⟩
  obtain ⟨b, off, e, hc⟩ := hi i h
  simp only [Option.some.injEq, Addr.mk.injEq] at e
  obtain ⟨rfl, rfl, -⟩ := e
  rw [Nat.zero_add] at hc
  exact hc
theorem Arr.grownNe {X Y : World} {g : Nat} {xs : List Int} {row : Option Nat} (h : Arr X g xs) (hg : X.grownBy Y row) (hne : some g ≠ row) : Arr Y g xs :=
  ⟨Nat.lt_of_lt_of_le h.lt hg.size, fun i hi => hg.cell (h.get i hi) hne, fun o => (World.frozen?_of_block (a := ⟨g, o, none⟩) (hg.block g h.lt hne)).trans (h.free o)⟩

theorem OwnI.last {X : World} {base : Nat} {v : Value} {l : List Int} (h : OwnI X base v l) (hne : l ≠ []) :
    ∃ g c, v = .slice (some ⟨g, 0, none⟩) l.length c ∧ l.length ≤ c ∧ X.cell? ⟨g, l.length - 1, none⟩ = some (.int .i64 (l.getLastD 0)) ∧ base ≤ g ∧ 0 < l.length := by
  have hpos : 0 < l.length := List.length_pos_iff.2 hne
  rcases h.2 with ⟨rfl, h0⟩ | ⟨g, cap, cur, rfl, hbg, hgg, hnc, hcm, hcs, htake⟩
  · simp at h0; exact absurd h0 hne
  · obtain ⟨_, _, hb, hc⟩ := OwnI.get h
    refine ⟨g, cap, rfl, hnc, ?_, hb, hpos⟩
    rw [hc (l.length - 1) (by omega), List.getLastD_eq_getLast?, List.getLast?_eq_getElem?, List.getElem?_eq_getElem (by omega)]
    rfl

def RoundPost (l : List Int) (w : World) (e : Ending) (w' : World) : Prop := ∃ v, e = .returned v ∧ OwnI w' w.heap.size v l ∧ (l = [] → v = .slice none 0 0) ∧ Kept w w'

set_option maxHeartbeats 2000000 in
theorem round_any (b : Nat) (W : Web) (a : Nat) (w : World) (hw : WebAt w b W) (hn : W.n ≤ 24) (ha : a < W.n) :
    Calls Try.prog 96 #[.pointer (some ⟨b, 0, none⟩), .int .i64 a] w (RoundPost (roundOf W a) w) := by
  have HW := Lib.hid hw
  clear hw
  go_enter Try.func96, Try.ntmps96
  go_wp2
  go_step3
  go_wp2_with fail
  refine (one_any a _ (by omega)).mono ?_
  rintro e w2 ⟨rfl, rfl⟩
  obtain ⟨w0, e0, hk0, hsz0, harr0⟩ := alloc_left w
  rw [e0]
  clear e0
  have HK0 := Lib.hid hk0
  have HA0 := Lib.hid harr0
  have HSZ := Lib.hid hsz0
  obtain ⟨g, hg⟩ : ∃ g, w.heap.size = g := ⟨_, rfl⟩
  rw [hg] at HA0 ⊢
  have HG : Hid (w.heap.size ≤ g ∧ g < w0.heap.size) := ⟨by omega, by omega⟩
  clear hk0 harr0 hsz0 hg
  go_upto_block 0 with (fail)
  go_cut [6, 7, 8, 9] (fun _ _ _ _ wc => Kept w wc ∧ w0.heap.size ≤ wc.heap.size ∧ Arr wc g (leftOf W a))
  case first =>
    go_wp2_with fail
    go_loopg [6, 7] 25 (fun f now m wr => ∃ (s : S) (mm : Nat) (left : List Int), now = .int .u32 (sI s) ∧ m = .int .i64 mm ∧ 1 ≤ mm ∧ mm + f = 26 ∧ Kept w wr ∧ w0.heap.size ≤ wr.heap.size ∧ Arr wr g left ∧ left.length = 24 ∧
      (∀ x ∈ left, 0 ≤ x ∧ x ≤ 30) ∧ bfs W a f s mm left = leftOf W a ∧ (s = 0#32 ∨ left.count 0 < f))
    case atStart =>
      exact ⟨oneS a, 1, List.replicate 24 0, rfl, rfl, by omega, by omega, HK0.out, Nat.le_refl _, HA0.out, by simp, fun x hx => by have := List.eq_of_mem_replicate hx; omega, rfl, .inr (by simp)⟩
    case round =>
      obtain ⟨s, mm, left, rfl, rfl, hm1, hmf, hkw, hsz, harr, hlen, hbd, hbfs, hless⟩ := hrel
      have HKW := Lib.hid hkw
      have HSW := Lib.hid hsz
      have HAR := Lib.hid harr
      have HLEN := Lib.hid hlen
      have HBD := Lib.hid hbd
      have HBFS := Lib.hid hbfs
      have HLESS := Lib.hid hless
      clear hkw hsz harr hlen hbd hbfs hless HA0 HK0
      by_cases hz : s = 0#32
      · have hb : (sI s != 0) = false := by simp [hz, sI_zero]
        have HZ := Lib.hid hz
        clear hz
        go_wp2
        go_meet
        case rel =>
          refine ⟨HKW.out, HSW.out, ?_⟩
          rw [← HBFS.out]
          have e : bfs W a gk s mm left = left := by
            cases gk with
            | zero => rfl
            | succ f => unfold bfs; rw [if_pos HZ.out]
          rw [e]
          exact HAR.out
      · have hb : (sI s != 0) = true := by simp [hz, sI_eq_zero]
        have hct : left.count 0 < gk := HLESS.out.resolve_left hz
        obtain ⟨f, rfl⟩ : ∃ f, gk = f + 1 := ⟨gk - 1, by omega⟩
        have hm30 : mm ≤ 30 := by omega
        have HZ := Lib.hid hz
        have HCT := Lib.hid hct
        clear hz hct
        go_wp2_with fail
        go_loopg [8, 9] (W.n - a) (fun j nx p wr => ∃ i : Nat, i + j = W.n - a ∧ p = .int .i64 ((a + i : Nat) : Int) ∧ nx = .int .u32 (sI (layerPart W s mm a left i).2) ∧ Kept w wr ∧ w0.heap.size ≤ wr.heap.size ∧ Arr wr g (layerPart W s mm a left i).1)
        case atStart => exact ⟨0, by omega, rfl, rfl, HKW.out, HSW.out, HAR.out⟩
        case round =>
          obtain ⟨i, hij, rfl, rfl, hkw, hsz, harr⟩ := hrel
          have hok := layerPart_ok (W := W) (now := s) (m := mm) (a := a) HLEN.out HBD.out ⟨by omega, by omega⟩ i (by omega)
          have HKW2 := Lib.hid hkw
          have HSW2 := Lib.hid hsz
          have HAR2 := Lib.hid harr
          have HOK := Lib.hid hok
          have HIJ := Lib.hid hij
          obtain ⟨p, hp⟩ : ∃ p, a + i = p := ⟨_, rfl⟩
          rw [hp]
          have HP := Lib.hid hp
          by_cases hlt : p < W.n
          · have hsucc := layerPart_succ W s mm a left i
            rw [hp] at hsucc
            have hj : gk = (gk - 1) + 1 := by omega
            have HJ := Lib.hid hj
            clear hkw hsz harr hok hij hp hj
            generalize layerPart W s mm a left i = st at *
            have HSUCC := Lib.hid hsucc
            clear hsucc
            have hp24 : p < 24 := by omega
            have hpi : (p : Int) < 24 := by omega
            have hp32 : p < 32 := by omega
            have hlp : p < st.1.length := by rw [HOK.out.len]; exact hp24
            have hcp := HAR2.out.get p hlp
            have hfr := HAR2.out.free p
            have hto := (HW.out.kept HKW2.out).to p hp24
            have hwn := (HW.out.kept HKW2.out).n
            have hbdp := HOK.out.bd st.1[p] (List.getElem_mem hlp)
            have hgd : st.1.getD p 0 = st.1[p] := by rw [List.getD_eq_getElem?_getD, List.getElem?_eq_getElem]; rfl
            generalize st.1[p] = d at hcp hbdp hgd
            have HGD := Lib.hid hgd
            clear hgd hlp hbdp
            by_cases hz2 : W.to p &&& s = 0#32
            · have hb2 : (sI (W.to p &&& s) != 0) = false := by simp [hz2, sI_zero]
              have HZ2 := Lib.hid hz2
              clear hz2
              go_wp2
              go_roundg (gk - 1)
              case measure => have := HJ.out; omega
              case rel =>
                have h1 := HIJ.out
                have h2 := HJ.out
                refine ⟨i + 1, by omega, ?_, ?_, HKW2.out, HSW2.out, ?_⟩
                · rw [← Nat.add_assoc, HP.out]; rfl
                · rw [HSUCC.out, layerStep, if_neg (fun h => h.1 HZ2.out)]
                · rw [HSUCC.out, layerStep, if_neg (fun h => h.1 HZ2.out)]; exact HAR2.out
            · have hb2 : (sI (W.to p &&& s) != 0) = true := by simp [hz2, sI_eq_zero]
              have HZ2 := Lib.hid hz2
              clear hz2
              by_cases hd : d = 0
              · have hb3 : (d == 0) = true := by simp [hd]
                have HD := Lib.hid hd
                clear hd
                go_wp2_with fail
                refine (one_any p _ hp32).mono ?_
                rintro e w3 ⟨rfl, rfl⟩
                go_wp2
                go_roundg (gk - 1)
                case measure => have := HJ.out; omega
                case rel =>
                  have h1 := HIJ.out
                  have h2 := HJ.out
                  refine ⟨i + 1, by omega, ?_, ?_, HKW2.out.setCell HG.out.1 _, by simpa [World.setCell] using HSW2.out, ?_⟩
                  · rw [← Nat.add_assoc, HP.out]; rfl
                  · rw [HSUCC.out, layerStep, if_pos ⟨HZ2.out, HGD.out.trans HD.out⟩]
                  · rw [HSUCC.out, layerStep, if_pos ⟨HZ2.out, HGD.out.trans HD.out⟩]; exact HAR2.out.set _
              · have hb3 : (d == 0) = false := by simp [hd]
                have HD := Lib.hid hd
                clear hd
                go_wp2
                go_roundg (gk - 1)
                case measure => have := HJ.out; omega
                case rel =>
                  have h1 := HIJ.out
                  have h2 := HJ.out
                  have hn : ¬ (¬ (W.to p &&& s = 0#32) ∧ st.1.getD p 0 = 0) := fun h => HD.out (HGD.out.symm.trans h.2)
                  refine ⟨i + 1, by omega, ?_, ?_, HKW2.out, HSW2.out, ?_⟩
                  · rw [← Nat.add_assoc, HP.out]; rfl
                  · rw [HSUCC.out, layerStep, if_neg hn]
                  · rw [HSUCC.out, layerStep, if_neg hn]; exact HAR2.out
          · have hi : i = W.n - a := by omega
            have hlayer : layerPart W s mm a left i = layer W a s mm left := by unfold layer; rw [hi]
            rw [hlayer] at HAR2 HOK ⊢
            generalize hst : layer W a s mm left = st at *
            have HST := Lib.hid hst
            have hwn := (HW.out.kept HKW2.out).n
            have ha32 : a < 32 := by omega
            clear hkw hsz harr hok hij hp hi hlayer hst
            go_wp2_with fail
            refine (has_any st.2 a _ ha32).mono ?_
            rintro e w3 ⟨rfl, rfl⟩
            cases hh : hasS st.2 a
            all_goals
              have HH := Lib.hid hh
              clear hh hwn
            · go_wp2
              go_roundg f
              case measure => omega
              case rel =>
                refine ⟨st.2, mm + 1, st.1, rfl, by go_num, by omega, by omega, HKW2.out, HSW2.out, HAR2.out, HOK.out.len, HOK.out.bd, ?_, ?_⟩
                · rw [← HBFS.out]
                  conv => rhs; unfold bfs
                  rw [if_neg HZ.out, HST.out, if_neg (by rw [HH.out]; simp)]
                  rfl
                · rcases HOK.out.less with h | h
                  · exact .inl h
                  · have := HCT.out; exact .inr (by omega)
            · go_wp2
              go_meet
              case rel =>
                refine ⟨HKW2.out, HSW2.out, ?_⟩
                rw [← HBFS.out]
                have e : bfs W a (f + 1) s mm left = st.1 := by
                  unfold bfs
                  rw [if_neg HZ.out, HST.out, if_pos HH.out]
                rw [e]
                exact HAR2.out
  case rest =>
    obtain ⟨hkc, hsc, harc⟩ := hcut
    have HLL : Hid ((leftOf W a).length = 24 ∧ ∀ x ∈ leftOf W a, 0 ≤ x ∧ x ≤ 30) := leftOf_ok W a (by omega) hn
    have HKC := Lib.hid hkc
    have HSC := Lib.hid hsc
    have HAC := Lib.hid harc
    clear hkc hsc harc HA0 HK0
    have hla : a < (leftOf W a).length := by rw [HLL.out.1]; omega
    have hca := HAC.out.get a hla
    have hbd := HLL.out.2 _ (List.getElem_mem hla)
    have hgd : (leftOf W a).getD a 0 = (leftOf W a)[a] := by rw [List.getD_eq_getElem?_getD, List.getElem?_eq_getElem]; rfl
    have hai : (a : Int) < 24 := by omega
    generalize (leftOf W a)[a] = d at hca hbd hgd
    have HGD := Lib.hid hgd
    clear hgd hla
    by_cases hd : d = 0
    · have hb : (d == 0) = true := by simp [hd]
      have HD := Lib.hid hd
      clear hd hbd
      go_wp2
      rw [Exit.noGoto_ret]
      go_ret
      have e : roundOf W a = [] := by unfold roundOf; rw [if_pos (HGD.out.trans HD.out)]
      refine ⟨_, rfl, ?_, fun _ => rfl, HKC.out⟩
      rw [e]
      exact OwnI.nil _ _
    · have hb : (d == 0) = false := by simp [hd]
      have HD := Lib.hid hd
      obtain ⟨m, hm⟩ : ∃ m : Nat, d = (m : Int) + 1 := ⟨(d - 1).toNat, by omega⟩
      subst hm
      have hm30 : m ≤ 30 := by omega
      have HR : Hid (roundOf W a = pathL W a (leftOf W a) [(a : Int)] m) := by
        show _ = _
        unfold roundOf
        rw [if_neg (fun h => HD.out (HGD.out.symm.trans h)), HGD.out]
        congr 1
        omega
      have hglt := HAC.out.lt
      clear hd
      go_wp2
      go_step3
      go_wp2
      have hown0 := OwnI.build wc w0.heap.size a HSC.out
      have hkw0 := HKC.out.alloc (.cells #[.int .i64 a] 3)
      have harr0 := HAC.out.grownNe (World.grownBy_alloc wc (.cells #[.int .i64 a] 3) none) (by simp)
      generalize (wc.alloc (.cells #[.int .i64 a] 3)) = w1 at *
      have HOWN := Lib.hid hown0
      have HKW := Lib.hid hkw0
      have HARR := Lib.hid harr0
      clear hown0 hkw0 harr0 hca hbd hb hglt
      generalize wc.heap.size = g1 at *
      go_loopg [10, 11] m (fun j out nn wr => ∃ l : List Int, nn = .int .i64 (j : Int) ∧ OwnI wr w0.heap.size out l ∧ l ≠ [] ∧ (∀ x ∈ l, 0 ≤ x ∧ x < (W.n : Int)) ∧ l.length + j ≤ 31 ∧ Kept w wr ∧ w0.heap.size ≤ wr.heap.size ∧ Arr wr g (leftOf W a) ∧ pathL W a (leftOf W a) l j = roundOf W a)
      case atStart =>
        exact ⟨[(a : Int)], rfl, HOWN.out, by simp, fun x hx => by simp at hx; omega, (by show 1 + m ≤ 31; omega), HKW.out, by have := HARR.out.lt; have := HOWN.out.lt g1 rfl; omega, HARR.out, HR.out.symm⟩
      case round =>
        obtain ⟨l, rfl, hown, hne, hin, hlen, hkw, hsz, harr, hpath⟩ := hrel
        have HO := Lib.hid hown
        have HNE := Lib.hid hne
        have HIN := Lib.hid hin
        have HLEN := Lib.hid hlen
        have HK := Lib.hid hkw
        have HSZR := Lib.hid hsz
        have HA := Lib.hid harr
        have HPATH := Lib.hid hpath
        clear hown hne hin hlen hkw hsz harr hpath
        by_cases hz : gk = 0
        · subst hz
          go_wp2
          rw [Exit.noGoto_ret]
          go_ret
          have e : l = roundOf W a := HPATH.out
          rw [← e]
          exact ⟨_, rfl, HO.out.base (Nat.le_of_lt (Nat.lt_of_le_of_lt HG.out.1 HG.out.2)), fun e => absurd e HNE.out, HK.out⟩
        · obtain ⟨j, rfl⟩ : ∃ j, gk = j + 1 := ⟨gk - 1, by omega⟩
          have hj0 : ((j + 1 : Nat) : Int) = (j : Int) + 1 := by omega
          rw [hj0]
          have hgt : decide ((j : Int) + 1 > 0) = true := decide_eq_true (by omega)
          clear hz
          go_wp2
          obtain ⟨gg, c, rfl, hcl, hlast, hgb, hlpos⟩ := HO.out.last HNE.out
          have hlin : ∀ x, l.getLastD 0 = x → 0 ≤ x ∧ x < (W.n : Int) := by
            rintro _ rfl
            have := List.getLast_mem HNE.out
            rw [List.getLastD_eq_getLast?, List.getLast?_eq_some_getLast HNE.out]
            exact HIN.out _ this
          obtain ⟨x, hx⟩ : ∃ x : Nat, l.getLastD 0 = (x : Int) := ⟨(l.getLastD 0).toNat, by have := (hlin _ rfl).1; omega⟩
          have hxn : x < W.n := by have := (hlin _ hx).2; omega
          rw [hx] at hlast
          have HX := Lib.hid hx
          have HLAST := Lib.hid hlast
          have HGB := Lib.hid hgb
          have HCL := Lib.hid hcl
          clear hlin hx hlast hgb hcl
          obtain ⟨len, hlenk⟩ : ∃ len, l.length = len := ⟨_, rfl⟩
          rw [hlenk] at HLAST HCL hlpos HO ⊢
          have HLK := Lib.hid hlenk
          clear hlenk
          go_loopg [10, 12] (W.n - (a + 1)) (fun jj out q wi => ∃ i : Nat, out = .slice (some ⟨gg, 0, none⟩) len c ∧ i + jj = W.n - (a + 1) ∧ q = .int .i64 ((a + 1 + i : Nat) : Int) ∧ Kept wr wi ∧ ∀ r, a + 1 ≤ r → r < a + 1 + i → (hasS (W.to x) r && (leftOf W a).getD r 0 == ((j + 1 : Nat) : Int)) = false)
          case atStart => exact ⟨0, rfl, by omega, by go_num, Kept.refl _, fun r h1 h2 => by omega⟩
          case round =>
            obtain ⟨i, rfl, hij, rfl, hki, hno⟩ := hrel
            have HIJ := Lib.hid hij
            have HKI := Lib.hid hki
            have HNO := Lib.hid hno
            obtain ⟨q, hq⟩ : ∃ q, a + 1 + i = q := ⟨_, rfl⟩
            rw [hq]
            have HQ := Lib.hid hq
            have hwn := ((HW.out.kept HK.out).kept HKI.out).n
            by_cases hlt : q < W.n
            · have hqi : (q : Int) < 24 := by omega
              have hq32 : q < 32 := by omega
              have hxi : (x : Int) < 24 := by omega
              have hx24 : x < 24 := by omega
              have hto := ((HW.out.kept HK.out).kept HKI.out).to x hx24
              have hql : q < (leftOf W a).length := by rw [HLL.out.1]; omega
              have hcq := (HA.out.kept HKI.out).get q hql
              have hgdq : (leftOf W a).getD q 0 = (leftOf W a)[q] := by rw [List.getD_eq_getElem?_getD, List.getElem?_eq_getElem]; rfl
              have hlt2 := (HA.out.kept HKI.out).lt
              generalize (leftOf W a)[q] = dq at hcq hgdq
              have HGQ := Lib.hid hgdq
              have hcl := HKI.out.cell HLAST.out
              have hw1 : IntKind.i64.wrap ((len : Int) - 1) = ((len - 1 : Nat) : Int) := by
                have := HLEN.out
                have := HLK.out
                rw [show (len : Int) - 1 = ((len - 1 : Nat) : Int) by omega]
                exact IntWalk.i64_in _ (by omega)
              have hl1 : ((len - 1 : Nat) : Int) < len := by omega
              clear hij hki hno hq hgdq hql
              go_wp2
              refine region_tail 19 (by kernel_rfl) (by kernel_rfl) ?_
              simp only [List.take_succ_cons, List.take_zero, List.drop_succ_cons, List.drop_zero]
              repeat still_step
              still_call Calls_still (has_any _ q _ hq32)
              cases hh : hasS (W.to x) q
              all_goals
                have HH := Lib.hid hh
                clear hh
              · have HN2 : Hid ((hasS (W.to x) q && (leftOf W a).getD q 0 == ((j + 1 : Nat) : Int)) = false) := by
                  show _ = false
                  rw [HH.out]; rfl
                repeat still_step
                refine wpStill_nil ?_
                go_wp2
                go_roundg (gk - 1)
                case measure => have := HIJ.out; have := HQ.out; omega
                case rel =>
                  have h1 := HIJ.out
                  have h2 := HQ.out
                  refine ⟨i + 1, rfl, by omega, by rw [← h2]; go_num, HKI.out.drew, fun r h3 h4 => ?_⟩
                  by_cases e : r = q
                  · rw [e]; exact HN2.out
                  · exact HNO.out r h3 (by omega)
              · by_cases hd : dq = (j : Int) + 1
                · have hb3 : (dq == (j : Int) + 1) = true := by simp [hd]
                  have HD2 := Lib.hid hd
                  clear hd
                  have HF : Hid (findNext W a (leftOf W a) x ((j + 1 : Nat) : Int) = some q) := by
                    have h1 := HIJ.out
                    have h2 := HQ.out
                    refine findNext_some (by omega) hlt ?_ (fun r h3 h4 => HNO.out r h3 (by omega))
                    rw [HH.out, HGQ.out, HD2.out, hj0]
                    simp
                  repeat still_step
                  refine wpStill_nil ?_
                  go_wp2_with (at_builtin; refine append_int _ rfl _ _ rfl w0.heap.size (.slice (some ⟨gg, 0, none⟩) len c) l rfl ((HO.out.kept HKI.out).kept ((Kept.refl _).drew.alloc _)) wr.drew.heap.size 1 q rfl (by simp [go_sem]) (by have := HLEN.out; omega) (Nat.le_trans HSZR.out (Nat.le_trans HKI.out.size (by simp))) ?_; intro g' c' w2 hown2 hg2; have HOWN2 := Lib.hid hown2; have HG2 := Lib.hid hg2; clear hown2 hg2)
                  go_roundg j
                  case measure => omega
                  case rel =>
                    have hown := OwnI.kept (HO.out.kept HKI.out) ((Kept.refl _).drew.alloc (.cells #[.int .i64 q] 3))
                    refine ⟨l ++ [(q : Int)], by have := HLEN.out; rw [IntWalk.wrap64_in _ (by omega)], HOWN2.out, by simp, fun y hy => ?_, ?_, ?_, ?_, ?_, ?_⟩
                    · rcases List.mem_append.1 hy with h | h
                      · exact HIN.out y h
                      · simp at h; omega
                    · have := HLEN.out
                      simp only [List.length_append, List.length_cons, List.length_nil]; omega
                    · exact (((HK.out.trans HKI.out).drew).alloc _).grown HG2.out (fun r e => Nat.le_trans (Nat.le_of_lt (Nat.lt_of_le_of_lt HG.out.1 HG.out.2)) (hown.lt r e).1)
                    · exact Nat.le_trans HSZR.out (Nat.le_trans HKI.out.size (Nat.le_trans (by simp) HG2.out.size))
                    · refine ((HA.out.kept HKI.out).kept ((Kept.refl _).drew.alloc _)).grownNe HG2.out (fun e => ?_)
                      have := (hown.lt g e.symm).1
                      have := HG.out
                      omega
                    · have e := HPATH.out
                      rw [show pathL W a (leftOf W a) l (j + 1) = pathL W a (leftOf W a) (pathStep W a (leftOf W a) l ((j + 1 : Nat) : Int)) j from rfl, pathStep, HX.out, Int.toNat_natCast, HF.out] at e
                      exact e
                · have hb3 : (dq == (j : Int) + 1) = false := by simp [hd]
                  have HN2 : Hid ((hasS (W.to x) q && (leftOf W a).getD q 0 == ((j + 1 : Nat) : Int)) = false) := by
                    show _ = false
                    rw [HH.out, HGQ.out, hj0, hb3]; rfl
                  clear hd
                  repeat still_step
                  refine wpStill_nil ?_
                  go_wp2
                  go_roundg (gk - 1)
                  case measure => have := HIJ.out; have := HQ.out; omega
                  case rel =>
                    have h1 := HIJ.out
                    have h2 := HQ.out
                    refine ⟨i + 1, rfl, by omega, by rw [← h2]; go_num, HKI.out.drew, fun r h3 h4 => ?_⟩
                    by_cases e : r = q
                    · rw [e]; exact HN2.out
                    · exact HNO.out r h3 (by omega)
            · have HF : Hid (findNext W a (leftOf W a) x ((j + 1 : Nat) : Int) = none) := by
                have h1 := HIJ.out
                have h2 := HQ.out
                exact findNext_none (fun r h3 h4 => HNO.out r h3 (by omega))
              clear hij hki hno hq
              go_wp2
              go_roundg j
              case measure => omega
              case rel =>
                refine ⟨l, by have := HLEN.out; rw [IntWalk.wrap64_in _ (by omega)], HLK.out ▸ HO.out.kept HKI.out, HNE.out, HIN.out, by have := HLEN.out; omega, HK.out.trans HKI.out, Nat.le_trans HSZR.out HKI.out.size, HA.out.kept HKI.out, ?_⟩
                have e := HPATH.out
                rw [show pathL W a (leftOf W a) l (j + 1) = pathL W a (leftOf W a) (pathStep W a (leftOf W a) l ((j + 1 : Nat) : Int)) j from rfl, pathStep, HX.out, Int.toNat_natCast, HF.out] at e
                exact e

end Go.Proofs.Yteljjkghjbofnaa

/-! Circle. -/
set_option maxRecDepth 100000
namespace Go.Proofs.Yteljjkghjbofnaa
open Go Go.Proofs Go.RowKit

@[go_sem] theorem neq31_some (w : World) (a : Addr) (n c : Nat) : (binOp .neq 31 (.slice (some a) n c) (.slice none 0 0)).run Try.prog w = .ok (.bool true) w := run_neq_slice_nil_any w 31 3 (some a) n c 0 0 Try.underlying31
@[go_sem] theorem neq31_none (w : World) : (binOp .neq 31 (.slice none 0 0) (.slice none 0 0)).run Try.prog w = .ok (.bool false) w := run_neq_slice_nil_any w 31 3 none 0 0 0 0 Try.underlying31
@[go_sem] theorem eql31_some (w : World) (a : Addr) (n c : Nat) : (binOp .eql 31 (.slice (some a) n c) (.slice none 0 0)).run Try.prog w = .ok (.bool false) w := Lib.run_eql_slice_nil w 31 3 (some a) n c 0 0 Try.underlying31
@[go_sem] theorem eql31_none (w : World) : (binOp .eql 31 (.slice none 0 0) (.slice none 0 0)).run Try.prog w = .ok (.bool true) w := Lib.run_eql_slice_nil w 31 3 none 0 0 0 0 Try.underlying31

def circleStep (W : Web) (out : List Int) (a : Nat) : List Int :=
  if roundOf W a ≠ [] ∧ (out = [] ∨ (roundOf W a).length < out.length) then roundOf W a else out
def circlePart (W : Web) (i : Nat) : List Int := (List.range i).foldl (circleStep W) []
theorem circlePart_succ (W : Web) (i : Nat) : circlePart W (i + 1) = circleStep W (circlePart W i) i := by unfold circlePart; rw [List.range_succ, List.foldl_append]; rfl
def circleL (o : Prob) : List Int := if chk o = 0 then circlePart (webOf o) (webOf o).n else []

/-- v is a slice of numbers l: nil if there are none. -/
def NewN (w w' : World) (v : Value) (l : List Int) : Prop :=
  NewI w w' v l ∧ ((l = [] ∧ v = .slice none 0 0) ∨ (l ≠ [] ∧ ∃ g c, v = .slice (some ⟨g, 0, none⟩) l.length c))
theorem NewN.kept {w w' w'' : World} {v : Value} {l : List Int} (h : NewN w w' v l) (hk : Kept w' w'') : NewN w w'' v l := ⟨h.1.kept hk, h.2⟩
theorem NewN.nil (w w' : World) : NewN w w' (.slice none 0 0) [] := ⟨NewI.nil _ _, .inl ⟨rfl, rfl⟩⟩
theorem RoundPost.new {l : List Int} {w w0 w' : World} {v : Value} (h : OwnI w' w.heap.size v l) (hn : l = [] → v = .slice none 0 0) (hs : w0.heap.size ≤ w.heap.size) : NewN w0 w' v l := by
  refine ⟨h.new.from hs, ?_⟩
  by_cases e : l = []
  · exact .inl ⟨e, hn e⟩
  · obtain ⟨g, c, rfl, h1, h2, h3, h4⟩ := OwnI.last h e
    exact .inr ⟨e, g, c, rfl⟩

def CirclePost (l : List Int) (w : World) (e : Ending) (w' : World) : Prop := ∃ v, e = .returned (.tuple #[v, .bool (!l.isEmpty)]) ∧ NewN w w' v l ∧ Kept w w'

set_option maxHeartbeats 400000 in
theorem Circle_any (o : Prob) (ao bo : Option Addr) (ca cb : Nat) (w : World) (ho : IsProb w o ao bo) :
    Calls Try.prog 34 #[probV o ao ca bo cb] w (CirclePost (circleL o) w) := by
  have HO := Lib.hid ho
  clear ho
  by_cases h : chk o = 0
  · have hr : circleL o = circlePart (webOf o) (webOf o).n := by unfold circleL; rw [if_pos h]
    rw [hr]
    have H := Lib.hid h
    have hn := webOf_n h
    clear hr h
    go_enter Try.func34, Try.ntmps34
    go_wp2_with fail
    obtain ⟨w0, e0, hk0, hb0, -⟩ := alloc_prob w o.N o.arcs o.near ao ca bo cb
    rw [e0]
    clear e0
    have HK0 := Lib.hid hk0
    clear hk0 hb0
    refine (open_ok o ao bo ca cb w0 (HO.out.kept HK0.out) H.out).mono ?_
    rintro e w1 ⟨b, rfl, hw1, hk1⟩
    have HW1 := Lib.hid hw1
    have HK1 := Lib.hid (HK0.out.trans hk1)
    have hwn := hw1.n
    clear hw1 hk1
    generalize webOf o = W at *
    go_wp2
    go_loopg [6, 20] W.n (fun j out x wr => ∃ i : Nat, i + j = W.n ∧ x = .int .i64 (i : Int) ∧ NewN w wr out (circlePart W i) ∧ Kept w wr ∧ WebAt wr b W)
    case atStart => exact ⟨0, by omega, rfl, NewN.nil _ _, HK1.out, HW1.out⟩
    case round =>
      obtain ⟨i, hij, rfl, hout, hk, hw⟩ := hrel
      have HIJ := Lib.hid hij
      have HOUT := Lib.hid hout
      have HK := Lib.hid hk
      have HW := Lib.hid hw
      clear hij hout hk hw hwn
      by_cases hlt : i < W.n
      · have hlti : (i : Int) < W.n := by omega
        go_wp2_with fail
        refine (round_any b W i wr HW.out hn hlt).mono ?_
        rintro e w2 ⟨v, rfl, hown, hnil, hk2⟩
        have HN := Lib.hid (RoundPost.new hown hnil HK.out.size)
        have HK2 := Lib.hid hk2
        have HS := Lib.hid (circlePart_succ W i)
        clear hown hnil hk2
        unfold circleStep at HS
        have hO2 := HOUT.out.kept HK2.out
        have hN2 := HN.out
        clear HOUT HN
        generalize roundOf W i = l2 at *
        generalize circlePart W i = l1 at *
        rcases hN2 with ⟨hN2, ⟨rfl, rfl⟩ | ⟨hne2, g2, c2, rfl⟩⟩
        · have HO2 := Lib.hid hO2
          clear hO2
          go_wp2
          go_roundg (gk - 1)
          case measure => have := HIJ.out; omega
          case rel =>
            have := HIJ.out
            refine ⟨i + 1, by omega, by go_num, ?_, HK.out.trans HK2.out, HW.out.kept HK2.out⟩
            rw [HS.out, if_neg (fun h => h.1 rfl)]
            exact HO2.out
        · have hnew : NewN w w2 (.slice (some ⟨g2, 0, none⟩) l2.length c2) l2 := ⟨hN2, .inr ⟨hne2, g2, c2, rfl⟩⟩
          have HNEW := Lib.hid hnew
          have HNE := Lib.hid hne2
          clear hnew hne2 hN2
          rcases hO2 with ⟨hO2, ⟨rfl, rfl⟩ | ⟨hne1, g1, c1, rfl⟩⟩
          · go_wp2
            go_roundg (gk - 1)
            case measure => have := HIJ.out; omega
            case rel =>
              have := HIJ.out
              refine ⟨i + 1, by omega, by go_num, ?_, HK.out.trans HK2.out, HW.out.kept HK2.out⟩
              rw [HS.out, if_pos ⟨HNE.out, by simp⟩]
              exact HNEW.out
          · have hnew : NewN w w2 (.slice (some ⟨g1, 0, none⟩) l1.length c1) l1 := ⟨hO2, .inr ⟨hne1, g1, c1, rfl⟩⟩
            have HOLD := Lib.hid hnew
            have HNE1 := Lib.hid hne1
            clear hnew hne1 hO2
            by_cases hl : l2.length < l1.length
            · have HL := Lib.hid hl
              go_wp2
              go_roundg (gk - 1)
              case measure => have := HIJ.out; omega
              case rel =>
                have := HIJ.out
                refine ⟨i + 1, by omega, by go_num, ?_, HK.out.trans HK2.out, HW.out.kept HK2.out⟩
                rw [HS.out, if_pos ⟨HNE.out, .inr HL.out⟩]
                exact HNEW.out
            · have HL := Lib.hid hl
              go_wp2
              go_roundg (gk - 1)
              case measure => have := HIJ.out; omega
              case rel =>
                have := HIJ.out
                refine ⟨i + 1, by omega, by go_num, ?_, HK.out.trans HK2.out, HW.out.kept HK2.out⟩
                rw [HS.out, if_neg (fun h => h.2.elim HNE1.out HL.out)]
                exact HOLD.out
      · have e : i = W.n := by have := HIJ.out; omega
        subst e
        have hO2 := HOUT.out
        clear HOUT
        generalize circlePart W W.n = l1 at *
        rcases hO2 with ⟨hO2, ⟨rfl, rfl⟩ | ⟨hne1, g1, c1, rfl⟩⟩
        · go_wp2
          go_ret2
          exact ⟨_, rfl, NewN.nil _ _, HK.out⟩
        · have hnew : NewN w wr (.slice (some ⟨g1, 0, none⟩) l1.length c1) l1 := ⟨hO2, .inr ⟨hne1, g1, c1, rfl⟩⟩
          have HOLD := Lib.hid hnew
          have he : (!l1.isEmpty) = true := by simp [hne1]
          clear hnew hne1 hO2
          go_wp2
          go_ret2
          exact ⟨.slice (some ⟨g1, 0, none⟩) l1.length c1, by rw [he]; rfl, HOLD.out, HK.out⟩
  · have hr : circleL o = [] := by unfold circleL; rw [if_neg h]
    rw [hr]
    have H := Lib.hid h
    have hb : (chk o != 0) = true := by simp [h]
    clear hr h
    go_enter Try.func34, Try.ntmps34
    go_wp2_with fail
    obtain ⟨w0, e0, hk0, hb0, -⟩ := alloc_prob w o.N o.arcs o.near ao ca bo cb
    rw [e0]
    clear e0
    have HK0 := Lib.hid hk0
    clear hk0 hb0
    refine (open_bad o ao bo ca cb w0 (HO.out.kept HK0.out) H.out).mono ?_
    rintro e w1 ⟨rfl, hk1⟩
    have HK1 := Lib.hid (HK0.out.trans hk1)
    clear hk1
    go_wp2
    go_ret2
    exact ⟨_, rfl, NewN.nil _ _, HK1.out⟩

end Go.Proofs.Yteljjkghjbofnaa

/-! Regions whose first operations yield the same in a class of worlds, and whose others come behind them one after the other. -/
set_option maxRecDepth 100000
namespace Go.Proofs.Yteljjkghjbofnaa
open Go Go.Proofs Go.RowKit

section
variable {P : Program} {ops : Array Oper} {md : Region.Mode} {C : World → Prop}

/-- The first n operations come up, in any order; then L. -/
def headC (P : Program) (md : Region.Mode) (ops : Array Oper) (C : World → Prop) (n : Nat) (L : Array Bool → Act → Prop) : Nat → Array Bool → Act → Prop
  | 0, listed, a => L listed a
  | f + 1, listed, a => Region.ready md ops listed ≠ [] ∧ ∀ i ∈ Region.ready md ops listed, i < n ∧ qOp P ops C i (headC P md ops C n L f (listed.setIfInBounds i true)) a

theorem wpAny_of_headC {n g : Nat} {L : Array Bool → Act → Prop} {Q' : Exit → Act → World → Prop} (hL : ∀ listed a w, C w → L listed a → wpAny P md ops Q' g listed a w) :
    ∀ (f : Nat) (listed : Array Bool) (a : Act) (w : World), C w → headC P md ops C n L f listed a → wpAny P md ops Q' (f + g) listed a w
  | 0, listed, a, w, hw, h => by rw [Nat.zero_add]; exact hL _ _ _ hw h
  | f + 1, listed, a, w, hw, h => by
    rw [show f + 1 + g = (f + g) + 1 by omega]
    exact ⟨fun h0 => absurd h0 h.1, fun i hi => wpOp_of_qOp hw (fun a' w' hw' h' => wpAny_of_headC hL f _ a' w' hw' h') (h.2 i hi).2⟩

theorem headC_first {n i : Nat} {oi : Oper} {v : Value} {L : Array Bool → Act → Prop} (hi : ops[i]? = some oi) (hsel : ∀ (j : Nat) (o : Oper) cs b, ops[j]? = some o → o.op ≠ .select cs b)
    (hs : Region.sinkB md ops n = true) (hc : Region.chainB md ops n = true) (hn : n < ops.size) (hin : i < n)
    (hdone : ∀ listed a, L listed a → ∀ j ∈ Region.ready md ops listed, n ≤ j) :
    ∀ (f : Nat) (listed : Array Bool) (a : Act), HeadInv md ops n listed →
      (∀ j oj, ops[j]? = some oj → j ≠ i → listed.getD j true = false → (∀ e ∈ oj.after, Region.binds md e = true → e.on ≠ i) → oi.apart ops oj = true) →
      i ∈ Region.ready md ops listed → YieldsIn P ops C oi v a →
      headC P md ops C n L f (listed.setIfInBounds i true) (a.put oi.dst v) → headC P md ops C n L (f + 1) listed a := by
  intro f
  induction f with
  | zero =>
    intro listed a inv _ hr hy H
    refine ⟨fun h => (by rw [h] at hr; cases hr), fun j hj => ?_⟩
    have hjn : j < n := Nat.lt_of_not_le fun h => tail_waits hs hc hn inv _ i rfl hin (mem_ready.1 hr).1 j h hj
    refine ⟨hjn, ?_⟩
    by_cases hji : j = i
    · subst hji; exact hy.qOp hi H
    · have := hdone _ _ H j (ready_mono hj hji)
      omega
  | succ f ih =>
    intro listed a inv hfree hr hy H
    refine ⟨fun h => (by rw [h] at hr; cases hr), fun j hj => ?_⟩
    have hjn : j < n := Nat.lt_of_not_le fun h => tail_waits hs hc hn inv _ i rfl hin (mem_ready.1 hr).1 j h hj
    refine ⟨hjn, ?_⟩
    by_cases hji : j = i
    · subst hji; exact hy.qOp hi H
    obtain ⟨_, oj, hoj, hall⟩ := mem_ready.1 hj
    have hnot : ∀ e ∈ oj.after, Region.binds md e = true → e.on ≠ i := fun e he hb heq => by
      have h1 := hall e he hb
      rw [heq, getD_both (mem_ready.1 hr).1] at h1
      cases h1
    have hjun := (mem_ready.1 hj).1
    refine qOp_mono (fun a' h3 => ih (listed.setIfInBounds j true) a' (inv.set hj hjn) (fun k ok hk hki hun hno => hfree k ok hk hki ?_ hno) (ready_mono hr (Ne.symm hji)) h3.1 ?_)
      (qOp_put hoj (hfree j oj hoj hji hjun hnot) (fun cs b => hsel i oi cs b hi) (fun cs b => hsel j oj cs b hoj) hy (H.2 j (ready_mono hj hji)).2)
    · by_cases hjk : j = k
      · subst hjk; exact hjun
      · rwa [getD_set_ne true hjk] at hun
    · rw [Array.setIfInBounds_comm _ _ hji]
      exact h3.2

theorem headC_lex {n g : Nat} {Lq : Act → Prop} (hsel : Region.noSelect ops = true) (hs : Region.sinkB md ops n = true) (hc : Region.chainB md ops n = true) (hn : n < ops.size) :
    ∀ (l : List Oper) (k : Nat) (listed : Array Bool) (a : Act), (∀ j, j < l.length → l[j]? = ops[k + j]?) → k + l.length = n → HeadInv md ops n listed →
    Region.lexHead md ops g l.length k listed = true → wpQuiet P ops C Lq l a →
    headC P md ops C n (fun listed' a' => Region.seqB md ops g n listed' = true ∧ Lq a') l.length listed a
  | [], k, listed, a, _, hk, _, hB, h => by
    have : k = n := by simpa using hk
    subst this
    exact ⟨by simpa [Region.lexHead] using hB, h⟩
  | o :: l, k, listed, a, hl, hk, inv, hB, h => by
    have h0 : ops[k]? = some o := by simpa using (hl 0 (by simp)).symm
    simp only [List.length_cons, Region.lexHead, Bool.and_eq_true] at hB
    obtain ⟨⟨hr, hf⟩, hB'⟩ := hB
    have hkn : k < n := by simp only [List.length_cons] at hk; omega
    have hr' : k ∈ Region.ready md ops listed := by simpa using hr
    obtain ⟨v, hy, hK⟩ := yieldsIn_of_qOp (K := wpQuiet P ops C Lq l) h0 (by unfold qOp; simp only [h0]; exact h)
    exact headC_first h0 (Region.noSelect_spec hsel) hs hc hn hkn (fun listed' a' hL => seqB_ready hL.1) l.length listed a inv (Region.free_spec h0 hf) hr' hy
      (headC_lex hsel hs hc hn l (k + 1) _ _ (fun j hj => by have := hl (j + 1) (by simp; omega); simpa [Nat.add_assoc, Nat.add_comm 1 j] using this) (by simp only [List.length_cons] at hk; omega) (inv.set hr' hkn) hB' hK)

theorem wpAny_class {l : List Oper} {Q : Exit → Act → World → Prop} {a : Act} {w : World} (n : Nat) (hB : Region.lexTailB .any l.toArray n = true) (hC : C w.drew)
    (h : wpQuiet P l.toArray C (fun a' => ∀ X, C X → wpList P l.toArray Q (l.drop n) a' X) (l.take n) a) : wpAny P .any l.toArray Q l.toArray.size (Array.replicate l.toArray.size false) a w.drew := by
  simp only [Region.lexTailB, Bool.and_eq_true, decide_eq_true_eq] at hB
  obtain ⟨⟨⟨⟨hsel, hn⟩, hs⟩, hc⟩, hlex⟩ := hB
  have hn' : n < l.length := by simpa using hn
  have htl : (l.take n).length = n := by simp; omega
  have hdl : (l.drop n).length = l.toArray.size - n := by simp
  have inv0 : HeadInv .any l.toArray n (Array.replicate l.toArray.size false) :=
    ⟨by simp, fun j oj _ hl => (by rw [getD_replicate_false] at hl; cases hl), fun t _ ht => getD_in (by simpa using ht) (getD_replicate_false _ _)⟩
  have H := headC_lex (C := C) (md := .any) (g := l.toArray.size - n) hsel hs hc hn (l.take n) 0 _ a (fun j hj => by
    have hj' : j < n := by rw [htl] at hj; exact hj
    simp [hj']) (by simpa using htl) inv0 (by rw [htl]; exact hlex) h
  have := wpAny_of_headC (Q' := Q) (g := l.toArray.size - n) (fun listed a' X hX hL => by
    have := wpAny_of_seq (md := .any) (Q' := Q) (l.drop n) n listed a' X (fun j => by simp [List.getElem?_drop]) (by rw [hdl]; exact hL.1) (hL.2 X hX)
    rwa [hdl] at this) _ _ _ _ hC H
  rwa [htl, show n + (l.toArray.size - n) = l.toArray.size by omega] at this

theorem region_class {id : Nat} {Q : Exit → Act → World → Prop} {a : Act} {w : World} {l : List Oper} (C : World → Prop) (n : Nat) (hm : P.follows .mixedOrders = true) (hB : Region.lexTailB .any l.toArray n = true) (hC : C w.drew)
    (h : wpQuiet P l.toArray C (fun a' => ∀ X, C X → wpList P l.toArray Q (l.drop n) a' X) (l.take n) a) : (Code.region id l.toArray true).wp P Q a w :=
  wp_region_any hm (wpAny_class n hB hC h)

theorem regionIn_class {id m : Nat} {L : Nat} {Q : Exit → Act → World → Prop} {a : Act} {w : World} {l : List Oper} (C : World → Prop) (n : Nat) (hm : P.follows .mixedOrders = true) (hB : Region.lexTailB .any l.toArray n = true)
    (hd : l.all (fun o : Oper => match o.op with | .defer _ => false | _ => true) = true) (hC : C w.drew)
    (h : wpQuiet P l.toArray C (fun a' => ∀ X, C X → wpList P l.toArray (onlyN Q) (l.drop n) a' X) (l.take n) a) : (Code.region id l.toArray true).wpIn (Fence.wide.inRound L) m P Q a w :=
  wpIn_region_any hm (wpAnyIn_of_wpAny (fun i o ho c e => by
    have := List.all_eq_true.1 hd o (by have := List.mem_of_getElem? (by simpa using ho : l[i]? = some o); exact this)
    rw [e] at this
    cases this) _ _ _ _ (wpAny_class n hB hC h))
theorem wpQuiet_yield {Q : Act → Prop} {a : Act} {o : Oper} {rest : List Oper} (v : Value) (hw : Region.wanted o (yielded ops a.tmps) = true) (h : ∀ X, C X → o.quietAt P a C X v) (hn : wpQuiet P ops C Q rest (a.put o.dst v)) : wpQuiet P ops C Q (o :: rest) a := by
  unfold wpQuiet
  rw [if_pos hw]
  exact ⟨v, h, hn⟩
end

end Go.Proofs.Yteljjkghjbofnaa

/-! Counting orders: the model, the memory of the closure that counts. -/
set_option maxRecDepth 100000
namespace Go.Proofs.Yteljjkghjbofnaa
open Go Go.Proofs Go.RowKit
open Go.Maps (Keyed)

/-! ### The model -/

/-- How many patches are not in d. -/
def rest (W : Web) (d : S) : Nat := ((List.range W.n).filter fun p => !hasS d p).length
/-- In how many orders what is not in d may follow d. -/
def cntF (W : Web) : Nat → S → Int
  | 0, _ => 0
  | f + 1, d => if d = wholeS W.n then 1 else (readyL W d).foldl (fun s p => wrap64 (s + cntF W f (d ||| oneS p))) 0
def cnt (W : Web) (d : S) : Int := cntF W (rest W d + 1) d
def cntSum (W : Web) (d : S) (l : List Nat) : Int := l.foldl (fun s p => wrap64 (s + cnt W (d ||| oneS p))) 0

theorem filter_length_lt {α : Type} {p q : α → Bool} {l : List α} (h : ∀ x ∈ l, p x = true → q x = true) {y : α} (hy : y ∈ l) (hp : p y = false) (hq : q y = true) : (l.filter p).length < (l.filter q).length := by
  induction l with
  | nil => cases hy
  | cons x l ih =>
    have hle : (l.filter p).length ≤ (l.filter q).length := by
      clear ih hy
      have h' := fun z (hz : z ∈ l) => h z (List.mem_cons_of_mem _ hz)
      clear h
      induction l with
      | nil => simp
      | cons z l ih =>
        have := ih (fun u hu => h' u (List.mem_cons_of_mem _ hu))
        have h1 := h' z (List.mem_cons_self ..)
        simp only [List.filter_cons]
        split <;> split <;> simp_all <;> omega
    rcases List.mem_cons.1 hy with rfl | hy
    · simp [hp, hq]; omega
    · have := ih (fun u hu => h u (List.mem_cons_of_mem _ hu)) hy
      have h1 := h x (List.mem_cons_self ..)
      simp only [List.filter_cons]
      split <;> split <;> simp_all <;> omega

theorem rest_lt {W : Web} {d : S} {p : Nat} (hn : W.n ≤ 32) (h : p ∈ readyL W d) : rest W (d ||| oneS p) < rest W d := by
  obtain ⟨h1, h2⟩ := mem_readyL.1 h
  have hp : hasS d p = false := by unfold readyB at h2; simp at h2; exact h2.1
  unfold rest
  refine filter_length_lt (fun q hq h => ?_) (List.mem_range.2 h1) ?_ ?_
  · have hq' := List.mem_range.1 hq
    simp at h ⊢
    exact h.1
  · rw [hasS_or, hasS_one p p (by omega)]
    simp
  · simp [hp]

theorem cntF_eq {W : Web} (hn : W.n ≤ 32) : ∀ (f : Nat) (d : S), rest W d < f → cntF W f d = cnt W d := by
  suffices h : ∀ (f g : Nat) (d : S), rest W d < f → rest W d < g → cntF W f d = cntF W g d from fun f d hf => h f _ d hf (Nat.lt_succ_self _)
  intro f
  induction f with
  | zero => intro g d h; omega
  | succ f ih =>
    intro g d hf hg
    cases g with
    | zero => omega
    | succ g =>
      unfold cntF
      split
      · rfl
      · have e : ∀ (l : List Nat), (∀ p ∈ l, p ∈ readyL W d) → ∀ s, l.foldl (fun s p => wrap64 (s + cntF W f (d ||| oneS p))) s = l.foldl (fun s p => wrap64 (s + cntF W g (d ||| oneS p))) s := by
          intro l
          induction l with
          | nil => intro _ s; rfl
          | cons p l ihl =>
            intro hl s
            have hr := rest_lt hn (hl p (List.mem_cons_self ..))
            simp only [List.foldl_cons]
            rw [ih g _ (by omega) (by omega)]
            exact ihl (fun q hq => hl q (List.mem_cons_of_mem _ hq)) _
        exact e _ (fun _ h => h) 0
theorem cnt_eq {W : Web} (hn : W.n ≤ 32) (d : S) : cnt W d = if d = wholeS W.n then 1 else cntSum W d (readyL W d) := by
  rw [← cntF_eq hn (rest W d + 1) d (Nat.lt_succ_self _)]
  conv => lhs; unfold cntF
  split
  · rfl
  · unfold cntSum
    have e : ∀ (l : List Nat), (∀ p ∈ l, p ∈ readyL W d) → ∀ s, l.foldl (fun s p => wrap64 (s + cntF W (rest W d) (d ||| oneS p))) s = l.foldl (fun s p => wrap64 (s + cnt W (d ||| oneS p))) s := by
      intro l
      induction l with
      | nil => intro _ s; rfl
      | cons p l ihl =>
        intro hl s
        have hr := rest_lt hn (hl p (List.mem_cons_self ..))
        simp only [List.foldl_cons]
        rw [cntF_eq hn _ _ (by omega)]
        exact ihl (fun q hq => hl q (List.mem_cons_of_mem _ hq)) _
    exact e _ (fun _ h => h) 0

theorem wrap64_wf' (x : Int) : (Lit.int .i64 (wrap64 x)).wf = true := wrap64_wf x
theorem cntSum_wf (W : Web) (d : S) (l : List Nat) : (Lit.int .i64 (cntSum W d l)).wf = true := by
  unfold cntSum
  rcases List.eq_nil_or_concat l with rfl | ⟨l', p, rfl⟩
  · exact (by decide : (Lit.int .i64 0).wf = true)
  · simp only [List.concat_eq_append, List.foldl_append, List.foldl_cons, List.foldl_nil]
    exact wrap64_wf _
theorem cnt_wf {W : Web} (hn : W.n ≤ 32) (d : S) : (Lit.int .i64 (cnt W d)).wf = true := by
  rw [cnt_eq hn]
  split
  · decide
  · exact cntSum_wf _ _ _

/-! ### The map -/

def keyS (d : S) : Lit := .int .u32 (sI d)
theorem keyS_wf (d : S) : (keyS d).wf = true := by
  have := d.isLt
  unfold keyS sI
  simp only [Lit.wf, Bool.and_eq_true, decide_eq_true_eq]
  exact ⟨by show (0 : Int) ≤ _; omega, by show _ ≤ (4294967295 : Int); omega⟩
theorem keyOfS (d : S) : keyOf Try.prog 93 (.int .u32 (sI d)) = some (keyS d) := Maps.keyOf_int_mk Try.underlying93 (keyS_wf d)
theorem keyed93 : Keyed Try.prog 93 := Maps.int_keyed Try.underlying93
theorem keyS_inj {a b : S} (h : keyS a = keyS b) : a = b := by
  unfold keyS sI at h
  simp only [Lit.int.injEq, true_and] at h
  exact BitVec.eq_of_toNat_eq (by omega)

theorem nodup_bound {l : List Nat} {N : Nat} (h : l.Nodup) (hb : ∀ x ∈ l, x < N) : l.length ≤ N := by
  have := List.Nodup.length_le_of_subset h (fun x hx => List.mem_range.2 (hb x hx))
  simpa using this

theorem keyOf93 {v : Value} {l : Lit} (h : keyOf Try.prog 93 v = some l) : ∃ a : Int, l = .int .u32 a ∧ 0 ≤ a ∧ a ≤ 4294967295 := by
  have e : keyOf Try.prog 93 v = mapKey Try.prog 93 v := by simp [keyOf, Try.underlying93]
  rw [e] at h
  cases v <;> simp [mapKey, Try.underlying93] at h
  obtain ⟨⟨rfl, hw⟩, rfl⟩ := h
  refine ⟨_, rfl, ?_⟩
  simp only [Lit.wf, Bool.and_eq_true, decide_eq_true_eq] at hw
  exact ⟨hw.1, hw.2⟩

theorem owns_tight {w : World} {R : Value → Option (DataW Unit × List MemPlace)} {b n : Nat} {D : DataW Unit} (h : w.ownsMap Try.prog 93 R b n D) : w.ownsMap Try.prog 93 R b 4294967296 D := by
  obtain ⟨es, clock, hb, F, hs, hD⟩ := h
  refine ⟨es, clock, hb, F, ?_, hD⟩
  have hk := Maps.fit_keys F
  have ha := Maps.fit_apart keyed93 F
  generalize hL : es.toList.map (WideElems.rg Try.prog 93 R) = L at hk ha
  have hlen : L.length = es.size := by rw [← hL]; simp
  have hn : (L.map fun p => match p.1 with | .int _ a => a.toNat | _ => 0).Nodup := by
    rw [List.nodup_iff_pairwise_ne, List.pairwise_map]
    refine List.Pairwise.imp_of_mem (fun {x y} hx hy hne he => ?_) ha
    obtain ⟨v, hv⟩ := hk x hx
    obtain ⟨u, hu⟩ := hk y hy
    obtain ⟨a, ea, ha1, ha2⟩ := keyOf93 hv
    obtain ⟨b, eb, hb1, hb2⟩ := keyOf93 hu
    rw [ea, eb] at he
    simp only at he
    exact hne (by rw [ea, eb, show a = b by omega])
  have := nodup_bound (N := 4294967296) hn (fun x hx => by
    obtain ⟨p, hp, rfl⟩ := List.mem_map.1 hx
    obtain ⟨v, hv⟩ := hk p hp
    obtain ⟨a, ea, ha1, ha2⟩ := keyOf93 hv
    rw [ea]
    simp only
    omega)
  rw [List.length_map, hlen] at this
  exact this

/-- What the closure that counts looks into: the boxes of the map, of the web and of itself; each number in the map is right. -/
structure Memo (kb wb cb mb b : Nat) (W : Web) (X : World) : Prop where
  known : X.cell? ⟨kb, 0, none⟩ = some (.map (some mb))
  web : X.cell? ⟨wb, 0, none⟩ = some (.pointer (some ⟨b, 0, none⟩))
  clo : X.cell? ⟨cb, 0, none⟩ = some (.func (.func 145) #[] #[.pointer (some ⟨kb, 0, none⟩), .pointer (some ⟨wb, 0, none⟩), .pointer (some ⟨cb, 0, none⟩)])
  at_ : WebAt X b W
  map : ∃ D : DataW Unit, X.ownsMap Try.prog 93 (plainElem Try.prog 3) mb 4294967296 D ∧ (∀ d, Maps.has D (keyS d) = true → D.atKey (keyS d) (.lit (.int .i64 0)) = .lit (.int .i64 (cnt W d))) ∧ Maps.has D (keyS (wholeS W.n)) = true

section
variable {kb wb cb mb b : Nat} {W : Web} {X Y : World}
theorem Memo.kept {row : Option Nat} (h : Memo kb wb cb mb b W X) (hg : X.grownBy Y row) (h1 : some kb ≠ row) (h2 : some wb ≠ row) (h3 : some cb ≠ row) (h4 : some mb ≠ row) (h5 : some b ≠ row) : Memo kb wb cb mb b W Y :=
  ⟨hg.cell h.known h1, hg.cell h.web h2, hg.cell h.clo h3, h.at_.grownNe hg h5, let ⟨D, d1, d2⟩ := h.map; ⟨D, d1.kept hg h4, d2⟩⟩
theorem Memo.lt (h : Memo kb wb cb mb b W X) : kb < X.heap.size ∧ wb < X.heap.size ∧ cb < X.heap.size ∧ mb < X.heap.size ∧ b < X.heap.size :=
  ⟨lt_of_cell h.known, lt_of_cell h.web, lt_of_cell h.clo, let ⟨_, d1, _⟩ := h.map; d1.lt, lt_of_cell h.at_.n⟩
theorem Memo.past (h : Memo kb wb cb mb b W X) {B : Nat} {row : Option Nat} (hg : X.grownBy Y row) (hB : kb < B ∧ wb < B ∧ cb < B ∧ mb < B ∧ b < B) (hr : ∀ r, row = some r → B ≤ r) : Memo kb wb cb mb b W Y :=
  h.kept hg (fun e => by have := hr _ e.symm; omega) (fun e => by have := hr _ e.symm; omega) (fun e => by have := hr _ e.symm; omega) (fun e => by have := hr _ e.symm; omega) (fun e => by have := hr _ e.symm; omega)
theorem Memo.ne (h : Memo kb wb cb mb b W X) : kb ≠ mb ∧ wb ≠ mb ∧ cb ≠ mb ∧ b ≠ mb := by
  obtain ⟨D, ⟨es, clock, hb, _⟩, _⟩ := h.map
  refine ⟨fun e => ?_, fun e => ?_, fun e => ?_, fun e => ?_⟩
  · have := h.known; rw [e] at this; simp [World.cell?, hb] at this
  · have := h.web; rw [e] at this; simp [World.cell?, hb] at this
  · have := h.clo; rw [e] at this; simp [World.cell?, hb] at this
  · have := h.at_.n; rw [e] at this; simp [World.cell?, hb] at this
theorem Memo.keptBy (h : Memo kb wb cb mb b W X) (hk : Kept X Y) : Memo kb wb cb mb b W Y := by
  obtain ⟨D, ⟨es, clock, hb, F, hs, hD⟩, d2⟩ := h.map
  exact ⟨hk.cell h.known, hk.cell h.web, hk.cell h.clo, h.at_.kept hk, D, ⟨es, clock, (hk.below.block mb (Array.getElem?_eq_some_iff.1 hb).1).trans hb, F, hs, hD⟩, d2⟩
/-- The map has got a number more. -/
theorem Memo.put {n : Nat} {D : DataW Unit} (h : Memo kb wb cb mb b W X) (hD : Maps.has D (keyS (wholeS W.n)) = true) (hs : ∀ d, Maps.has D (keyS d) = true → D.atKey (keyS d) (.lit (.int .i64 0)) = .lit (.int .i64 (cnt W d))) (hm : Maps.IsMap D)
    {d : S} (hown : Y.ownsMap Try.prog 93 (plainElem Try.prog 3) mb n (D.put (keyS d) (.lit (.int .i64 (cnt W d))))) (hg : X.grownBy Y (some mb)) : Memo kb wb cb mb b W Y := by
  obtain ⟨n1, n2, n3, n4⟩ := h.ne
  have hne : ∀ {k : Nat}, k ≠ mb → some k ≠ some mb := fun h e => h (Option.some.inj e)
  refine ⟨hg.cell h.known (hne n1), hg.cell h.web (hne n2), hg.cell h.clo (hne n3), h.at_.grownNe hg (hne n4), _, owns_tight hown, fun d' hd' => ?_, ?_⟩
  · by_cases e : d' = d
    · subst e
      exact Maps.atKey_put_same hm (keyed93.key (keyOfS _)) _ _
    · have hk : keyS d' ≠ keyS d := fun h => e (keyS_inj h)
      rw [Maps.atKey_put_other hk]
      rw [Maps.has_put_other hk] at hd'
      exact hs d' hd'
  · by_cases e : wholeS W.n = d
    · rw [e]; exact Maps.has_put_same hm (keyed93.key (keyOfS _)) _
    · rw [Maps.has_put_other (fun h => e (keyS_inj h))]
      exact hD
end

end Go.Proofs.Yteljjkghjbofnaa

/-! The closure that counts. -/
set_option maxRecDepth 100000
namespace Go.Proofs.Yteljjkghjbofnaa
open Go Go.Proofs Go.RowKit
attribute [local go_sem] Oper.semAt_some

theorem zero3 (w : World) : (zeroValue 3).run Try.prog w = .ok (.int .i64 0) w := by kernel_rfl

def CountPost (kb wb cb mb b : Nat) (W : Web) (d : S) (w : World) (e : Ending) (w' : World) : Prop :=
  e = .returned (.int .i64 (cnt W d)) ∧ w.grownBy w' (some mb) ∧ Memo kb wb cb mb b W w'

theorem grownBy_shuts {B : Nat} {w X Y : World} {row : Option Nat} (h : w.grownBy X row) (hs : Shuts B X Y) (hB : w.heap.size ≤ B) : w.grownBy Y row :=
  ⟨hs.os.trans h.os, hs.tape.trans h.tape, hs.output.trans h.output, by rw [hs.size]; exact h.size, fun k hk hr => (hs.low k (by omega)).trans (h.block k hk hr)⟩
theorem WebAt.shuts {b B : Nat} {W : Web} {X Y : World} (h : WebAt X b W) (hs : Shuts B X Y) : WebAt Y b W :=
  ⟨hs.cell h.n, fun a ha => hs.cell (h.to a ha), fun a ha => hs.cell (h.reach a ha), fun a ha => hs.cell (h.near a ha), fun o => (hs.frozen h.n).trans (h.free o)⟩
theorem Memo.shuts {kb wb cb mb b B : Nat} {W : Web} {X Y : World} (h : Memo kb wb cb mb b W X) (hs : Shuts B X Y) (hB : mb < B) : Memo kb wb cb mb b W Y := by
  obtain ⟨D, ⟨es, clock, hb, F, hsz, hD⟩, d2⟩ := h.map
  exact ⟨hs.cell h.known, hs.cell h.web, hs.cell h.clo, h.at_.shuts hs, D, ⟨es, clock, (hs.low mb hB).trans hb, F, hsz, hD⟩, d2⟩

theorem grownBy_past {w Y Z : World} {r row : Option Nat} (h : w.grownBy Y r) (hg : Y.grownBy Z row) (hr : ∀ k, row = some k → w.heap.size ≤ k) : w.grownBy Z r :=
  ⟨hg.os.trans h.os, hg.tape.trans h.tape, hg.output.trans h.output, Nat.le_trans h.size hg.size, fun k hk hn => (hg.block k (Nat.lt_of_lt_of_le hk h.size) (fun e => by have := hr k e.symm; omega)).trans (h.block k hk hn)⟩
theorem grownBy_kept {w Y Z : World} {r : Option Nat} (h : w.grownBy Y r) (hk : Kept Y Z) : w.grownBy Z r :=
  ⟨hk.below.os.trans h.os, hk.below.tape.trans h.tape, hk.below.output.trans h.output, Nat.le_trans h.size hk.size, fun k hk' hn => (hk.below.block k (Nat.lt_of_lt_of_le hk' h.size)).trans (h.block k hk' hn)⟩
theorem grownBy_new {w Y Z : World} {r : Option Nat} (h : w.grownBy Y r) (hg : Y.grownBy Z r) : w.grownBy Z r := h.trans hg
theorem grownBy_set {w Y : World} {r : Option Nat} (h : w.grownBy Y r) {p : Nat} (hp : w.heap.size ≤ p) (v : Value) : w.grownBy (Y.setCell ⟨p, 0, none⟩ v) r :=
  grownBy_past h (grownBy_setCell' Y p v) (fun k e => by cases e; exact hp)


set_option maxHeartbeats 1600000 in
theorem count_any (kb wb cb mb b : Nat) (W : Web) (hn : W.n ≤ 24) : ∀ (f : Nat) (d : S) (w : World), rest W d < f → Memo kb wb cb mb b W w →
    Calls Try.prog 145 #[.int .u32 (sI d), .pointer (some ⟨kb, 0, none⟩), .pointer (some ⟨wb, 0, none⟩), .pointer (some ⟨cb, 0, none⟩)] w (CountPost kb wb cb mb b W d w) := by
  intro f
  induction f with
  | zero => intro d w h; omega
  | succ f ih =>
    intro d w hf hm
    have IH := Lib.hid ih
    have HF := Lib.hid hf
    have HM := Lib.hid hm
    clear ih hf hm
    refine calls_of_wp_marks Try.func145 rfl ?_
    simp only [Try.ntmps145, List.size_toArray, List.length_cons, List.length_nil, Nat.reduceAdd, Nat.reduceSub, Array.replicate_succ, Array.replicate_zero, List.push_toArray, List.append_toArray, List.nil_append, List.cons_append]
    obtain ⟨D, hD, hDs, hDw⟩ := HM.out.map
    have HD := Lib.hid hD
    have HDS := Lib.hid hDs
    have HDW := Lib.hid hDw
    clear hD hDs hDw
    have hknown := HM.out.known
    have hweb := HM.out.web
    have hlt := HM.out.lt.1
    have hltw := HM.out.lt.2.1
    go_wp2_with (first | (at_lookup; refine wpList_lookup_own_ok_int _ rfl _ _ 156 rfl 93 3 .i64 keyed93 Try.underlying156 Try.underlying3 (zero3 _) mb 4294967296 D rfl (HD.out.alloc _) _ _ rfl (keyOfS d) ?_; intro c hat hwc; have HAT := Lib.hid hat; have HWC := Lib.hid hwc; clear hat hwc; have HHAS : Hid (Maps.has D (keyS d) = true → c = cnt W d) := (fun h => by have e := (HDS.out d h).symm.trans HAT.out; simpa using e.symm); (cases hh : Maps.has D (keyS d)) <;> (have HH := Lib.hid hh; clear hh)))
    · refine (ready_any b W d _ (HM.out.at_.kept (((Kept.refl w).alloc _).alloc _))).mono ?_
      have hn8 : ((w.alloc (.cells #[.int .u32 (sI d)] 93)).alloc (.cells #[.int .i64 0] 3)).cell? ⟨w.heap.size + 1, 0, none⟩ = some (.int .i64 0) := by simp [go_sem]
      have hf8 : ((w.alloc (.cells #[.int .u32 (sI d)] 93)).alloc (.cells #[.int .i64 0] 3)).frozen? ⟨w.heap.size + 1, 0, none⟩ = false := by simp [go_sem]
      have hp4 : ((w.alloc (.cells #[.int .u32 (sI d)] 93)).alloc (.cells #[.int .i64 0] 3)).cell? ⟨w.heap.size, 0, none⟩ = some (.int .u32 (sI d)) := by simp [go_sem]
      have hk0 : Kept w ((w.alloc (.cells #[.int .u32 (sI d)] 93)).alloc (.cells #[.int .i64 0] 3)) := ((Kept.refl w).alloc _).alloc _
      have hs0 : ((w.alloc (.cells #[.int .u32 (sI d)] 93)).alloc (.cells #[.int .i64 0] 3)).heap.size = w.heap.size + 2 := by simp
      generalize ((w.alloc (.cells #[.int .u32 (sI d)] 93)).alloc (.cells #[.int .i64 0] 3)) = w0 at *
      obtain ⟨p4, hp4e⟩ : ∃ p4, w.heap.size = p4 := ⟨_, rfl⟩
      rintro e X1 ⟨c1, c2, rfl, hc1, hc2, hstat, hk1⟩
      have HS1 := Lib.hid hstat
      have HB : Hid (c1 ≠ mb ∧ c2 ≠ mb ∧ p4 ≠ c1 ∧ p4 ≠ c2 ∧ p4 + 1 ≠ c1 ∧ p4 + 1 ≠ c2 ∧ p4 + 1 < X1.heap.size ∧ p4 + 1 < X1.heap.size) := by
        have h1 := HM.out.lt
        have h2 := hk1.size
        exact ⟨by omega, by omega, by omega, by omega, by omega, by omega, by omega, by omega⟩
      have HN8 := Lib.hid (hk1.cell hn8)
      have HF8 := Lib.hid ((hk1.cells.2 _ 0 (lt_of_cell hn8)).trans hf8)
      have HP4 := Lib.hid (hk1.cell hp4)
      have HG := Lib.hid (grownBy_kept (World.grownBy.refl w (some mb)) (hk0.trans hk1))
      have HM1 := Lib.hid (HM.out.keptBy (hk0.trans hk1))
      clear hn8 hf8 hp4 hk0 hs0 hc1 hc2 hstat hk1 hknown hweb hlt hltw
      rw [hp4e] at HN8 HF8 HP4 ⊢
      have HW : Hid (w.heap.size = p4) := hp4e
      clear hp4e
      go_wp2_with fail
      refine range_ready (c1 := c1) (c2 := c2) (b := b) (W := W) (d := d) rfl HS1.out hn rfl
        (fun xs Y => Y.cell? ⟨p4 + 1, 0, none⟩ = some (.int .i64 (cntSum W d (xs.map Subtype.val))) ∧ Y.frozen? ⟨p4 + 1, 0, none⟩ = false ∧ Y.cell? ⟨p4, 0, none⟩ = some (.int .u32 (sI d)) ∧ Memo kb wb cb mb b W Y ∧ w.grownBy Y (some mb))
        (fun cd pre Y => False) ?hI ?hIx ⟨HN8.out, HF8.out, HP4.out, HM1.out, HG.out⟩ (fun x => { tmps := #[.int .u32 (sI d), .pointer (some ⟨kb, 0, none⟩), .pointer (some ⟨wb, 0, none⟩), .pointer (some ⟨cb, 0, none⟩), .pointer (some ⟨p4, 0, none⟩), .int .i64 0, .int .i64 c,
          .bool false, .pointer (some ⟨p4 + 1, 0, none⟩), .int .i64 x.val, .tuple #[.int .i64 c, .bool false], .map (some mb), .int .u32 (sI d), .tuple #[.int .i64 c, .bool false], .int .i64 c, .bool false,
          .bool false, undef, .pointer (some ⟨b, 0, none⟩), .int .u32 (sI d), .func (.func 146) #[] #[.pointer (some ⟨c1, 0, none⟩), .pointer (some ⟨c2, 0, none⟩)], .int .i64 x.val, undef, undef, undef, undef, undef, undef, undef, undef, undef, undef, undef, undef], defers := [] }) ?assign ?body ?done ?stop
      case hI =>
        rintro xs A Z row ⟨h1, h2, h3, h4, h5⟩ hg hr
        have h6 := HM1.out.lt
        have h7 := HB.out
        have h8 := HG.out.size
        exact ⟨cell_kept h1 hg (fun r e => (hr r e).2), (frozen_kept h1 hg (fun r e => (hr r e).2)).trans h2, cell_kept h3 hg (fun r e => (hr r e).2), h4.past hg h6 (fun r e => (hr r e).1), grownBy_past h5 hg (fun r e => Nat.le_trans h8 (hr r e).1)⟩
      case hIx => rintro cd xs A Z row h; exact h.elim
      case assign =>
        intro l x X K hK
        gi_wp2
        exact hK
      case done =>
        rintro De xs X hD hxs ⟨h1, h2, h3, h4, h5⟩ hdef
        rw [hxs] at h1
        have HCNT : Hid (cntSum W d (readyL W d) = cnt W d) := by
          show _ = _
          rw [cnt_eq (by omega), if_neg (fun e => ?_)]
          have := HDW.out
          rw [← e, HH.out] at this
          cases this
        rw [HCNT.out] at h1
        have HPD := Lib.hid hD
        have H4 := Lib.hid h4
        have H5 := Lib.hid h5
        have HDEF := Lib.hid hdef
        have hkn := h4.known
        obtain ⟨D2, hD2, hDs2, hDw2⟩ := h4.map
        have HD2 := Lib.hid hD2
        have HDS2 := Lib.hid hDs2
        have HDW2 := Lib.hid hDw2
        have H1 := Lib.hid h1
        have H3 := Lib.hid h3
        have HISM := Lib.hid hD2.isMap
        clear hD hxs h4 h5 hdef h2 hD2 hDs2 hDw2
        go_wp2_with (at_mapUpdate; refine wpList_mapUpdate_own _ rfl _ _ _ 156 rfl 93 3 keyed93 Try.underlying156 _ mb 4294967296 D2 rfl HD2.out (by unfold maxLen; omega) _ _ _ rfl rfl (keyOfS d) (.lit (.int .i64 (cnt W d))) [] (plainElem_int Try.underlying3 (cnt_wf (by omega) d)) ?_; intro w2 hown2 hgrow2; have hne8 : some (p4 + 1) ≠ some mb := (fun e => by have h6 := HM.out.lt; have h7 := HW.out; simp at e; omega); have hc8 := hgrow2.cell (a := ⟨p4 + 1, 0, none⟩) (v := .int .i64 (cnt W d)) H1.out hne8; have HM2 := Lib.hid (Memo.put H4.out HDW2.out HDS2.out HISM.out hown2 hgrow2); have HG2 := Lib.hid hgrow2; clear hown2 hgrow2 h1 h3 hkn hne8)
        have hd2 : w2.heap[De]? = some (.deferred (some [])) := (HG2.out.block De (Array.getElem?_eq_some_iff.1 HDEF.out).1 (fun e => by have := HM1.out.lt; have := HPD.out; have := Option.some.inj e; omega)).trans HDEF.out
        refine leaves_marks (B := X1.heap.size) [De] _ (fun D' hD' => by simp at hD'; subst hD'; exact ⟨HPD.out, hd2⟩) (by simp) (fun w' hs => ⟨_, results_tmp rfl _ _ _, ?_⟩)
        exact ⟨rfl, grownBy_shuts (H5.out.trans HG2.out) hs HG.out.size, HM2.out.shuts hs HM1.out.lt.2.2.2.1⟩
      case stop => rintro D cd pre Y _ _ h; exact h.elim
      case body =>
        rintro l pre x Y ⟨h1, h2, h3, h4, h5⟩ hstat
        have NXT : Hid (cntSum W d ((pre ++ [x]).map Subtype.val) = wrap64 (cntSum W d (pre.map Subtype.val) + cnt W (d ||| oneS x.val))) := by
          show _ = _
          unfold cntSum
          rw [List.map_append, List.foldl_append]
          rfl
        generalize cntSum W d (pre.map Subtype.val) = s at h1 NXT
        have H1 := Lib.hid h1
        have H2 := Lib.hid h2
        have H3 := Lib.hid h3
        have H4 := Lib.hid h4
        have H5 := Lib.hid h5
        have HT := Lib.hid hstat
        clear h1 h2 h3 h4 h5 hstat
        have hx32 : x.val < 32 := by have := (mem_readyL.1 x.2).1; omega
        have hrest : rest W (d ||| oneS x.val) < f := by have := rest_lt (by omega) x.2; have := HF.out; omega
        have hne8 : some (p4 + 1) ≠ some mb := fun e => by have h6 := HM.out.lt; have h7 := HW.out; simp at e; omega
        have hne4 : some p4 ≠ some mb := fun e => by have h6 := HM.out.lt; have h7 := HW.out; simp at e; omega
        gi_wp2_with fail
        refine regionIn_class (fun Z => Y.grownBy Z (some mb) ∧ Memo kb wb cb mb b W Z) 7 (by kernel_rfl) (by kernel_rfl) (by kernel_rfl) ⟨⟨rfl, rfl, rfl, Nat.le_refl _, fun _ _ _ => rfl⟩, H4.out.keptBy (Kept.refl Y).drew⟩ ?_
        simp only [List.take_succ_cons, List.take_zero, List.drop_succ_cons, List.drop_zero]
        refine wpQuiet_yield (.int .i64 s) (by rfl) (fun Z hZ => ?_) ?_
        · have hc := hZ.1.cell (a := ⟨p4 + 1, 0, none⟩) (v := .int .i64 s) H1.out hne8
          go_simp
        refine wpQuiet_yield (.func (.func 145) #[] #[.pointer (some ⟨kb, 0, none⟩), .pointer (some ⟨wb, 0, none⟩), .pointer (some ⟨cb, 0, none⟩)]) (by rfl) (fun Z hZ => ?_) ?_
        · have hc := hZ.2.clo
          go_simp
        refine wpQuiet_yield (.int .u32 (sI d)) (by rfl) (fun Z hZ => ?_) ?_
        · have hc := hZ.1.cell (a := ⟨p4, 0, none⟩) (v := .int .u32 (sI d)) H3.out hne4
          go_simp
        refine wpQuiet_yield (.int .i64 x.val) (by rfl) (fun Z hZ => ?_) ?_
        · go_simp
        refine wpQuiet_yield (.int .u32 (sI (oneS x.val))) (by rfl) (fun Z hZ => ?_) ?_
        · go_simp
          exact (one_any x.val Z hx32).mono fun e Z' h => ⟨h.1, h.2 ▸ hZ⟩
        refine wpQuiet_yield (.int .u32 (sI (d ||| oneS x.val))) (by rfl) (fun Z hZ => ?_) ?_
        · go_simp
        refine wpQuiet_yield (.int .i64 (cnt W (d ||| oneS x.val))) (by rfl) (fun Z hZ => ?_) ?_
        · go_simp
          exact (IH.out _ Z hrest hZ.2).mono fun e Z' h => ⟨h.1, hZ.1.trans h.2.1, h.2.2⟩
        simp only [Act.put, List.setIfInBounds_toArray, List.set_cons_zero, List.set_cons_succ]
        refine wpQuiet_nil ?_
        rintro Z ⟨hz1, hz2⟩
        have hc8 := hz1.cell (a := ⟨p4 + 1, 0, none⟩) (v := .int .i64 s) H1.out hne8
        have hf8 : Z.frozen? ⟨p4 + 1, 0, none⟩ = false := (World.frozen?_of_block (a := ⟨p4 + 1, 0, none⟩) (hz1.block (p4 + 1) (lt_of_cell H1.out) hne8)).trans H2.out
        have hc4 := hz1.cell (a := ⟨p4, 0, none⟩) (v := .int .u32 (sI d)) H3.out hne4
        have HZ1 := Lib.hid hz1
        have HZ2 := Lib.hid hz2
        have HC4 := Lib.hid hc4
        have HC8 := Lib.hid hc8
        clear hz1 hz2 hc4
        go_wp2
        unfold onlyN
        gi_wp2
        have hb := HB.out
        have hmlt := HM1.out.lt
        have hwlt := HM.out.lt
        have hw := HW.out
        have hset := grownBy_setCell' Z (p4 + 1) (.int .i64 (wrap64 (s + cnt W (d ||| oneS x.val))))
        refine ⟨(KeepsFrom.of_grownBy HZ1.out (fun j e => by cases e; exact hmlt.2.2.2.1)).trans (KeepsFrom.of_grownBy hset (fun j e => by cases e; exact hb.2.2.2.2.2.2.1)), ?_, ?_, ?_, ?_, ?_, ?_⟩
        · have hn := HM.out.ne
          have h1 := HT.out.grownNe (row := some mb) HZ1.out (fun e => hb.1 (Option.some.inj e)) (fun e => hb.2.1 (Option.some.inj e)) (fun e => hn.2.2.2 (Option.some.inj e))
          exact h1.grownNe hset (fun e => hb.2.2.2.2.1 (Option.some.inj e).symm) (fun e => hb.2.2.2.2.2.1 (Option.some.inj e).symm) (fun e => by have := Option.some.inj e; omega)
        · rw [NXT.out]; exact cell_set_same hc8
        · rw [World.frozen?_setCell]; exact hf8
        · exact cell_set_block HC4.out (by omega)
        · exact HZ2.out.past hset hwlt (fun r e => by cases e; omega)
        · exact grownBy_set (H5.out.trans HZ1.out) (by omega) _
    · have e : c = cnt W d := HHAS.out HH.out
      refine leaves_marks (B := w.heap.size) [] _ (fun D hD => by cases hD) List.nodup_nil (fun w' hs => ⟨_, results_tmp rfl _ _ _, ?_⟩)
      subst e
      exact ⟨rfl, grownBy_shuts (World.grownBy_alloc w _ _) hs (Nat.le_refl _), (HM.out.keptBy ((Kept.refl w).alloc _)).shuts hs HM.out.lt.2.2.2.1⟩
end Go.Proofs.Yteljjkghjbofnaa

/-! counter, counted, Count. -/
set_option maxRecDepth 100000
namespace Go.Proofs.Yteljjkghjbofnaa
open Go Go.Proofs Go.RowKit
open Go.Maps (Keyed)

theorem wpList_insert_own {H : Type} {P : Program} (w : World) {ops : Array Oper} {rest : List Oper} {o : Oper} {a : Act} {Q : Exit → Act → World → Prop}
    (hg : o.guard = none) (m x v : Operand) (t : TypeId) (hop : o.op = Op.insert t m x v)
    (k e : TypeId) (K : Keyed P k) (ht : P.underlying t = some (.map k e)) (R : Value → Option (DataW H × List MemPlace)) (b n : Nat) (D : DataW H)
    (hm : a.eval m = .map (some b)) (hown : w.ownsMap P k R b n D) (hn : n < maxLen) (key val : Value) (kl : Lit) (hx : a.eval x = key) (hv : a.eval v = val) (hkey : keyOf P k key = some kl)
    (d : DataW H) (ps : List MemPlace) (hval : R val = some (d, ps))
    (hK : ∀ w', w'.ownsMap P k R b (n + 1) (D.put kl d) → w.grownBy w' (some b) → wpList P ops Q rest (a.put o.dst undef) w') :
    wpList P ops Q (o :: rest) a w := by
  refine wpList_plain hg fun K' hK' => ?_
  obtain ⟨w', hrun, r1, r2⟩ := hown.update K ht hn hkey hval
  unfold Oper.wp
  simp [execOp, hop, hm, hx, hv, hrun, Result.andThen]
  exact hK' _ _ (hK w' r1 r2)

def closureV (kb wb cb : Nat) : Value := .func (.func 145) #[] #[.pointer (some ⟨kb, 0, none⟩), .pointer (some ⟨wb, 0, none⟩), .pointer (some ⟨cb, 0, none⟩)]
def CounterPost (b : Nat) (W : Web) (w : World) (e : Ending) (w' : World) : Prop :=
  ∃ kb wb cb mb, e = .returned (closureV kb wb cb) ∧ Memo kb wb cb mb b W w' ∧ w.heap.size ≤ kb ∧ w.heap.size ≤ wb ∧ w.heap.size ≤ cb ∧ w.heap.size ≤ mb ∧ Kept w w'

set_option maxHeartbeats 800000 in
theorem counter_any (b : Nat) (W : Web) (hn : W.n ≤ 24) (w : World) (hw : WebAt w b W) : Calls Try.prog 112 #[.pointer (some ⟨b, 0, none⟩)] w (CounterPost b W w) := by
  have HW := Lib.hid hw
  clear hw
  have hmm := @run_makeMap Try.prog
  have hsf := fun (a : Addr) (c : Array Value) (w : World) => run_store Try.prog w a (.func (.func 145) #[] c) .plain rfl
  have hwhole : cnt W (wholeS W.n) = 1 := by rw [cnt_eq (by omega), if_pos rfl]
  go_enter Try.func112, Try.ntmps112
  have hfresh := World.ownsMap_made (H := Unit) (w.alloc (.cells #[.pointer (some ⟨b, 0, none⟩)] 88)) Try.prog 93 (plainElem Try.prog 3)
  have hsz : (w.alloc (.cells #[.pointer (some ⟨b, 0, none⟩)] 88)).heap.size = w.heap.size + 1 := by simp
  rw [hsz] at hfresh
  have hW0 := HW.out.kept (((Kept.refl w).alloc (.cells #[.pointer (some ⟨b, 0, none⟩)] 88)).alloc (.map #[] 0))
  go_wp2_with fail
  refine (whole_any b W _ hW0 hn).mono ?_
  rintro e w1 ⟨rfl, rfl⟩
  have HK0 : Hid (Kept w ((w.alloc (.cells #[.pointer (some ⟨b, 0, none⟩)] 88)).alloc (.map #[] 0))) := ((Kept.refl w).alloc _).alloc _
  have hwb : ((w.alloc (.cells #[.pointer (some ⟨b, 0, none⟩)] 88)).alloc (.map #[] 0)).cell? ⟨w.heap.size, 0, none⟩ = some (.pointer (some ⟨b, 0, none⟩)) := by simp [go_sem]
  have hsz1 : ((w.alloc (.cells #[.pointer (some ⟨b, 0, none⟩)] 88)).alloc (.map #[] 0)).heap.size = w.heap.size + 2 := by simp
  have HW0 := Lib.hid hW0
  clear hW0 hmm
  generalize ((w.alloc (.cells #[.pointer (some ⟨b, 0, none⟩)] 88)).alloc (.map #[] 0)) = w0 at *
  have HFR := Lib.hid hfresh
  have HWB := Lib.hid hwb
  have HSZ := Lib.hid hsz1
  clear hfresh hsz hwb hsz1
  go_wp2_with (refine wpList_insert_own _ rfl _ _ _ 156 rfl 93 3 keyed93 Try.underlying156 _ _ 0 (.map []) rfl HFR.out (by unfold maxLen; omega) _ _ _ rfl rfl (keyOfS _) (.lit (.int .i64 1)) [] (plainElem_int Try.underlying3 (by decide)) ?_; intro w2 hown2 hgrow2; have HO2 := Lib.hid hown2; have HG2 := Lib.hid hgrow2; clear hown2 hgrow2; have hc2 : ((w2.alloc (.cells #[.map (some (w.heap.size + 1))] 156)).alloc (.cells #[.nilFunc] 121)).cell? ⟨w2.heap.size + 1, 0, none⟩ = some .nilFunc := (by simp [go_sem]); have hf2 : ((w2.alloc (.cells #[.map (some (w.heap.size + 1))] 156)).alloc (.cells #[.nilFunc] 121)).frozen? ⟨w2.heap.size + 1, 0, none⟩ = false := (by simp [go_sem]))
  go_ret
  have hg := HG2.out
  have hsz2 := hg.size
  have hsz := HSZ.out
  have hk2 : Kept w w2 := HK0.out.grown hg (fun r e => by cases e; omega)
  refine ⟨w2.heap.size, w.heap.size, w2.heap.size + 1, w.heap.size + 1, rfl, ?_, by omega, by omega, by omega, by omega, (hk2.alloc _).alloc _⟩
  have hkb : Kept w2 ((w2.alloc (.cells #[.map (some (w.heap.size + 1))] 156)).alloc (.cells #[closureV w2.heap.size w.heap.size (w2.heap.size + 1)] 121)) := ((Kept.refl w2).alloc _).alloc _
  have hc1 : ((w2.alloc (.cells #[.map (some (w.heap.size + 1))] 156)).alloc (.cells #[closureV w2.heap.size w.heap.size (w2.heap.size + 1)] 121)).cell? ⟨w2.heap.size, 0, none⟩ = some (.map (some (w.heap.size + 1))) := by simp [go_sem]
  have hc3 : ((w2.alloc (.cells #[.map (some (w.heap.size + 1))] 156)).alloc (.cells #[closureV w2.heap.size w.heap.size (w2.heap.size + 1)] 121)).cell? ⟨w2.heap.size + 1, 0, none⟩ = some (closureV w2.heap.size w.heap.size (w2.heap.size + 1)) := by simp [go_sem]
  have hne : some w.heap.size ≠ some (w.heap.size + 1) := by simp
  have hm := HO2.out.mono (n' := 4294967296) (by omega)
  obtain ⟨es, clock, hb, F, hs, hD⟩ := hm
  refine ⟨hc1, hkb.cell (hg.cell HWB.out hne), hc3, (HW0.out.grownNe hg (fun e => ?_)).kept hkb, _, ⟨es, clock, (hkb.below.block _ (Array.getElem?_eq_some_iff.1 hb).1).trans hb, F, hs, hD⟩, fun d hd => ?_, ?_⟩
  · have := lt_of_cell HW.out.n
    have := Option.some.inj e
    omega
  · by_cases e : d = wholeS W.n
    · subst e
      rw [Maps.atKey_put_same Maps.isMap_empty (keyed93.key (keyOfS _)), hwhole]
    · rw [Maps.has_put_other (fun h => e (keyS_inj h))] at hd
      cases hd
  · exact Maps.has_put_same Maps.isMap_empty (keyed93.key (keyOfS _)) _

/-! ### counted, Count -/

def errC (o : Prob) : Int := if chk o = 0 then (if 12 < (webOf o).n then 2 else 0) else chk o

theorem errC_ok {o : Prob} (h : errC o = 0) : chk o = 0 ∧ (webOf o).n ≤ 12 := by
  unfold errC at h
  split at h
  · rename_i h1
    split at h
    · cases h
    · exact ⟨h1, by omega⟩
  · rename_i h1; exact absurd h h1

set_option maxHeartbeats 400000 in
theorem counted_ok (o : Prob) (ao bo : Option Addr) (ca cb : Nat) (w : World) (ho : IsProb w o ao bo) (hv : errC o = 0) :
    Calls Try.prog 111 #[probV o ao ca bo cb] w (OpenPost o w) := by
  have HO := Lib.hid ho
  obtain ⟨h1, h2⟩ := errC_ok hv
  have H1 := Lib.hid h1
  have H2 := Lib.hid h2
  clear ho hv h1 h2
  go_enter Try.func111, Try.ntmps111
  go_wp2_with fail
  obtain ⟨w0, e0, hk0, hb0, -⟩ := alloc_prob w o.N o.arcs o.near ao ca bo cb
  rw [e0]
  clear e0
  have HK0 := Lib.hid hk0
  clear hk0 hb0
  refine (open_ok o ao bo ca cb w0 (HO.out.kept HK0.out) H1.out).mono ?_
  rintro e w1 ⟨b, rfl, hw1, hk1⟩
  have HW1 := Lib.hid hw1
  have HK1 := Lib.hid (HK0.out.trans hk1)
  have hwn := hw1.n
  have hgt : decide (((webOf o).n : Int) > 12) = false := by have := H2.out; simp; omega
  clear hw1 hk1
  go_wp2
  go_ret2
  exact ⟨b, rfl, HW1.out, HK1.out⟩

set_option maxHeartbeats 400000 in
theorem counted_bad (o : Prob) (ao bo : Option Addr) (ca cb : Nat) (w : World) (ho : IsProb w o ao bo) (hv : errC o ≠ 0) :
    Calls Try.prog 111 #[probV o ao ca bo cb] w (Gives (.tuple #[.pointer none, .int .i64 (errC o)]) w) := by
  have HO := Lib.hid ho
  have HV := Lib.hid hv
  clear ho hv
  go_enter Try.func111, Try.ntmps111
  go_wp2_with fail
  obtain ⟨w0, e0, hk0, hb0, -⟩ := alloc_prob w o.N o.arcs o.near ao ca bo cb
  rw [e0]
  clear e0
  have HK0 := Lib.hid hk0
  clear hk0 hb0
  by_cases h1 : chk o = 0
  · have h2 : 12 < (webOf o).n := Nat.lt_of_not_le fun h => HV.out (by unfold errC; rw [if_pos h1, if_neg (by omega)])
    have he : errC o = 2 := by unfold errC; rw [if_pos h1, if_pos h2]
    have HE := Lib.hid he
    have H1 := Lib.hid h1
    refine (open_ok o ao bo ca cb w0 (HO.out.kept HK0.out) H1.out).mono ?_
    rintro e w1 ⟨b, rfl, hw1, hk1⟩
    have HK1 := Lib.hid (HK0.out.trans hk1)
    have hwn := hw1.n
    have hgt : decide (((webOf o).n : Int) > 12) = true := decide_eq_true (by omega)
    clear hw1 hk1 h1 he
    go_wp2
    go_ret2
    exact ⟨by rw [HE.out]; rfl, HK1.out⟩
  · have he : errC o = chk o := by unfold errC; rw [if_neg h1]
    have HE := Lib.hid he
    have H1 := Lib.hid h1
    have hb : (chk o != 0) = true := by simp [h1]
    clear h1 he
    refine (open_bad o ao bo ca cb w0 (HO.out.kept HK0.out) H1.out).mono ?_
    rintro e w1 ⟨rfl, hk1⟩
    have HK1 := Lib.hid (HK0.out.trans hk1)
    clear hk1
    go_wp2
    go_ret2
    exact ⟨by rw [HE.out]; rfl, HK1.out⟩

def CountR (o : Prob) : Int × Int := if errC o = 0 then (cnt (webOf o) 0#32, 0) else (0, errC o)

set_option maxHeartbeats 400000 in
theorem Count_any (o : Prob) (ao bo : Option Addr) (ca cb : Nat) (w : World) (ho : IsProb w o ao bo) :
    Calls Try.prog 49 #[probV o ao ca bo cb] w (Gives (.tuple #[.int .i64 (CountR o).1, .int .i64 (CountR o).2]) w) := by
  have HO := Lib.hid ho
  clear ho
  by_cases h : errC o = 0
  · have hr : CountR o = (cnt (webOf o) 0#32, 0) := by unfold CountR; rw [if_pos h]
    rw [hr]
    have H := Lib.hid h
    have hn := (errC_ok h).2
    clear hr h
    go_enter Try.func49, Try.ntmps49
    go_wp2_with fail
    obtain ⟨w0, e0, hk0, hb0, -⟩ := alloc_prob w o.N o.arcs o.near ao ca bo cb
    rw [e0]
    clear e0
    have HK0 := Lib.hid hk0
    clear hk0 hb0
    refine (counted_ok o ao bo ca cb w0 (HO.out.kept HK0.out) H.out).mono ?_
    rintro e w1 ⟨b, rfl, hw1, hk1⟩
    have HW1 := Lib.hid hw1
    have HK1 := Lib.hid (HK0.out.trans hk1)
    clear hw1 hk1
    generalize webOf o = W at *
    go_wp2_with fail
    refine (counter_any b W (by omega) w1 HW1.out).mono ?_
    rintro e w2 ⟨kb, wb, cb', mb, rfl, hm, h1, h2, h3, h4, hk2⟩
    have HM := Lib.hid hm
    have HK2 := Lib.hid (HK1.out.trans hk2)
    have HMB := Lib.hid (Nat.le_trans HK1.out.size h4)
    clear hm hk2 h1 h2 h3 h4
    unfold closureV
    go_wp2_with fail
    refine (count_any kb wb cb' mb b W (by omega) (rest W 0#32 + 1) 0#32 w2 (Nat.lt_succ_self _) HM.out).mono ?_
    rintro e w3 ⟨rfl, hg, hm3⟩
    have HK3 := Lib.hid (HK2.out.grown hg (fun r e => by cases e; exact HMB.out))
    clear hg hm3
    go_wp2
    go_ret2
    exact ⟨rfl, HK3.out⟩
  · have hr : CountR o = (0, errC o) := by unfold CountR; rw [if_neg h]
    rw [hr]
    have H := Lib.hid h
    have hb : (errC o != 0) = true := by simp [h]
    clear hr h
    go_enter Try.func49, Try.ntmps49
    go_wp2_with fail
    obtain ⟨w0, e0, hk0, hb0, -⟩ := alloc_prob w o.N o.arcs o.near ao ca bo cb
    rw [e0]
    clear e0
    have HK0 := Lib.hid hk0
    clear hk0 hb0
    refine (counted_bad o ao bo ca cb w0 (HO.out.kept HK0.out) H.out).mono ?_
    rintro e w1 ⟨rfl, hk1⟩
    have HK1 := Lib.hid (HK0.out.trans hk1)
    clear hk1
    go_wp2
    go_ret2
    exact ⟨rfl, HK1.out⟩

end Go.Proofs.Yteljjkghjbofnaa

/-! Nth: the model and what counts it goes by. -/
set_option maxRecDepth 100000
namespace Go.Proofs.Yteljjkghjbofnaa
open Go Go.Proofs Go.RowKit

def fct : Nat → Nat
  | 0 => 1
  | n + 1 => (n + 1) * fct n
theorem fct_pos : ∀ n, 1 ≤ fct n
  | 0 => Nat.le_refl _
  | n + 1 => Nat.mul_pos (Nat.succ_pos n) (fct_pos n)
theorem fct_mono {a b : Nat} (h : a ≤ b) : fct a ≤ fct b := by
  induction h with
  | refl => exact Nat.le_refl _
  | step h ih =>
    refine Nat.le_trans ih ?_
    show fct _ ≤ (_ + 1) * fct _
    exact Nat.le_mul_of_pos_left _ (Nat.succ_pos _)

def sumC (W : Web) (d : S) (l : List Nat) : Int := (l.map fun p => cnt W (d ||| oneS p)).sum

theorem fold_sum {W : Web} {d : S} {F : Nat} : ∀ (l : List Nat) (s : Int), (∀ p ∈ l, 0 ≤ cnt W (d ||| oneS p) ∧ cnt W (d ||| oneS p) ≤ F) → 0 ≤ s → s + l.length * F < 9223372036854775808 →
    l.foldl (fun s p => wrap64 (s + cnt W (d ||| oneS p))) s = s + sumC W d l ∧ 0 ≤ sumC W d l ∧ sumC W d l ≤ l.length * F
  | [], s, _, _, _ => by simp [sumC]
  | p :: l, s, h, h0, hb => by
    have hp := h p (List.mem_cons_self ..)
    have hlen : ((p :: l).length : Int) * F = (l.length : Int) * F + F := by
      rw [List.length_cons, Int.natCast_add, Int.add_mul]
      simp
    rw [hlen] at hb ⊢
    have hnn : 0 ≤ (l.length : Int) * F := Int.mul_nonneg (Int.natCast_nonneg _) (Int.natCast_nonneg _)
    have hw : wrap64 (s + cnt W (d ||| oneS p)) = s + cnt W (d ||| oneS p) := IntWalk.wrap64_in _ (by omega)
    have := fold_sum l (s + cnt W (d ||| oneS p)) (fun q hq => h q (List.mem_cons_of_mem _ hq)) (by omega) (by omega)
    simp only [List.foldl_cons]
    rw [hw, this.1]
    have e : sumC W d (p :: l) = cnt W (d ||| oneS p) + sumC W d l := by simp [sumC]
    rw [e]
    omega

theorem readyL_rest (W : Web) (d : S) : (readyL W d).length ≤ rest W d := by
  unfold readyL rest
  have : ∀ l : List Nat, (l.filter (readyB W d)).length ≤ (l.filter fun p => !hasS d p).length := by
    intro l
    induction l with
    | nil => simp
    | cons p l ih =>
      simp only [List.filter_cons]
      split
      · rename_i h
        have : hasS d p = false := by unfold readyB at h; simp at h; exact h.1
        simp [this]; exact ih
      · split <;> (try simp only [List.length_cons]) <;> omega
  exact this _

theorem rest_le (W : Web) (d : S) : rest W d ≤ W.n := by
  unfold rest
  have := List.length_filter_le (fun p => !hasS d p) (List.range W.n)
  simpa using this

theorem cnt_bound {W : Web} (hn : W.n ≤ 12) : ∀ (f : Nat) (d : S), rest W d ≤ f → 0 ≤ cnt W d ∧ cnt W d ≤ fct (rest W d) ∧ (d ≠ wholeS W.n → cnt W d = sumC W d (readyL W d)) := by
  intro f
  induction f with
  | zero =>
    intro d h
    have h0 : readyL W d = [] := List.eq_nil_of_length_eq_zero (by have := readyL_rest W d; omega)
    rw [cnt_eq (by omega)]
    have := fct_pos (rest W d)
    split
    · rename_i e; exact ⟨by omega, by omega, fun h => absurd e h⟩
    · rw [h0]; simp [cntSum, sumC]
  | succ f ih =>
    intro d h
    rw [cnt_eq (by omega)]
    have hp := fct_pos (rest W d)
    split
    · rename_i e; exact ⟨by omega, by omega, fun h => absurd e h⟩
    · by_cases hz : rest W d = 0
      · have h0 : readyL W d = [] := List.eq_nil_of_length_eq_zero (by have := readyL_rest W d; omega)
        rw [h0]; simp [cntSum, sumC]
      · have hF : ∀ p ∈ readyL W d, 0 ≤ cnt W (d ||| oneS p) ∧ cnt W (d ||| oneS p) ≤ fct (rest W d - 1) := fun p hp => by
          have hr := rest_lt (by omega) hp
          have := ih (d ||| oneS p) (by omega)
          have hm := fct_mono (a := rest W (d ||| oneS p)) (b := rest W d - 1) (by omega)
          exact ⟨this.1, by omega⟩
        have hl := readyL_rest W d
        have hle := rest_le W d
        have e1 : fct (rest W d) = rest W d * fct (rest W d - 1) := by
          obtain ⟨r, hr⟩ : ∃ r, rest W d = r + 1 := ⟨rest W d - 1, by omega⟩
          rw [hr]; rfl
        have h12 : fct (rest W d) ≤ 479001600 := fct_mono (b := 12) (by omega)
        have hmul : (readyL W d).length * fct (rest W d - 1) ≤ rest W d * fct (rest W d - 1) := Nat.mul_le_mul_right _ hl
        have hcast : ((readyL W d).length : Int) * (fct (rest W d - 1) : Int) = (((readyL W d).length * fct (rest W d - 1) : Nat) : Int) := by simp
        have := fold_sum (W := W) (d := d) (readyL W d) 0 hF (by omega) (by rw [hcast]; omega)
        unfold cntSum
        rw [this.1]
        rw [hcast] at this
        refine ⟨by omega, by omega, fun _ => by omega⟩

/-- The first of the patches ps that k's order goes on with, and what is left of k. -/
def nthScan (W : Web) (d : S) : List Nat → Int → Option Nat × Int
  | [], k => (none, k)
  | p :: ps, k => if k < cnt W (d ||| oneS p) then (some p, k) else nthScan W d ps (k - cnt W (d ||| oneS p))

theorem nthScan_some {W : Web} {d : S} : ∀ (ps : List Nat) (k : Int), 0 ≤ k → k < sumC W d ps → ∃ p k', nthScan W d ps k = (some p, k') ∧ p ∈ ps ∧ 0 ≤ k' ∧ k' < cnt W (d ||| oneS p)
  | [], k, h0, h => by simp [sumC] at h; omega
  | p :: ps, k, h0, h => by
    have e : sumC W d (p :: ps) = cnt W (d ||| oneS p) + sumC W d ps := by simp [sumC]
    rw [e] at h
    unfold nthScan
    by_cases hk : k < cnt W (d ||| oneS p)
    · rw [if_pos hk]; exact ⟨p, k, rfl, List.mem_cons_self .., h0, hk⟩
    · rw [if_neg hk]
      obtain ⟨q, k', h1, h2, h3, h4⟩ := nthScan_some (W := W) (d := d) ps (k - cnt W (d ||| oneS p)) (by omega) (by omega)
      exact ⟨q, k', h1, List.mem_cons_of_mem _ h2, h3, h4⟩

def nthStep (W : Web) (s : List Int × Int) : List Int × Int :=
  match nthScan W (setS s.1) (readyL W (setS s.1)) s.2 with
  | (some p, k) => (s.1 ++ [(p : Int)], k)
  | (none, k) => (s.1, k)
def nthSt (W : Web) (k : Int) : Nat → List Int × Int
  | 0 => ([], k)
  | j + 1 => nthStep W (nthSt W k j)
def nthOf (W : Web) (k : Int) : List Int := (nthSt W k W.n).1
def NthR (o : Prob) (k : Int) : List Int × Int :=
  if errC o = 0 then (if k < 0 ∨ cnt (webOf o) 0#32 ≤ k then ([], 1) else (nthOf (webOf o) k, 0)) else ([], errC o)

theorem hasS_whole {n p : Nat} (hn : n < 32) : hasS (wholeS n) p = decide (p < n) := by
  have h1 : (wholeS n).toNat = 2 ^ n - 1 := by
    have h2 : 0 < 2 ^ n := Nat.two_pow_pos n
    have h3 : 2 ^ n < 2 ^ 32 := Nat.pow_lt_pow_right (by decide) hn
    have h4 : (oneS n).toNat = 2 ^ n := by
      unfold oneS
      simp
      omega
    unfold wholeS
    rw [BitVec.toNat_sub, h4]
    simp
    omega
  unfold hasS
  rw [BitVec.getLsbD, h1, Nat.testBit_two_pow_sub_one]

/-- Fewer patches than there are make no whole. -/
theorem setS_not_whole {W : Web} (hn : W.n ≤ 24) {l : List Int} (hin : ∀ p ∈ l, 0 ≤ p ∧ p < (W.n : Int)) (hl : l.length < W.n) : setS l ≠ wholeS W.n := by
  intro e
  have hsub : (List.range W.n).map (fun p : Nat => (p : Int)) ⊆ l := by
    intro x hx
    obtain ⟨p, hp, rfl⟩ := List.mem_map.1 hx
    have hp' := List.mem_range.1 hp
    have h1 : hasS (wholeS W.n) p = true := by rw [hasS_whole (by omega)]; simpa using hp'
    rw [← e, hasS_setS l (fun p hp => by have := hin p hp; omega)] at h1
    simpa using h1
  have := List.Nodup.length_le_of_subset (by
    rw [List.nodup_iff_pairwise_ne, List.pairwise_map]
    exact List.Pairwise.imp (fun h => by omega) List.nodup_range) hsub
  simp at this
  omega

end Go.Proofs.Yteljjkghjbofnaa

/-! Nth. -/
set_option maxRecDepth 100000
namespace Go.Proofs.Yteljjkghjbofnaa
open Go Go.Proofs Go.RowKit
attribute [local go_sem] Oper.semAt_some

theorem wpQuiet_skip {P : Program} {ops : Array Oper} {C : World → Prop} {Q : Act → Prop} {a : Act} {o : Oper} {rest : List Oper} (hw : Region.wanted o (yielded ops a.tmps) = false) (hn : wpQuiet P ops C Q rest (a.put o.dst undef)) : wpQuiet P ops C Q (o :: rest) a := by
  unfold wpQuiet
  rw [if_neg (by rw [hw]; simp)]
  exact hn


structure NX (kx c8 kb wb cb mb b : Nat) (W : Web) (k : Int) (X : World) : Prop where
  memo : Memo kb wb cb mb b W X
  fn : X.cell? ⟨c8, 0, none⟩ = some (closureV kb wb cb)
  kc : X.cell? ⟨kx, 0, none⟩ = some (.int .i64 k)
  kf : X.frozen? ⟨kx, 0, none⟩ = false
/-- Where these blocks lie. -/
structure NB (B0 B kx c8 kb wb cb mb b : Nat) : Prop where
  lo : B0 ≤ kx ∧ B0 ≤ mb
  hi : kx < B ∧ c8 < B ∧ kb < B ∧ wb < B ∧ cb < B ∧ mb < B ∧ b < B
  ne : kx ≠ mb ∧ c8 ≠ mb ∧ kx ≠ c8 ∧ kx ≠ kb ∧ kx ≠ wb ∧ kx ≠ cb ∧ kx ≠ b

section
variable {B0 B kx c8 kb wb cb mb b : Nat} {W : Web} {k : Int} {X Y : World}
theorem NX.past (h : NX kx c8 kb wb cb mb b W k X) (hb : NB B0 B kx c8 kb wb cb mb b) {row : Option Nat} (hg : X.grownBy Y row) (hr : ∀ r, row = some r → B ≤ r) : NX kx c8 kb wb cb mb b W k Y := by
  have h1 := hb.hi
  have e1 : some c8 ≠ row := fun e => by have := hr _ e.symm; omega
  have e2 : some kx ≠ row := fun e => by have := hr _ e.symm; omega
  exact ⟨h.memo.past hg ⟨h1.2.2.1, h1.2.2.2.1, h1.2.2.2.2.1, h1.2.2.2.2.2.1, h1.2.2.2.2.2.2⟩ hr, hg.cell h.fn e1, hg.cell h.kc e2,
   (World.frozen?_of_block (a := ⟨kx, 0, none⟩) (hg.block kx (lt_of_cell h.kc) e2)).trans h.kf⟩
theorem NX.turn (h : NX kx c8 kb wb cb mb b W k X) (hb : NB B0 B kx c8 kb wb cb mb b) (hg : X.grownBy Y (some mb)) (hm : Memo kb wb cb mb b W Y) : NX kx c8 kb wb cb mb b W k Y := by
  have h1 := hb.ne
  have e2 : some kx ≠ some mb := fun e => h1.1 (Option.some.inj e)
  exact ⟨hm, hg.cell h.fn (fun e => h1.2.1 (Option.some.inj e)), hg.cell h.kc e2, (World.frozen?_of_block (a := ⟨kx, 0, none⟩) (hg.block kx (lt_of_cell h.kc) e2)).trans h.kf⟩
theorem NX.keptBy (h : NX kx c8 kb wb cb mb b W k X) (hk : Kept X Y) : NX kx c8 kb wb cb mb b W k Y :=
  ⟨h.memo.keptBy hk, hk.cell h.fn, hk.cell h.kc, (hk.cells.2 kx 0 (lt_of_cell h.kc)).trans h.kf⟩
theorem NX.setOther (h : NX kx c8 kb wb cb mb b W k X) (hb : NB B0 B kx c8 kb wb cb mb b) {p : Nat} (hp : B ≤ p) (u : Value) : NX kx c8 kb wb cb mb b W k (X.setCell ⟨p, 0, none⟩ u) :=
  h.past hb (grownBy_setCell' X p u) (fun r e => by cases e; exact hp)
theorem NX.setK (h : NX kx c8 kb wb cb mb b W k X) (hb : NB B0 B kx c8 kb wb cb mb b) (k' : Int) : NX kx c8 kb wb cb mb b W k' (X.setCell ⟨kx, 0, none⟩ (.int .i64 k')) := by
  have h1 := hb.ne
  exact ⟨h.memo.kept (grownBy_setCell' X kx _) (fun e => h1.2.2.2.1 (Option.some.inj e).symm) (fun e => h1.2.2.2.2.1 (Option.some.inj e).symm) (fun e => h1.2.2.2.2.2.1 (Option.some.inj e).symm) (fun e => h1.1 (Option.some.inj e).symm) (fun e => h1.2.2.2.2.2.2 (Option.some.inj e).symm),
    cell_set_block h.fn (fun e => h1.2.2.1 e.symm), cell_set_same h.kc, by rw [World.frozen?_setCell]; exact h.kf⟩
theorem Memo.isMap (h : Memo kb wb cb mb b W X) : ∃ o : Obj, X.heap[mb]? = some o ∧ o.isCells = false := by
  obtain ⟨D, ⟨es, clock, hb, _⟩, _⟩ := h.map
  exact ⟨_, hb, rfl⟩
end

section
variable {w : World} {bo bd base : Nat} {Ds : List Nat} {vb : Value} {d : S} {v : Value} {l : List Int} {X Y : World}
theorem FSt.turn {mb : Nat} (h : FSt w bo bd base Ds vb d v l X) (hg : X.grownBy Y (some mb)) (hm : ∃ o : Obj, X.heap[mb]? = some o ∧ o.isCells = false) (h0 : w.heap.size ≤ mb) (h1 : mb < base) : FSt w bo bd base Ds vb d v l Y := by
  have hr : ∀ r, some mb = some r → ∃ o : Obj, X.heap[r]? = some o ∧ o.isCells = false := fun r e => by cases e; exact hm
  exact ⟨h.kept.grown hg (fun r e => by cases e; exact h0), Nat.le_trans h.sz hg.size, cell_kept h.cv hg hr, (frozen_kept h.cv hg hr).trans h.fv, cell_kept h.cd hg hr, (frozen_kept h.cd hg hr).trans h.fd, h.own.grown hg hr,
   fun D hd => ⟨(h.ds D hd).1, (hg.block D (Array.getElem?_eq_some_iff.1 (h.ds D hd).2).1 (fun e => by have := (h.ds D hd).1; have := Option.some.inj e; omega)).trans (h.ds D hd).2⟩⟩
theorem FSt.setOther (h : FSt w bo bd base Ds vb d v l X) {p : Nat} (hw : w.heap.size ≤ p) (h1 : p < base) (h2 : bo ≠ p) (h3 : bd ≠ p) (u : Value) : FSt w bo bd base Ds vb d v l (X.setCell ⟨p, 0, none⟩ u) :=
  ⟨h.kept.setCell hw u, by simpa [World.setCell] using h.sz, cell_set_block h.cv h2, by rw [World.frozen?_setCell]; exact h.fv, cell_set_block h.cd h3, by rw [World.frozen?_setCell]; exact h.fd, h.own.setBelow h1 u,
   fun D hd => ⟨(h.ds D hd).1, heap_set_deferred (h.ds D hd).2 _ _⟩⟩
end

def NthInv (w : World) (bo bd base kx c8 kb wb cb mb b : Nat) (W : Web) (k0 : Int) (a : Act) (X : World) : Prop :=
  ∃ (j : Nat) (v : Value) (Ds : List Nat) (u0 u1 u2 u4 u5 u7 u11 u12 u13 u14 u15 u16 u17 u18 u19 u20 u21 u22 u23 u24 u25 u26 u27 u28 u29 u30 u31 u32 u33 u34 u35 u36 u37 u38 u39 u40 u41 u42 u43 u44 u45 u46 u47 u48 u49 u50 u51 u52 u53 u54 u55 u56 u57 u58 u59 u60 u61 u62 : Value), a = { tmps := #[u0, u1, u2, .pointer (some ⟨kx, 0, none⟩), u4, u5, .pointer (some ⟨b, 0, none⟩), u7, .pointer (some ⟨c8, 0, none⟩), .pointer (some ⟨bo, 0, none⟩), .pointer (some ⟨bd, 0, none⟩), u11, u12, u13, u14, u15, u16, u17, u18, u19, u20, u21, u22, u23, u24, u25, u26, u27, u28, u29, u30, u31, u32, u33, u34, u35, u36, u37, u38, u39, u40, u41, u42, u43, u44, u45, u46, u47, u48, u49, u50, u51, u52, u53, u54, u55, u56, u57, u58, u59, u60, u61, u62], defers := marks Ds } ∧
    j ≤ W.n ∧ FSt w bo bd base Ds v (setS (nthSt W k0 j).1) v (nthSt W k0 j).1 X ∧ Ds.Nodup ∧ (nthSt W k0 j).1.length = j ∧ (∀ p ∈ (nthSt W k0 j).1, 0 ≤ p ∧ p < (W.n : Int)) ∧ (nthSt W k0 j).1.Nodup ∧
    NX kx c8 kb wb cb mb b W (nthSt W k0 j).2 X ∧ 0 ≤ (nthSt W k0 j).2 ∧ (nthSt W k0 j).2 < cnt W (setS (nthSt W k0 j).1)

def NthPost (l : List Int) (err : Int) (w : World) (e : Ending) (w' : World) : Prop := ListErr l err w e w'

set_option maxHeartbeats 1600000 in
theorem Nth_ok (o : Prob) (ao bo' : Option Addr) (ca cb' : Nat) (k : Int) (w : World) (ho : IsProb w o ao bo') (he : errC o = 0) :
    Calls Try.prog 53 #[probV o ao ca bo' cb', .int .i64 k] w (ListErr (NthR o k).1 (NthR o k).2 w) := by
  have HO := Lib.hid ho
  have HE := Lib.hid he
  have hn := (errC_ok he).2
  clear ho he
  refine calls_of_wp_marks Try.func53 rfl ?_
  simp only [Try.ntmps53, List.size_toArray, List.length_cons, List.length_nil, Nat.reduceAdd, Nat.reduceSub, Array.replicate_succ, Array.replicate_zero, List.push_toArray, List.append_toArray, List.nil_append, List.cons_append]
  go_wp2_with fail
  obtain ⟨w0, e0, hk0, -, hsz0⟩ := alloc_prob w o.N o.arcs o.near ao ca bo' cb'
  rw [e0]
  clear e0
  have hck : (w0.alloc (.cells #[.int .i64 k] 3)).cell? ⟨w.heap.size + 1, 0, none⟩ = some (.int .i64 k) := by rw [hsz0]; simp [go_sem]
  have hfk : (w0.alloc (.cells #[.int .i64 k] 3)).frozen? ⟨w.heap.size + 1, 0, none⟩ = false := by rw [hsz0]; simp [go_sem]
  have hn1 : (w0.alloc (.cells #[.int .i64 k] 3)).cell? ⟨w.heap.size + 1, 1, none⟩ = none := by
    have hh := heap_alloc_new w0 (.cells #[.int .i64 k] 3)
    rw [hsz0.symm] at hh
    rw [cell_of_row _ _ _ _ _ _ hh]
    rfl
  have hk1 := hk0.alloc (.cells #[.int .i64 k] 3)
  generalize (w0.alloc (.cells #[.int .i64 k] 3)) = w1 at *
  have HK1 := Lib.hid hk1
  have HCK := Lib.hid hck
  have HFK := Lib.hid hfk
  obtain ⟨kx, hkx⟩ : ∃ kx, w.heap.size + 1 = kx := ⟨_, rfl⟩
  rw [hkx] at HCK HFK hn1 ⊢
  have HN1 := Lib.hid hn1
  have HKX : Hid (w.heap.size ≤ kx) := by show _ ≤ _; omega
  clear hk1 hk0 hsz0 hck hfk hkx hn1
  refine (counted_ok o ao bo' ca cb' w1 (HO.out.kept HK1.out) HE.out).mono ?_
  rintro e w2 ⟨b, rfl, hw2, hk2⟩
  have HC2 := Lib.hid (hk2.cell HCK.out)
  have HF2 := Lib.hid ((hk2.cells.2 _ 0 (lt_of_cell HCK.out)).trans HFK.out)
  have HK2 := Lib.hid (HK1.out.trans hk2)
  have HW2 := Lib.hid hw2
  have HKL := Lib.hid (Nat.lt_of_lt_of_le (lt_of_cell HCK.out) hk2.size)
  have HKB : Hid (kx ≠ b) := by
    show _ ≠ _
    rintro rfl
    have h1 := hw2.to 0 (by omega)
    have h2 : w2.cell? ⟨kx, 1, none⟩ = w1.cell? ⟨kx, 1, none⟩ := by
      unfold World.cell?
      rw [show w2.heap[(⟨kx, 1, none⟩ : Addr).block]? = w1.heap[(⟨kx, 1, none⟩ : Addr).block]? from hk2.below.block kx (lt_of_cell HCK.out)]
    rw [HN1.out] at h2
    rw [Nat.add_zero, h2] at h1
    cases h1
  clear hk2 hw2 HCK HFK HK1
  have HR : Hid (NthR o k = if k < 0 ∨ cnt (webOf o) 0#32 ≤ k then ([], 1) else (nthOf (webOf o) k, 0)) := by
    show _ = _
    unfold NthR
    rw [if_pos HE.out]
  generalize hW : webOf o = W at *
  clear HE HO hW
  go_wp2_with fail
  refine (counter_any b W (by omega) w2 HW2.out).mono ?_
  rintro e w3 ⟨kb, wb, cb, mb, rfl, hm, h1, h2, h3, h4, hk3⟩
  have HM3 := Lib.hid hm
  have HK3 := Lib.hid (HK2.out.trans hk3)
  have HMB : Hid (w.heap.size ≤ kb ∧ w.heap.size ≤ wb ∧ w.heap.size ≤ cb ∧ w.heap.size ≤ mb) := by have := HK2.out.size; exact ⟨by omega, by omega, by omega, by omega⟩
  have HC3 := Lib.hid (hk3.cell HC2.out)
  have HF3 := Lib.hid ((hk3.cells.2 _ 0 (lt_of_cell HC2.out)).trans HF2.out)
  have HNK : Hid (kx ≠ mb) := by have := HKL.out; show _ ≠ _; omega
  have HNE : Hid (kx ≠ kb ∧ kx ≠ wb ∧ kx ≠ cb) := by have := HKL.out; exact ⟨by omega, by omega, by omega⟩
  clear hm h1 h2 h3 h4 hk3 HW2 HK2 HC2 HF2 HKL
  unfold closureV
  have hsf := fun (a : Addr) (c : Array Value) (w : World) => run_store Try.prog w a (.func (.func 145) #[] c) .plain rfl
  go_wp2_with fail
  clear hsf
  have hc8 : (w3.alloc (.cells #[closureV kb wb cb] 121)).cell? ⟨w3.heap.size, 0, none⟩ = some (closureV kb wb cb) := by simp [go_sem]
  have hka : Kept w3 (w3.alloc (.cells #[closureV kb wb cb] 121)) := (Kept.refl w3).alloc _
  unfold closureV at hc8 hka
  have hsz3 := HK3.out.size
  generalize hw4 : (w3.alloc (.cells #[.func (.func 145) #[] #[.pointer (some ⟨kb, 0, none⟩), .pointer (some ⟨wb, 0, none⟩), .pointer (some ⟨cb, 0, none⟩)]] 121)) = w4 at *
  have HC8 := Lib.hid hc8
  have HM4 := Lib.hid (HM3.out.keptBy hka)
  have HK4 := Lib.hid (HK3.out.trans hka)
  have HC4 := Lib.hid (hka.cell HC3.out)
  have HF4 := Lib.hid ((hka.cells.2 _ 0 (lt_of_cell HC3.out)).trans HF3.out)
  have HL3 := Lib.hid HM3.out.lt
  have HLK := Lib.hid (lt_of_cell HC3.out)
  obtain ⟨c8, hc8e⟩ : ∃ c8, w3.heap.size = c8 := ⟨_, rfl⟩
  rw [hc8e] at HC8 HL3 HLK ⊢
  have H8 : Hid (w.heap.size ≤ c8) := by show _ ≤ _; omega
  clear hc8 hka hw4 hsz3 HM3 HK3 HC3 HF3 hc8e
  have hne8 : some c8 ≠ some mb := fun e => by have h6 := HL3.out; simp at e; omega
  have hnek : some kx ≠ some mb := fun e => HNK.out (Option.some.inj e)
  have hbad : Hid ((k < 0 ∨ cnt W 0#32 ≤ k) → NthR o k = ([], 1)) := fun h => HR.out.trans (if_pos h)
  by_cases hneg : k < 0
  · have hdk : decide (k < 0) = true := decide_eq_true hneg
    have HNEG := Lib.hid hneg
    clear hneg
    refine region_class (fun Z => w4.grownBy Z (some mb) ∧ Memo kb wb cb mb b W Z) 7 (by kernel_rfl) (by kernel_rfl) ⟨⟨rfl, rfl, rfl, Nat.le_refl _, fun _ _ _ => rfl⟩, HM4.out.keptBy (Kept.refl w4).drew⟩ ?_
    simp only [List.take_succ_cons, List.take_zero, List.drop_succ_cons, List.drop_zero]
    refine wpQuiet_yield (.int .i64 k) (by rfl) (fun Z hZ => ?_) ?_
    · have hc := hZ.1.cell (a := ⟨kx, 0, none⟩) (v := .int .i64 k) HC4.out hnek
      go_simp
    simp only [Act.put, List.setIfInBounds_toArray, List.set_cons_zero, List.set_cons_succ]
    refine wpQuiet_yield (.bool true) (by rfl) (fun Z hZ => ?_) ?_
    · go_simp
    simp only [Act.put, List.setIfInBounds_toArray, List.set_cons_zero, List.set_cons_succ]
    refine wpQuiet_yield (.bool true) (by rfl) (fun Z hZ => ?_) ?_
    · go_simp
    simp only [Act.put, List.setIfInBounds_toArray, List.set_cons_zero, List.set_cons_succ]
    refine wpQuiet_skip (by rfl) ?_
    simp only [Act.put, List.setIfInBounds_toArray, List.set_cons_zero, List.set_cons_succ]
    refine wpQuiet_skip (by rfl) ?_
    simp only [Act.put, List.setIfInBounds_toArray, List.set_cons_zero, List.set_cons_succ]
    refine wpQuiet_skip (by rfl) ?_
    simp only [Act.put, List.setIfInBounds_toArray, List.set_cons_zero, List.set_cons_succ]
    refine wpQuiet_skip (by rfl) ?_
    refine wpQuiet_nil ?_
    rintro Z ⟨hz1, hz2⟩
    have HZ1 := Lib.hid hz1
    clear hz1 hz2
    go_wp2
    refine leaves_marks (B := w.heap.size) [] _ (fun D hD => by cases hD) List.nodup_nil (fun w' hs => ⟨_, results_tmp2 rfl _ _ _, ?_⟩)
    have e : NthR o k = ([], 1) := hbad.out (.inl HNEG.out)
    rw [e]
    exact ⟨_, rfl, NewI.nil _ _, hs.kept (HK4.out.grown HZ1.out (fun r e => by cases e; exact HMB.out.2.2.2)) (Nat.le_refl _)⟩
  · have hdk : decide (k < 0) = false := decide_eq_false hneg
    have HNEG := Lib.hid hneg
    clear hneg
    refine region_class (fun Z => w4.grownBy Z (some mb) ∧ Memo kb wb cb mb b W Z) 7 (by kernel_rfl) (by kernel_rfl) ⟨⟨rfl, rfl, rfl, Nat.le_refl _, fun _ _ _ => rfl⟩, HM4.out.keptBy (Kept.refl w4).drew⟩ ?_
    simp only [List.take_succ_cons, List.take_zero, List.drop_succ_cons, List.drop_zero]
    refine wpQuiet_yield (.int .i64 k) (by rfl) (fun Z hZ => ?_) ?_
    · have hc := hZ.1.cell (a := ⟨kx, 0, none⟩) (v := .int .i64 k) HC4.out hnek
      go_simp
    simp only [Act.put, List.setIfInBounds_toArray, List.set_cons_zero, List.set_cons_succ]
    refine wpQuiet_yield (.bool false) (by rfl) (fun Z hZ => ?_) ?_
    · go_simp
    simp only [Act.put, List.setIfInBounds_toArray, List.set_cons_zero, List.set_cons_succ]
    refine wpQuiet_yield (.bool false) (by rfl) (fun Z hZ => ?_) ?_
    · go_simp
    simp only [Act.put, List.setIfInBounds_toArray, List.set_cons_zero, List.set_cons_succ]
    refine wpQuiet_yield (.int .i64 k) (by rfl) (fun Z hZ => ?_) ?_
    · have hc := hZ.1.cell (a := ⟨kx, 0, none⟩) (v := .int .i64 k) HC4.out hnek
      go_simp
    simp only [Act.put, List.setIfInBounds_toArray, List.set_cons_zero, List.set_cons_succ]
    refine wpQuiet_yield (.func (.func 145) #[] #[.pointer (some ⟨kb, 0, none⟩), .pointer (some ⟨wb, 0, none⟩), .pointer (some ⟨cb, 0, none⟩)]) (by rfl) (fun Z hZ => ?_) ?_
    · have hc := hZ.1.cell (a := ⟨c8, 0, none⟩) HC8.out hne8
      go_simp
    simp only [Act.put, List.setIfInBounds_toArray, List.set_cons_zero, List.set_cons_succ]
    refine wpQuiet_yield (.int .i64 (cnt W 0#32)) (by rfl) (fun Z hZ => ?_) ?_
    · go_simp
      exact (count_any kb wb cb mb b W (by omega) (rest W 0#32 + 1) 0#32 Z (Nat.lt_succ_self _) hZ.2).mono fun e Z' h => ⟨h.1, hZ.1.trans h.2.1, h.2.2⟩
    simp only [Act.put, List.setIfInBounds_toArray, List.set_cons_zero, List.set_cons_succ]
    refine wpQuiet_yield (.bool (decide (k ≥ cnt W 0#32))) (by rfl) (fun Z hZ => ?_) ?_
    · go_simp
    refine wpQuiet_nil ?_
    rintro Z ⟨hz1, hz2⟩
    by_cases hge : k ≥ cnt W 0#32
    · have hdg : decide (k ≥ cnt W 0#32) = true := decide_eq_true hge
      rw [hdg]
      have HGE := Lib.hid hge
      have HZ1 := Lib.hid hz1
      clear hz1 hz2 hge hdg
      go_wp2
      refine leaves_marks (B := w.heap.size) [] _ (fun D hD => by cases hD) List.nodup_nil (fun w' hs => ⟨_, results_tmp2 rfl _ _ _, ?_⟩)
      have e : NthR o k = ([], 1) := hbad.out (.inr HGE.out)
      rw [e]
      exact ⟨_, rfl, NewI.nil _ _, hs.kept (HK4.out.grown HZ1.out (fun r e => by cases e; exact HMB.out.2.2.2)) (Nat.le_refl _)⟩
    · have hdg : decide (k ≥ cnt W 0#32) = false := decide_eq_false hge
      rw [hdg]
      have HR2 : Hid (NthR o k = (nthOf W k, 0)) := HR.out.trans (if_neg (fun h => h.elim HNEG.out hge))
      have HGE := Lib.hid hge
      have HZ1 := Lib.hid hz1
      have HZ2 := Lib.hid hz2
      clear hz1 hz2 hge hdg
      go_wp2
      have HKZ := Lib.hid (HK4.out.grown HZ1.out (fun r e => by cases e; exact HMB.out.2.2.2))
      have HNXZ : Hid (NX kx c8 kb wb cb mb b W k Z) := by
        have h1 := HL3.out
        have h2 := HNE.out
        have h3 := HLK.out
        exact ⟨HZ2.out, HZ1.out.cell HC8.out hne8, HZ1.out.cell HC4.out hnek, (World.frozen?_of_block (a := ⟨kx, 0, none⟩) (HZ1.out.block kx (lt_of_cell HC4.out) hnek)).trans HF4.out⟩
      have HSZZ : Hid (c8 < Z.heap.size) := Nat.lt_of_lt_of_le (lt_of_cell HC8.out) HZ1.out.size
      have hst0 : FSt w Z.heap.size (Z.heap.size + 1) (Z.heap.size + 2) [] (.slice none 0 0) (setS []) (.slice none 0 0) [] ((Z.alloc (.cells #[.slice none 0 0] 31)).alloc (.cells #[.int .u32 0] 93)) :=
        ⟨(HKZ.out.alloc _).alloc _, by simp, by simp [go_sem], by simp [go_sem], by simp [go_sem]; rfl, by simp [go_sem], OwnI.nil _ _, fun D h => by cases h⟩
      have hx0 := HNXZ.out.keptBy (((Kept.refl Z).alloc (.cells #[.slice none 0 0] 31)).alloc (.cells #[.int .u32 0] 93))
      have hsz := HKZ.out.size
      generalize ((Z.alloc (.cells #[.slice none 0 0] 31)).alloc (.cells #[.int .u32 0] 93)) = Z0 at *
      obtain ⟨bo, hbo⟩ : ∃ bo, Z.heap.size = bo := ⟨_, rfl⟩
      obtain ⟨bd, hbd⟩ : ∃ bd, Z.heap.size + 1 = bd := ⟨_, rfl⟩
      obtain ⟨base, hbase⟩ : ∃ base, Z.heap.size + 2 = base := ⟨_, rfl⟩
      rw [hbase, hbd, hbo] at hst0
      rw [hbd, hbo]
      have HB : Hid (w.heap.size ≤ bo ∧ bo < base ∧ bd < base ∧ bo ≠ bd ∧ w.heap.size ≤ bd ∧ kx < bo ∧ c8 < bo) := by
        have h1 := HSZZ.out
        have h2 := HLK.out
        exact ⟨by omega, by omega, by omega, by omega, by omega, by omega, by omega⟩
      have HNB : Hid (NB w.heap.size bo kx c8 kb wb cb mb b) := by
        have h1 := HL3.out
        have h2 := HNE.out
        have h3 := HLK.out
        have h4 := HB.out
        exact ⟨⟨HKX.out, HMB.out.2.2.2⟩, ⟨by omega, by omega, by omega, by omega, by omega, by omega, by omega⟩, ⟨HNK.out, by omega, by omega, by omega, by omega, by omega, HKB.out⟩⟩
      have HBD : Hid (bo < bd) := by show _ < _; omega
      clear hbo hbd hbase hsz HKX HR HMB HNK HM4 HK4 HC4 HF4 HLK HL3 HC8 H8 hne8 hnek hbad hdk HZ1 HZ2 HKZ HNXZ HSZZ HNE HKB HN1
      have HST0 := Lib.hid hst0
      have HX0 := Lib.hid hx0
      clear hst0 hx0
      refine wp_loop (NthInv w bo bd base kx c8 kb wb cb mb b W k) (fun _ X => firstLeft bo W.n X) ⟨0, .slice none 0 0, [], _, _, _, _, _, _, _, _, _, _, _, _, _, _, _, _, _, _, _, _, _, _, _, _, _, _, _, _, _, _, _, _, _, _, _, _, _, _, _, _, _, _, _, _, _, _, _, _, _, _, _, _, _, _, _, _, _, _, rfl, Nat.zero_le _, HST0.out, List.nodup_nil, rfl, by simp [nthSt], by simp [nthSt], HX0.out, HNEG.out, HGE.out⟩ ?_
      rintro a X ⟨j, v, Ds, u0, u1, u2, u4, u5, u7, u11, u12, u13, u14, u15, u16, u17, u18, u19, u20, u21, u22, u23, u24, u25, u26, u27, u28, u29, u30, u31, u32, u33, u34, u35, u36, u37, u38, u39, u40, u41, u42, u43, u44, u45, u46, u47, u48, u49, u50, u51, u52, u53, u54, u55, u56, u57, u58, u59, u60, u61, u62, rfl, hj, hst, hnd, hlen, hin, hdup, hx, hkk0, hkk1⟩
      clear HST0 HX0 HNEG HGE
      have HNEXT : Hid (nthSt W k (j + 1) = nthStep W (nthSt W k j)) := rfl
      have HFIN : Hid (j = W.n → (nthSt W k j).1 = nthOf W k) := fun e => by rw [e]; rfl
      have HEQ : Hid (nthSt W k j = ((nthSt W k j).1, (nthSt W k j).2)) := rfl
      generalize hl : (nthSt W k j).1 = l at *
      generalize hkk : (nthSt W k j).2 = kk at *
      have HST := Lib.hid hst
      have HND := Lib.hid hnd
      have HLEN := Lib.hid hlen
      have HIN := Lib.hid hin
      have HDUP := Lib.hid hdup
      have HX := Lib.hid hx
      have HK0 := Lib.hid hkk0
      have HK1 := Lib.hid hkk1
      obtain ⟨ao, c, hv, hc, _⟩ := hst.own.slice
      rw [hlen] at hv hc
      have hcv := hst.cv
      have hcd := hst.cd
      have hwn := hx.memo.at_.n
      subst hv
      clear hst hnd hlen hin hdup hx hl hkk hkk0 hkk1
      by_cases hlt : j < W.n
      · go_wp2
        refine region_tail 6 (by kernel_rfl) (by kernel_rfl) ?_
        simp only [List.take_succ_cons, List.take_zero, List.drop_succ_cons, List.drop_zero]
        repeat still_step
        refine wpStill_nil ?_
        go_wp2_with fail
        refine (ready_any b W (setS l) _ (HX.out.memo.at_.kept (Kept.refl X).drew)).mono ?_
        rintro e X1 ⟨c1, c2, rfl, hc1, hc2, hstat, hk1⟩
        have HS1 := Lib.hid hstat
        have HST1 := Lib.hid ((HST.out.keptBy (Kept.refl X).drew).keptBy hk1)
        have HX1 := Lib.hid ((HX.out.keptBy (Kept.refl X).drew).keptBy hk1)
        have HC : Hid (bo < c1 ∧ bo < c2 ∧ bd < c1 ∧ bd < c2 ∧ (∀ g, (Value.slice ao j c).ownBlock = some g → g < c1 ∧ g < c2) ∧ mb < c1 ∧ mb < c2 ∧ kx < c1 ∧ kx < c2 ∧ b < c1 ∧ b < c2) := by
          have h1 := lt_of_cell HST.out.cv
          have h2 := lt_of_cell HST.out.cd
          have h3 : X.drew.heap.size = X.heap.size := rfl
          have h4 := HNB.out.hi
          rw [h3] at hc1 hc2
          exact ⟨by omega, by omega, by omega, by omega, fun g hg => by have := (HST.out.own.lt g hg).2; omega, by omega, by omega, by omega, by omega, by omega, by omega⟩
        have HBX : Hid (bo < X1.heap.size) := lt_of_cell HST1.out.cv
        clear hstat hk1 hcv hcd hwn hc1 hc2
        go_wp2_with fail
        refine range_ready (c1 := c1) (c2 := c2) (b := b) (W := W) (d := setS l) rfl HS1.out (by omega) rfl
          (fun pre Y => FSt w bo bd base Ds (.slice ao j c) (setS l) (.slice ao j c) l Y ∧ ∃ k' : Int, NX kx c8 kb wb cb mb b W k' Y ∧ 0 ≤ k' ∧ k' ≤ kk ∧ ∀ suf, nthScan W (setS l) (pre.map Subtype.val ++ suf) kk = nthScan W (setS l) suf k')
          (fun cd pre Y => cd = .exit 2 ∧ ∃ (x : Rdy W (setS l)) (v' : Value) (k' : Int), (∀ suf, nthScan W (setS l) (pre.map Subtype.val ++ suf) kk = (some x.val, k')) ∧ 0 ≤ k' ∧ k' < cnt W (setS l ||| oneS x.val) ∧
            FSt w bo bd base Ds v' (setS (l ++ [(x.val : Int)])) v' (l ++ [(x.val : Int)]) Y ∧ NX kx c8 kb wb cb mb b W k' Y)
          ?hI ?hIx ⟨HST1.out, kk, HX1.out, HK0.out, Int.le_refl _, fun suf => rfl⟩
          (fun x => { tmps := #[u0, u1, u2, .pointer (some ⟨kx, 0, none⟩), u4, u5, .pointer (some ⟨b, 0, none⟩), u7, .pointer (some ⟨c8, 0, none⟩), .pointer (some ⟨bo, 0, none⟩), .pointer (some ⟨bd, 0, none⟩), .int .i64 x.val, u12, u13, u14, u15, u16, u17, u18, u19, u20, u21, u22, u23, u24, u25, u26, u27, u28, u29, u30, .slice ao j c, .int .i64 j, .pointer (some ⟨b, 0, none⟩), .pointer (some ⟨b, 0, none⟩), .pointer (some ⟨b, 0, none⟩), .int .i64 W.n, .bool true, .pointer (some ⟨b, 0, none⟩), .int .u32 (sI (setS l)), .func (.func 146) #[] #[.pointer (some ⟨c1, 0, none⟩), .pointer (some ⟨c2, 0, none⟩)], .int .i64 x.val, u42, u43, u44, u45, u46, u47, u48, u49, u50, u51, u52, u53, u54, u55, u56, u57, u58, u59, u60, u61, u62], defers := [] }) ?assign ?body ?done ?stop
        case hI =>
          rintro s A B row ⟨h1, k', h2, h3⟩ hg hr
          exact ⟨h1.grown hg hr HST1.out.kept.size (fun D hD => (Array.getElem?_eq_some_iff.1 (HST1.out.ds D hD).2).1), k', h2.past HNB.out hg (fun r e => by have := (hr r e).1; have := HBX.out; omega), h3⟩
        case hIx =>
          rintro cd s A B row ⟨e, x, v', k', h1, h2, h3, h4, h5⟩ hg hr
          exact ⟨e, x, v', k', h1, h2, h3, h4.grown hg hr HST1.out.kept.size (fun D hD => (Array.getElem?_eq_some_iff.1 (HST1.out.ds D hD).2).1), h5.past HNB.out hg (fun r e => by have := (hr r e).1; have := HBX.out; omega)⟩
        case assign =>
          intro lb x Y K hK
          gi_wp2
          exact hK
        case done =>
          rintro D xs Y hD hxs ⟨_, k', _, h2, h3, h4⟩ _
          have h := h4 []
          rw [hxs, List.append_nil] at h
          have hw := setS_not_whole (W := W) (by omega) HIN.out (by rw [HLEN.out]; exact hlt)
          have hcb := (cnt_bound hn (rest W (setS l)) (setS l) (Nat.le_refl _)).2.2 hw
          obtain ⟨p, k2, h5, _⟩ := nthScan_some (W := W) (d := setS l) (readyL W (setS l)) kk HK0.out (by rw [← hcb]; exact HK1.out)
          rw [h5] at h
          simp [nthScan] at h
        case stop =>
          rintro D cd pre Y hD hpre ⟨rfl, x, v', k', hs1, hs2, hs3, hst2, hx2⟩ hdef
          have hx := mem_readyL.1 x.2
          have hxn : (x.val : Int) ∉ l := by
            have h := hx.2
            unfold readyB at h
            rw [hasS_setS _ (fun p hp => by have := HIN.out p hp; omega)] at h
            simp at h
            exact h.1
          have hnext : nthSt W k (j + 1) = (l ++ [(x.val : Int)], k') := by
            obtain ⟨r, hr⟩ := hpre
            have hs1' := hs1 r
            rw [hr] at hs1'
            rw [HNEXT.out, HEQ.out]
            unfold nthStep
            simp only
            rw [hs1']
          have HXX := Lib.hid hx
          have HXN := Lib.hid hxn
          have HNX := Lib.hid hnext
          have HST2 := Lib.hid hst2
          have HX2 := Lib.hid hx2
          have HS2 := Lib.hid hs2
          have HS3 := Lib.hid hs3
          have HDEF := Lib.hid hdef
          have HPD := Lib.hid hD
          clear hx hxn hnext hst2 hdef hD hs1 hs2 hs3 hx2
          go_wp2
          have e1 : (nthSt W k (j + 1)).1 = l ++ [(x.val : Int)] := by rw [HNX.out]
          have e2 : (nthSt W k (j + 1)).2 = k' := by rw [HNX.out]
          have hlen2 : (l ++ [(x.val : Int)]).length = j + 1 := by rw [List.length_append, HLEN.out]; rfl
          refine ⟨⟨j + 1, v', D :: Ds, _, _, _, _, _, _, _, _, _, _, _, _, _, _, _, _, _, _, _, _, _, _, _, _, _, _, _, _, _, _, _, _, _, _, _, _, _, _, _, _, _, _, _, _, _, _, _, _, _, _, _, _, _, _, _, _, _, _, rfl, by omega, ?_, ?_, by rw [e1]; exact hlen2, ?_, ?_, ?_, ?_, ?_⟩, ?_⟩
          · rw [e1]
            exact ⟨HST2.out.kept, HST2.out.sz, HST2.out.cv, HST2.out.fv, HST2.out.cd, HST2.out.fd, HST2.out.own, fun D' hD' => by
              rcases List.mem_cons.1 hD' with rfl | h
              · exact ⟨Nat.le_trans HST1.out.sz HPD.out, HDEF.out⟩
              · exact HST2.out.ds D' h⟩
          · refine List.nodup_cons.2 ⟨fun h => ?_, HND.out⟩
            have := (Array.getElem?_eq_some_iff.1 (HST1.out.ds D h).2).1
            have := HPD.out
            omega
          · rw [e1]
            intro p hp
            rcases List.mem_append.1 hp with h | h
            · exact HIN.out p h
            · simp at h; subst h; have := HXX.out.1; omega
          · rw [e1, List.nodup_append]
            exact ⟨HDUP.out, by simp, fun a ha b hb e => by simp at hb; subst hb; subst e; exact HXN.out ha⟩
          · rw [e2]; exact HX2.out
          · rw [e2]; exact HS2.out
          · rw [e1, e2, setS_snoc, Int.toNat_natCast]; exact HS3.out
          · obtain ⟨ao', c', hv', _, _⟩ := HST2.out.own.slice
            have e1 : firstLeft bo W.n Y = W.n - (j + 1) := by
              unfold firstLeft
              rw [HST2.out.cv, hv']
              simp [HLEN.out]
            have e2 : firstLeft bo W.n X = W.n - j := by
              unfold firstLeft
              rw [HST.out.cv]
            rw [e1, e2]
            omega
        case body =>
          rintro lb pre x Y ⟨hst, k', hx, hk0, hkle, hsuf⟩ hstat
          have HS := Lib.hid hst
          have HXY := Lib.hid hx
          have HT := Lib.hid hstat
          have HKA := Lib.hid hk0
          have HKB := Lib.hid hkle
          have HSUF := Lib.hid hsuf
          have hcb := cnt_bound hn _ (setS l ||| oneS x.val) (Nat.le_refl _)
          have HCB := Lib.hid hcb
          have hx32 : x.val < 32 := by have := (mem_readyL.1 x.2).1; omega
          have HX32 := Lib.hid hx32
          have hnb := HNB.out.ne
          have hhi := HNB.out.hi
          have hbb := HB.out
          have hne8 : some c8 ≠ some mb := fun e => hnb.2.1 (Option.some.inj e)
          have hned : some bd ≠ some mb := fun e => by have := Option.some.inj e; have := HBD.out; omega
          clear hst hx hk0 hkle hsuf hstat hcb
          gi_wp2_with fail
          refine regionIn_class (fun Z => Y.grownBy Z (some mb) ∧ Memo kb wb cb mb b W Z) 6 (by kernel_rfl) (by kernel_rfl) (by kernel_rfl) ⟨⟨rfl, rfl, rfl, Nat.le_refl _, fun _ _ _ => rfl⟩, HXY.out.memo.keptBy (Kept.refl Y).drew⟩ ?_
          simp only [List.take_succ_cons, List.take_zero, List.drop_succ_cons, List.drop_zero]
          refine wpQuiet_yield (.func (.func 145) #[] #[.pointer (some ⟨kb, 0, none⟩), .pointer (some ⟨wb, 0, none⟩), .pointer (some ⟨cb, 0, none⟩)]) (by rfl) (fun Z hZ => ?_) ?_
          · have hc := hZ.1.cell (a := ⟨c8, 0, none⟩) HXY.out.fn hne8
            unfold closureV at hc
            go_simp
          simp only [Act.put, List.setIfInBounds_toArray, List.set_cons_zero, List.set_cons_succ]
          refine wpQuiet_yield (.int .u32 (sI (setS l))) (by rfl) (fun Z hZ => ?_) ?_
          · have hc := hZ.1.cell (a := ⟨bd, 0, none⟩) HS.out.cd hned
            go_simp
          simp only [Act.put, List.setIfInBounds_toArray, List.set_cons_zero, List.set_cons_succ]
          refine wpQuiet_yield (.int .i64 x.val) (by rfl) (fun Z hZ => ?_) ?_
          · go_simp
          simp only [Act.put, List.setIfInBounds_toArray, List.set_cons_zero, List.set_cons_succ]
          refine wpQuiet_yield (.int .u32 (sI (oneS x.val))) (by rfl) (fun Z hZ => ?_) ?_
          · go_simp
            exact (one_any x.val Z hx32).mono fun e Z' h => ⟨h.1, h.2 ▸ hZ⟩
          simp only [Act.put, List.setIfInBounds_toArray, List.set_cons_zero, List.set_cons_succ]
          refine wpQuiet_yield (.int .u32 (sI (setS l ||| oneS x.val))) (by rfl) (fun Z hZ => ?_) ?_
          · go_simp
          simp only [Act.put, List.setIfInBounds_toArray, List.set_cons_zero, List.set_cons_succ]
          refine wpQuiet_yield (.int .i64 (cnt W (setS l ||| oneS x.val))) (by rfl) (fun Z hZ => ?_) ?_
          · go_simp
            exact (count_any kb wb cb mb b W (by omega) _ _ Z (Nat.lt_succ_self _) hZ.2).mono fun e Z' h => ⟨h.1, hZ.1.trans h.2.1, h.2.2⟩
          simp only [Act.put, List.setIfInBounds_toArray, List.set_cons_zero, List.set_cons_succ]
          refine wpQuiet_nil ?_
          rintro Z ⟨hz1, hz2⟩
          have HZ1 := Lib.hid hz1
          have HSZ := Lib.hid (HS.out.turn hz1 HXY.out.memo.isMap HNB.out.lo.2 (by omega))
          have HXZ := Lib.hid (HXY.out.turn HNB.out hz1 hz2)
          have HTZ : Hid (Stat c1 c2 b W (setS l) Z) := HT.out.grownNe hz1 (fun e => by have := Option.some.inj e; have := HC.out; omega) (fun e => by have := Option.some.inj e; have := HC.out; omega) (fun e => HXY.out.memo.ne.2.2.2 (Option.some.inj e))
          have HKY : Hid (KeepsFrom X1.heap.size Y Z) := KeepsFrom.of_grownBy hz1 (fun r e => by cases e; have := HBX.out; omega)
          clear hz1 hz2
          have hkc := HXZ.out.kc
          have hkf := HXZ.out.kf
          by_cases hkl : k' < cnt W (setS l ||| oneS x.val)
          · have hdec : decide (k' < cnt W (setS l ||| oneS x.val)) = true := decide_eq_true hkl
            have HSC : Hid (∀ suf, nthScan W (setS l) ((pre ++ [x]).map Subtype.val ++ suf) kk = (some x.val, k')) := fun suf => by
              rw [List.map_append, List.append_assoc, HSUF.out]
              show nthScan W (setS l) (x.val :: suf) k' = _
              unfold nthScan
              rw [if_pos hkl]
            have HKL := Lib.hid hkl
            have hcv := HSZ.out.cv
            have hbo := lt_of_cell hcv
            clear hkl
            go_wp2
            unfold onlyN
            gi_wp2_with (gi_at_builtin; refine append_intIn _ rfl _ _ rfl base (.slice ao j c) l rfl (HSZ.out.own.kept ((Kept.refl _).alloc _)) Z.heap.size 1 x.val rfl (by simp [go_sem]) (by rw [HLEN.out]; omega) (Nat.le_trans HSZ.out.sz (by simp)) ?_; intro g' c' w1 hown1 hg1; have HG1 := Lib.hid hg1; have HF1 := Lib.hid ((HSZ.out.keptBy ((Kept.refl Z).alloc _)).append hg1 hown1 (Nat.le_of_lt (Nat.lt_of_le_of_lt HB.out.1 HB.out.2.1)) HB.out.2.1 HB.out.2.2.1); have HXA := Lib.hid ((HXZ.out.keptBy ((Kept.refl Z).alloc _)).past HNB.out hg1 (fun r e => Nat.le_of_lt (Nat.lt_of_lt_of_le HB.out.2.1 ((HSZ.out.own.kept ((Kept.refl Z).alloc (.cells #[.int .i64 x.val] 3))).lt r e).1))); clear hown1 hg1 hcv hbo; have hcv1 := HF1.out.cv; have hfv1 := HF1.out.fv)
            clear hcv1 hfv1
            have HF2 := Lib.hid (HF1.out.setOut HB.out.1 HB.out.2.1 HB.out.2.2.2.1 (.slice (some ⟨g', 0, none⟩) (l.length + 1) c'))
            have HX2 := Lib.hid (HXA.out.setOther HNB.out (Nat.le_refl bo) (.slice (some ⟨g', 0, none⟩) (l.length + 1) c'))
            have HKF : Hid (KeepsOthers Z (w1.setCell ⟨bo, 0, none⟩ (.slice (some ⟨g', 0, none⟩) (l.length + 1) c'))) :=
              ((KeepsOthers.alloc Z _).trans (KeepsOthers.of_grownBy HG1.out (own_row_cells (HSZ.out.own.kept ((Kept.refl Z).alloc _))))).trans (KeepsOthers.setCell _ _ _)
            generalize (w1.setCell ⟨bo, 0, none⟩ (.slice (some ⟨g', 0, none⟩) (l.length + 1) c')) = w2 at *
            have hcd2 := HF2.out.cd
            have hfd2 := HF2.out.fd
            refine regionIn_tail 4 (by kernel_rfl) (by kernel_rfl) (by kernel_rfl) ?_
            simp only [List.take_succ_cons, List.take_zero, List.drop_succ_cons, List.drop_zero]
            repeat still_step
            still_call Calls_still (one_any _ _ HX32.out)
            repeat still_step
            refine wpStill_nil ?_
            go_wp2
            unfold onlyN
            gi_wp2
            refine ⟨HKY.out.trans (((HKF.out.trans (KeepsOthers.setCell _ _ _)).trans (KeepsOthers.drew _)).from _), rfl, x, (.slice (some ⟨g', 0, none⟩) (l.length + 1) c'), k', HSC.out, HKA.out, HKL.out, ?_, ?_⟩
            · rw [setS_snoc, Int.toNat_natCast]
              exact (HF2.out.setDone HB.out.2.2.2.2.1 HB.out.2.2.1 HB.out.2.2.2.1 _).keptBy (Kept.refl _).drew
            · exact (HX2.out.setOther HNB.out (Nat.le_of_lt HBD.out) _).keptBy (Kept.refl _).drew
          · have hdec : decide (k' < cnt W (setS l ||| oneS x.val)) = false := decide_eq_false hkl
            have HKL := Lib.hid hkl
            clear hkl
            go_wp2
            unfold onlyN
            gi_wp2
            have hkb : kk < 9223372036854775807 := by
              have h1 := (cnt_bound hn _ (setS l) (Nat.le_refl _)).2.1
              have h2 : fct (rest W (setS l)) ≤ 479001600 := fct_mono (b := 12) (by have := rest_le W (setS l); omega)
              have := HK1.out
              omega
            have hle := HKB.out
            have hcb0 := HCB.out.1
            have hkl' := HKL.out
            rw [IntWalk.wrap64_in _ (by omega)]
            refine ⟨HKY.out.trans ((KeepsOthers.setCell _ _ _).from _), HTZ.out.setOther (by have := HC.out; omega) (by have := HC.out; omega) (by omega) _, HSZ.out.setOther HNB.out.lo.1 (by omega) (by omega) (by have := HBD.out; omega) _, _, HXZ.out.setK HNB.out _, by omega, by omega, fun suf => ?_⟩
            rw [List.map_append, List.append_assoc, HSUF.out]
            show nthScan W (setS l) (x.val :: suf) k' = _
            conv => lhs; unfold nthScan
            rw [if_neg (by omega)]
      · have ek : j = W.n := by omega
        have HEK := Lib.hid ek
        clear ek
        go_wp2
        refine region_tail 6 (by kernel_rfl) (by kernel_rfl) ?_
        simp only [List.take_succ_cons, List.take_zero, List.drop_succ_cons, List.drop_zero]
        repeat still_step
        refine wpStill_nil ?_
        go_wp2
        refine leaves_marks (B := base) Ds X.drew (fun D hD => HST.out.ds D hD) HND.out (fun w' hs => ⟨_, results_tmp2 rfl _ _ _, ?_⟩)
        rw [HR2.out]
        refine ⟨.slice ao j c, rfl, ?_, ?_⟩
        · have h := ((HST.out.own.kept (Kept.refl X).drew).shuts hs).base (Nat.le_of_lt (Nat.lt_of_le_of_lt HB.out.1 HB.out.2.1))
          rw [← HFIN.out HEK.out]
          exact h.new
        · exact hs.kept (HST.out.kept.trans (Kept.refl X).drew) (Nat.le_of_lt (Nat.lt_of_le_of_lt HB.out.1 HB.out.2.1))

set_option maxHeartbeats 400000 in
theorem Nth_any (o : Prob) (ao bo : Option Addr) (ca cb : Nat) (k : Int) (w : World) (ho : IsProb w o ao bo) :
    Calls Try.prog 53 #[probV o ao ca bo cb, .int .i64 k] w (ListErr (NthR o k).1 (NthR o k).2 w) := by
  by_cases h : errC o = 0
  · exact Nth_ok o ao bo ca cb k w ho h
  have HO := Lib.hid ho
  clear ho
  have hr : NthR o k = ([], errC o) := by unfold NthR; rw [if_neg h]
  rw [hr]
  have H := Lib.hid h
  have hb : (errC o != 0) = true := by simp [h]
  clear hr h
  refine calls_of_wp_marks Try.func53 rfl ?_
  simp only [Try.ntmps53, List.size_toArray, List.length_cons, List.length_nil, Nat.reduceAdd, Nat.reduceSub, Array.replicate_succ, Array.replicate_zero, List.push_toArray, List.append_toArray, List.nil_append, List.cons_append]
  go_wp2_with fail
  obtain ⟨w0, e0, hk0, -, -⟩ := alloc_prob w o.N o.arcs o.near ao ca bo cb
  rw [e0]
  clear e0
  have HK1 := Lib.hid (hk0.alloc (.cells #[.int .i64 k] 3))
  clear hk0
  generalize (w0.alloc (.cells #[.int .i64 k] 3)) = w1 at *
  refine (counted_bad o ao bo ca cb w1 (HO.out.kept HK1.out) H.out).mono ?_
  rintro e w2 ⟨rfl, hk2⟩
  have HK2 := Lib.hid (HK1.out.trans hk2)
  clear hk2
  go_wp2
  refine leaves_marks (B := w.heap.size) [] _ (fun D hD => by cases hD) List.nodup_nil (fun w' hs => ⟨_, results_tmp2 rfl _ _ _, ?_⟩)
  exact ⟨_, rfl, NewI.nil _ _, hs.kept HK2.out (Nat.le_refl _)⟩

end Go.Proofs.Yteljjkghjbofnaa
