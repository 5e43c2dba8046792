/- round, Circle. -/
import Derived.Test.YteljjkghjbofnaaWj
import Derived.Deep.LoopGhost
import Derived.WalkMore
import Derived.Deep.DeepCutAuto
import Derived.Deep.CutBlock
set_option maxRecDepth 100000
namespace Go.Proofs.Yteljjkghjbofnaa
open Go Go.Proofs Go.RowKit

/-! ### The model of 'round' -/

def layerStep (W : Web) (now : S) (m : Int) (st : List Int × S) (p : Nat) : List Int × S :=
  if ¬ (W.to p &&& now = 0#32) ∧ st.1.getD p 0 = 0 then (st.1.set p m, st.2 ||| oneS p) else st
def layerPart (W : Web) (now : S) (m : Int) (a : Nat) (left : List Int) (j : Nat) : List Int × S := (List.range' a j).foldl (layerStep W now m) (left, 0#32)
def layer (W : Web) (a : Nat) (now : S) (m : Int) (left : List Int) : List Int × S := layerPart W now m a left (W.n - a)
/-- left[p]: how many arcs lead from p back to a, by patches above a. -/
def bfs (W : Web) (a : Nat) : Nat → S → Int → List Int → List Int
  | 0, _, _, left => left
  | f + 1, now, m, left => if now = 0#32 then left else if hasS (layer W a now m left).2 a then (layer W a now m left).1 else bfs W a f (layer W a now m left).2 (m + 1) (layer W a now m left).1
def leftOf (W : Web) (a : Nat) : List Int := bfs W a 25 (oneS a) 1 (List.replicate 24 0)

def findNext (W : Web) (a : Nat) (left : List Int) (last : Nat) (m : Int) : Option Nat := (List.range' (a + 1) (W.n - (a + 1))).find? fun q => hasS (W.to last) q && left.getD q 0 == m
def pathStep (W : Web) (a : Nat) (left : List Int) (out : List Int) (m : Int) : List Int :=
  match findNext W a left (out.getLastD 0).toNat m with | some q => out ++ [(q : Int)] | none => out
def pathL (W : Web) (a : Nat) (left : List Int) : List Int → Nat → List Int
  | out, 0 => out
  | out, m + 1 => pathL W a left (pathStep W a left out ((m + 1 : Nat) : Int)) m
def roundOf (W : Web) (a : Nat) : List Int := if (leftOf W a).getD a 0 = 0 then [] else pathL W a (leftOf W a) [(a : Int)] ((leftOf W a).getD a 0 - 1).toNat

theorem layerPart_succ (W : Web) (now : S) (m : Int) (a : Nat) (left : List Int) (j : Nat) : layerPart W now m a left (j + 1) = layerStep W now m (layerPart W now m a left j) (a + j) := by
  unfold layerPart; rw [List.range'_concat, List.foldl_append]; simp

/-- What a layer keeps: the length, the bounds; it has set something, or there is less to set. -/
structure LayerOk (left : List Int) (st : List Int × S) : Prop where
  len : st.1.length = 24
  bd : ∀ x ∈ st.1, 0 ≤ x ∧ x ≤ 30
  less : st.2 = 0#32 ∨ st.1.count 0 < left.count 0
  le : st.1.count 0 ≤ left.count 0

theorem layerStep_ok {W : Web} {now : S} {m : Int} {left : List Int} {st : List Int × S} {p : Nat} (h : LayerOk left st) (hm : 0 < m ∧ m ≤ 30) (hp : p < 24) : LayerOk left (layerStep W now m st p) := by
  unfold layerStep
  split
  · rename_i hc
    have hp' : p < st.1.length := by rw [h.len]; exact hp
    have h0 : st.1[p] = 0 := by
      have := hc.2
      rw [List.getD_eq_getElem?_getD, List.getElem?_eq_getElem hp'] at this
      simpa using this
    have hcount : (st.1.set p m).count 0 = st.1.count 0 - 1 := by
      rw [List.count_set (by exact hp'), h0]
      have : (m == (0 : Int)) = false := by simp; omega
      simp [this]
    have hpos : 0 < st.1.count 0 := List.count_pos_iff.2 (h0 ▸ List.getElem_mem hp')
    refine ⟨by simpa using h.len, fun x hx => ?_, .inr ?_, ?_⟩
    · rcases List.mem_or_eq_of_mem_set hx with hx | rfl
      · exact h.bd x hx
      · omega
    · have := h.le; simp only [hcount]; omega
    · have := h.le; simp only [hcount]; omega
  · exact h
theorem layerPart_ok {W : Web} {now : S} {m : Int} {a : Nat} {left : List Int} (hl : left.length = 24) (hb : ∀ x ∈ left, 0 ≤ x ∧ x ≤ 30) (hm : 0 < m ∧ m ≤ 30) (j : Nat) (hj : a + j ≤ 24) : LayerOk left (layerPart W now m a left j) := by
  induction j with
  | zero => exact ⟨hl, hb, .inl rfl, Nat.le_refl _⟩
  | succ j ih => rw [layerPart_succ]; exact layerStep_ok (ih (by omega)) hm (by omega)

theorem bfs_ok {W : Web} {a : Nat} (ha : a ≤ 24) (hn : W.n ≤ 24) : ∀ (f : Nat) (now : S) (m : Int) (left : List Int), 0 < m → m + f ≤ 26 → left.length = 24 → (∀ x ∈ left, 0 ≤ x ∧ x ≤ 30) → (bfs W a f now m left).length = 24 ∧ ∀ x ∈ bfs W a f now m left, 0 ≤ x ∧ x ≤ 30 := by
  intro f
  induction f with
  | zero => intro now m left _ _ h1 h2; exact ⟨h1, h2⟩
  | succ f ih =>
    intro now m left hm hf h1 h2
    have hok : LayerOk left (layer W a now m left) := layerPart_ok h1 h2 ⟨hm, by omega⟩ _ (by omega)
    unfold bfs
    split
    · exact ⟨h1, h2⟩
    · split
      · exact ⟨hok.len, hok.bd⟩
      · exact ih _ _ _ (by omega) (by omega) hok.len hok.bd
theorem leftOf_ok (W : Web) (a : Nat) (ha : a ≤ 24) (hn : W.n ≤ 24) : (leftOf W a).length = 24 ∧ ∀ x ∈ leftOf W a, 0 ≤ x ∧ x ≤ 30 :=
  bfs_ok ha hn 25 _ _ _ (by omega) (by omega) (by simp) (fun x hx => by have := List.eq_of_mem_replicate hx; omega)

/-! ### The walk -/

theorem OwnI.build (X : World) (base : Nat) (y : Int) (h : base ≤ X.heap.size) : OwnI (X.alloc (.cells #[.int .i64 y] 3)) base (.slice (some ⟨X.heap.size, 0, none⟩) 1 1) [y] :=
  ⟨rfl, .inr ⟨X.heap.size, 1, _, rfl, h, heap_alloc_new X _, Nat.le_refl _, by unfold maxLen; omega, rfl, rfl⟩⟩

theorem info154 : Try.prog.underlying 154 = some (.array 24 3) := Try.underlying154

theorem alloc_left (w : World) : ∃ w0, w.alloc (.cells #[Value.int IntKind.i64 0, Value.int IntKind.i64 0, Value.int IntKind.i64 0, Value.int IntKind.i64 0, Value.int IntKind.i64 0, Value.int IntKind.i64 0, Value.int IntKind.i64 0, Value.int IntKind.i64 0, Value.int IntKind.i64 0, Value.int IntKind.i64 0, Value.int IntKind.i64 0, Value.int IntKind.i64 0, Value.int IntKind.i64 0, Value.int IntKind.i64 0, Value.int IntKind.i64 0, Value.int IntKind.i64 0, Value.int IntKind.i64 0, Value.int IntKind.i64 0, Value.int IntKind.i64 0, Value.int IntKind.i64 0, Value.int IntKind.i64 0, Value.int IntKind.i64 0, Value.int IntKind.i64 0, Value.int IntKind.i64 0] 154) = w0 ∧ Kept w w0 ∧ w0.heap.size = w.heap.size + 1 ∧ Arr w0 w.heap.size (List.replicate 24 0) := by
  have hh := heap_alloc_new w (.cells #[Value.int IntKind.i64 0, Value.int IntKind.i64 0, Value.int IntKind.i64 0, Value.int IntKind.i64 0, Value.int IntKind.i64 0, Value.int IntKind.i64 0, Value.int IntKind.i64 0, Value.int IntKind.i64 0, Value.int IntKind.i64 0, Value.int IntKind.i64 0, Value.int IntKind.i64 0, Value.int IntKind.i64 0, Value.int IntKind.i64 0, Value.int IntKind.i64 0, Value.int IntKind.i64 0, Value.int IntKind.i64 0, Value.int IntKind.i64 0, Value.int IntKind.i64 0, Value.int IntKind.i64 0, Value.int IntKind.i64 0, Value.int IntKind.i64 0, Value.int IntKind.i64 0, Value.int IntKind.i64 0, Value.int IntKind.i64 0] 154)
  refine ⟨_, rfl, (Kept.refl w).alloc _, by simp, by simp, fun i hi => ?_, fun o => frozen_of_row _ _ _ _ _ hh⟩
  rw [cell_of_row _ _ _ _ _ _ hh]
  have h24 : i < 24 := by simpa using hi
  rw [List.getElem_replicate]
  have e : (#[Value.int IntKind.i64 0, Value.int IntKind.i64 0, Value.int IntKind.i64 0, Value.int IntKind.i64 0, Value.int IntKind.i64 0, Value.int IntKind.i64 0, Value.int IntKind.i64 0, Value.int IntKind.i64 0, Value.int IntKind.i64 0, Value.int IntKind.i64 0, Value.int IntKind.i64 0, Value.int IntKind.i64 0, Value.int IntKind.i64 0, Value.int IntKind.i64 0, Value.int IntKind.i64 0, Value.int IntKind.i64 0, Value.int IntKind.i64 0, Value.int IntKind.i64 0, Value.int IntKind.i64 0, Value.int IntKind.i64 0, Value.int IntKind.i64 0, Value.int IntKind.i64 0, Value.int IntKind.i64 0, Value.int IntKind.i64 0] : Array Value) = Array.replicate 24 (.int .i64 0) := rfl
  rw [e, Array.getElem?_replicate, if_pos h24]

theorem findNext_none {W : Web} {a : Nat} {left : List Int} {last : Nat} {m : Int} (h : ∀ q, a + 1 ≤ q → q < W.n → (hasS (W.to last) q && left.getD q 0 == m) = false) : findNext W a left last m = none := by
  unfold findNext
  rw [List.find?_eq_none]
  intro q hq
  rw [List.mem_range'_1] at hq
  simpa using h q (by omega) (by omega)
theorem findNext_some {W : Web} {a : Nat} {left : List Int} {last q : Nat} {m : Int} (h1 : a + 1 ≤ q) (h2 : q < W.n) (h3 : (hasS (W.to last) q && left.getD q 0 == m) = true)
    (h : ∀ r, a + 1 ≤ r → r < q → (hasS (W.to last) r && left.getD r 0 == m) = false) : findNext W a left last m = some q := by
  unfold findNext
  have e : List.range' (a + 1) (W.n - (a + 1)) = List.range' (a + 1) (q - (a + 1)) ++ q :: List.range' (q + 1) (W.n - (q + 1)) := by
    have h1' : List.range' (a + 1) (W.n - (a + 1)) = List.range' (a + 1) (q - (a + 1)) ++ List.range' q (W.n - q) := by
      rw [show W.n - (a + 1) = (q - (a + 1)) + (W.n - q) by omega, ← List.range'_append_1]
      congr 2; omega
    rw [h1', show W.n - q = (W.n - (q + 1)) + 1 by omega, List.range'_succ]
  rw [e, List.find?_append]
  have hn : (List.range' (a + 1) (q - (a + 1))).find? (fun q => hasS (W.to last) q && left.getD q 0 == m) = none := by
    rw [List.find?_eq_none]
    intro r hr
    rw [List.mem_range'_1] at hr
    simpa using h r (by omega) (by omega)
  rw [hn]
  simp only [Option.none_or]
  rw [List.find?_cons, h3]
theorem OwnI.get {X : World} {base g c n : Nat} {l : List Int} (h : OwnI X base (.slice (some ⟨g, 0, none⟩) n c) l) : n = l.length ∧ g < X.heap.size ∧ base ≤ g ∧ ∀ i, (h : i < l.length) → X.cell? ⟨g, i, none⟩ = some (.int .i64 l[i]) := by
  obtain ⟨ao, c', hv, _, hi⟩ := h.slice
  simp only [Value.slice.injEq] at hv
  obtain ⟨rfl, rfl, rfl⟩ := hv
  have hlt := h.lt g rfl
  refine ⟨rfl, hlt.2, hlt.1, fun i h => ?_⟩
  obtain ⟨b, off, e, hc⟩ := hi i h
  simp only [Option.some.injEq, Addr.mk.injEq] at e
  obtain ⟨rfl, rfl, -⟩ := e
  rw [Nat.zero_add] at hc
  exact hc
theorem Arr.grownNe {X Y : World} {g : Nat} {xs : List Int} {row : Option Nat} (h : Arr X g xs) (hg : X.grownBy Y row) (hne : some g ≠ row) : Arr Y g xs :=
  ⟨Nat.lt_of_lt_of_le h.lt hg.size, fun i hi => hg.cell (h.get i hi) hne, fun o => (World.frozen?_of_block (a := ⟨g, o, none⟩) (hg.block g h.lt hne)).trans (h.free o)⟩

theorem OwnI.last {X : World} {base : Nat} {v : Value} {l : List Int} (h : OwnI X base v l) (hne : l ≠ []) :
    ∃ g c, v = .slice (some ⟨g, 0, none⟩) l.length c ∧ l.length ≤ c ∧ X.cell? ⟨g, l.length - 1, none⟩ = some (.int .i64 (l.getLastD 0)) ∧ base ≤ g ∧ 0 < l.length := by
  have hpos : 0 < l.length := List.length_pos_iff.2 hne
  rcases h.2 with ⟨rfl, h0⟩ | ⟨g, cap, cur, rfl, hbg, hgg, hnc, hcm, hcs, htake⟩
  · simp at h0; exact absurd h0 hne
  · obtain ⟨_, _, hb, hc⟩ := OwnI.get h
    refine ⟨g, cap, rfl, hnc, ?_, hb, hpos⟩
    rw [hc (l.length - 1) (by omega), List.getLastD_eq_getLast?, List.getLast?_eq_getElem?, List.getElem?_eq_getElem (by omega)]
    rfl

def RoundPost (l : List Int) (w : World) (e : Ending) (w' : World) : Prop := ∃ v, e = .returned v ∧ OwnI w' w.heap.size v l ∧ (l = [] → v = .slice none 0 0) ∧ Kept w w'

set_option maxHeartbeats 2000000 in
theorem round_any (b : Nat) (W : Web) (a : Nat) (w : World) (hw : WebAt w b W) (hn : W.n ≤ 24) (ha : a < W.n) :
    Calls Try.prog 96 #[.pointer (some ⟨b, 0, none⟩), .int .i64 a] w (RoundPost (roundOf W a) w) := by
  have HW := Lib.hid hw
  clear hw
  go_enter Try.func96, Try.ntmps96
  go_wp2
  go_step3
  go_wp2_with fail
  refine (one_any a _ (by omega)).mono ?_
  rintro e w2 ⟨rfl, rfl⟩
  obtain ⟨w0, e0, hk0, hsz0, harr0⟩ := alloc_left w
  rw [e0]
  clear e0
  have HK0 := Lib.hid hk0
  have HA0 := Lib.hid harr0
  have HSZ := Lib.hid hsz0
  obtain ⟨g, hg⟩ : ∃ g, w.heap.size = g := ⟨_, rfl⟩
  rw [hg] at HA0 ⊢
  have HG : Hid (w.heap.size ≤ g ∧ g < w0.heap.size) := ⟨by omega, by omega⟩
  clear hk0 harr0 hsz0 hg
  go_upto_block 0 with (fail)
  go_cut [6, 7, 8, 9] (fun _ _ _ _ wc => Kept w wc ∧ w0.heap.size ≤ wc.heap.size ∧ Arr wc g (leftOf W a))
  case first =>
    go_wp2_with fail
    go_loopg [6, 7] 25 (fun f now m wr => ∃ (s : S) (mm : Nat) (left : List Int), now = .int .u32 (sI s) ∧ m = .int .i64 mm ∧ 1 ≤ mm ∧ mm + f = 26 ∧ Kept w wr ∧ w0.heap.size ≤ wr.heap.size ∧ Arr wr g left ∧ left.length = 24 ∧
      (∀ x ∈ left, 0 ≤ x ∧ x ≤ 30) ∧ bfs W a f s mm left = leftOf W a ∧ (s = 0#32 ∨ left.count 0 < f))
    case atStart =>
      exact ⟨oneS a, 1, List.replicate 24 0, rfl, rfl, by omega, by omega, HK0.out, Nat.le_refl _, HA0.out, by simp, fun x hx => by have := List.eq_of_mem_replicate hx; omega, rfl, .inr (by simp)⟩
    case round =>
      obtain ⟨s, mm, left, rfl, rfl, hm1, hmf, hkw, hsz, harr, hlen, hbd, hbfs, hless⟩ := hrel
      have HKW := Lib.hid hkw
      have HSW := Lib.hid hsz
      have HAR := Lib.hid harr
      have HLEN := Lib.hid hlen
      have HBD := Lib.hid hbd
      have HBFS := Lib.hid hbfs
      have HLESS := Lib.hid hless
      clear hkw hsz harr hlen hbd hbfs hless HA0 HK0
      by_cases hz : s = 0#32
      · have hb : (sI s != 0) = false := by simp [hz, sI_zero]
        have HZ := Lib.hid hz
        clear hz
        go_wp2
        go_meet
        case rel =>
          refine ⟨HKW.out, HSW.out, ?_⟩
          rw [← HBFS.out]
          have e : bfs W a gk s mm left = left := by
            cases gk with
            | zero => rfl
            | succ f => unfold bfs; rw [if_pos HZ.out]
          rw [e]
          exact HAR.out
      · have hb : (sI s != 0) = true := by simp [hz, sI_eq_zero]
        have hct : left.count 0 < gk := HLESS.out.resolve_left hz
        obtain ⟨f, rfl⟩ : ∃ f, gk = f + 1 := ⟨gk - 1, by omega⟩
        have hm30 : mm ≤ 30 := by omega
        have HZ := Lib.hid hz
        have HCT := Lib.hid hct
        clear hz hct
        go_wp2_with fail
        go_loopg [8, 9] (W.n - a) (fun j nx p wr => ∃ i : Nat, i + j = W.n - a ∧ p = .int .i64 ((a + i : Nat) : Int) ∧ nx = .int .u32 (sI (layerPart W s mm a left i).2) ∧ Kept w wr ∧ w0.heap.size ≤ wr.heap.size ∧ Arr wr g (layerPart W s mm a left i).1)
        case atStart => exact ⟨0, by omega, rfl, rfl, HKW.out, HSW.out, HAR.out⟩
        case round =>
          obtain ⟨i, hij, rfl, rfl, hkw, hsz, harr⟩ := hrel
          have hok := layerPart_ok (W := W) (now := s) (m := mm) (a := a) HLEN.out HBD.out ⟨by omega, by omega⟩ i (by omega)
          have HKW2 := Lib.hid hkw
          have HSW2 := Lib.hid hsz
          have HAR2 := Lib.hid harr
          have HOK := Lib.hid hok
          have HIJ := Lib.hid hij
          obtain ⟨p, hp⟩ : ∃ p, a + i = p := ⟨_, rfl⟩
          rw [hp]
          have HP := Lib.hid hp
          by_cases hlt : p < W.n
          · have hsucc := layerPart_succ W s mm a left i
            rw [hp] at hsucc
            have hj : gk = (gk - 1) + 1 := by omega
            have HJ := Lib.hid hj
            clear hkw hsz harr hok hij hp hj
            generalize layerPart W s mm a left i = st at *
            have HSUCC := Lib.hid hsucc
            clear hsucc
            have hp24 : p < 24 := by omega
            have hpi : (p : Int) < 24 := by omega
            have hp32 : p < 32 := by omega
            have hlp : p < st.1.length := by rw [HOK.out.len]; exact hp24
            have hcp := HAR2.out.get p hlp
            have hfr := HAR2.out.free p
            have hto := (HW.out.kept HKW2.out).to p hp24
            have hwn := (HW.out.kept HKW2.out).n
            have hbdp := HOK.out.bd st.1[p] (List.getElem_mem hlp)
            have hgd : st.1.getD p 0 = st.1[p] := by rw [List.getD_eq_getElem?_getD, List.getElem?_eq_getElem]; rfl
            generalize st.1[p] = d at hcp hbdp hgd
            have HGD := Lib.hid hgd
            clear hgd hlp hbdp
            by_cases hz2 : W.to p &&& s = 0#32
            · have hb2 : (sI (W.to p &&& s) != 0) = false := by simp [hz2, sI_zero]
              have HZ2 := Lib.hid hz2
              clear hz2
              go_wp2
              go_roundg (gk - 1)
              case measure => have := HJ.out; omega
              case rel =>
                have h1 := HIJ.out
                have h2 := HJ.out
                refine ⟨i + 1, by omega, ?_, ?_, HKW2.out, HSW2.out, ?_⟩
                · rw [← Nat.add_assoc, HP.out]; rfl
                · rw [HSUCC.out, layerStep, if_neg (fun h => h.1 HZ2.out)]
                · rw [HSUCC.out, layerStep, if_neg (fun h => h.1 HZ2.out)]; exact HAR2.out
            · have hb2 : (sI (W.to p &&& s) != 0) = true := by simp [hz2, sI_eq_zero]
              have HZ2 := Lib.hid hz2
              clear hz2
              by_cases hd : d = 0
              · have hb3 : (d == 0) = true := by simp [hd]
                have HD := Lib.hid hd
                clear hd
                go_wp2_with fail
                refine (one_any p _ hp32).mono ?_
                rintro e w3 ⟨rfl, rfl⟩
                go_wp2
                go_roundg (gk - 1)
                case measure => have := HJ.out; omega
                case rel =>
                  have h1 := HIJ.out
                  have h2 := HJ.out
                  refine ⟨i + 1, by omega, ?_, ?_, HKW2.out.setCell HG.out.1 _, by simpa [World.setCell] using HSW2.out, ?_⟩
                  · rw [← Nat.add_assoc, HP.out]; rfl
                  · rw [HSUCC.out, layerStep, if_pos ⟨HZ2.out, HGD.out.trans HD.out⟩]
                  · rw [HSUCC.out, layerStep, if_pos ⟨HZ2.out, HGD.out.trans HD.out⟩]; exact HAR2.out.set _
              · have hb3 : (d == 0) = false := by simp [hd]
                have HD := Lib.hid hd
                clear hd
                go_wp2
                go_roundg (gk - 1)
                case measure => have := HJ.out; omega
                case rel =>
                  have h1 := HIJ.out
                  have h2 := HJ.out
                  have hn : ¬ (¬ (W.to p &&& s = 0#32) ∧ st.1.getD p 0 = 0) := fun h => HD.out (HGD.out.symm.trans h.2)
                  refine ⟨i + 1, by omega, ?_, ?_, HKW2.out, HSW2.out, ?_⟩
                  · rw [← Nat.add_assoc, HP.out]; rfl
                  · rw [HSUCC.out, layerStep, if_neg hn]
                  · rw [HSUCC.out, layerStep, if_neg hn]; exact HAR2.out
          · have hi : i = W.n - a := by omega
            have hlayer : layerPart W s mm a left i = layer W a s mm left := by unfold layer; rw [hi]
            rw [hlayer] at HAR2 HOK ⊢
            generalize hst : layer W a s mm left = st at *
            have HST := Lib.hid hst
            have hwn := (HW.out.kept HKW2.out).n
            have ha32 : a < 32 := by omega
            clear hkw hsz harr hok hij hp hi hlayer hst
            go_wp2_with fail
            refine (has_any st.2 a _ ha32).mono ?_
            rintro e w3 ⟨rfl, rfl⟩
            cases hh : hasS st.2 a
            all_goals
              have HH := Lib.hid hh
              clear hh hwn
            · go_wp2
              go_roundg f
              case measure => omega
              case rel =>
                refine ⟨st.2, mm + 1, st.1, rfl, by go_num, by omega, by omega, HKW2.out, HSW2.out, HAR2.out, HOK.out.len, HOK.out.bd, ?_, ?_⟩
                · rw [← HBFS.out]
                  conv => rhs; unfold bfs
                  rw [if_neg HZ.out, HST.out, if_neg (by rw [HH.out]; simp)]
                  rfl
                · rcases HOK.out.less with h | h
                  · exact .inl h
                  · have := HCT.out; exact .inr (by omega)
            · go_wp2
              go_meet
              case rel =>
                refine ⟨HKW2.out, HSW2.out, ?_⟩
                rw [← HBFS.out]
                have e : bfs W a (f + 1) s mm left = st.1 := by
                  unfold bfs
                  rw [if_neg HZ.out, HST.out, if_pos HH.out]
                rw [e]
                exact HAR2.out
  case rest =>
    obtain ⟨hkc, hsc, harc⟩ := hcut
    have HLL : Hid ((leftOf W a).length = 24 ∧ ∀ x ∈ leftOf W a, 0 ≤ x ∧ x ≤ 30) := leftOf_ok W a (by omega) hn
    have HKC := Lib.hid hkc
    have HSC := Lib.hid hsc
    have HAC := Lib.hid harc
    clear hkc hsc harc HA0 HK0
    have hla : a < (leftOf W a).length := by rw [HLL.out.1]; omega
    have hca := HAC.out.get a hla
    have hbd := HLL.out.2 _ (List.getElem_mem hla)
    have hgd : (leftOf W a).getD a 0 = (leftOf W a)[a] := by rw [List.getD_eq_getElem?_getD, List.getElem?_eq_getElem]; rfl
    have hai : (a : Int) < 24 := by omega
    generalize (leftOf W a)[a] = d at hca hbd hgd
    have HGD := Lib.hid hgd
    clear hgd hla
    by_cases hd : d = 0
    · have hb : (d == 0) = true := by simp [hd]
      have HD := Lib.hid hd
      clear hd hbd
      go_wp2
      rw [Exit.noGoto_ret]
      go_ret
      have e : roundOf W a = [] := by unfold roundOf; rw [if_pos (HGD.out.trans HD.out)]
      refine ⟨_, rfl, ?_, fun _ => rfl, HKC.out⟩
      rw [e]
      exact OwnI.nil _ _
    · have hb : (d == 0) = false := by simp [hd]
      have HD := Lib.hid hd
      obtain ⟨m, hm⟩ : ∃ m : Nat, d = (m : Int) + 1 := ⟨(d - 1).toNat, by omega⟩
      subst hm
      have hm30 : m ≤ 30 := by omega
      have HR : Hid (roundOf W a = pathL W a (leftOf W a) [(a : Int)] m) := by
        show _ = _
        unfold roundOf
        rw [if_neg (fun h => HD.out (HGD.out.symm.trans h)), HGD.out]
        congr 1
        omega
      have hglt := HAC.out.lt
      clear hd
      go_wp2
      go_step3
      go_wp2
      have hown0 := OwnI.build wc w0.heap.size a HSC.out
      have hkw0 := HKC.out.alloc (.cells #[.int .i64 a] 3)
      have harr0 := HAC.out.grownNe (World.grownBy_alloc wc (.cells #[.int .i64 a] 3) none) (by simp)
      generalize (wc.alloc (.cells #[.int .i64 a] 3)) = w1 at *
      have HOWN := Lib.hid hown0
      have HKW := Lib.hid hkw0
      have HARR := Lib.hid harr0
      clear hown0 hkw0 harr0 hca hbd hb hglt
      generalize wc.heap.size = g1 at *
      go_loopg [10, 11] m (fun j out nn wr => ∃ l : List Int, nn = .int .i64 (j : Int) ∧ OwnI wr w0.heap.size out l ∧ l ≠ [] ∧ (∀ x ∈ l, 0 ≤ x ∧ x < (W.n : Int)) ∧ l.length + j ≤ 31 ∧ Kept w wr ∧ w0.heap.size ≤ wr.heap.size ∧ Arr wr g (leftOf W a) ∧ pathL W a (leftOf W a) l j = roundOf W a)
      case atStart =>
        exact ⟨[(a : Int)], rfl, HOWN.out, by simp, fun x hx => by simp at hx; omega, (by show 1 + m ≤ 31; omega), HKW.out, by have := HARR.out.lt; have := HOWN.out.lt g1 rfl; omega, HARR.out, HR.out.symm⟩
      case round =>
        obtain ⟨l, rfl, hown, hne, hin, hlen, hkw, hsz, harr, hpath⟩ := hrel
        have HO := Lib.hid hown
        have HNE := Lib.hid hne
        have HIN := Lib.hid hin
        have HLEN := Lib.hid hlen
        have HK := Lib.hid hkw
        have HSZR := Lib.hid hsz
        have HA := Lib.hid harr
        have HPATH := Lib.hid hpath
        clear hown hne hin hlen hkw hsz harr hpath
        by_cases hz : gk = 0
        · subst hz
          go_wp2
          rw [Exit.noGoto_ret]
          go_ret
          have e : l = roundOf W a := HPATH.out
          rw [← e]
          exact ⟨_, rfl, HO.out.base (Nat.le_of_lt (Nat.lt_of_le_of_lt HG.out.1 HG.out.2)), fun e => absurd e HNE.out, HK.out⟩
        · obtain ⟨j, rfl⟩ : ∃ j, gk = j + 1 := ⟨gk - 1, by omega⟩
          have hj0 : ((j + 1 : Nat) : Int) = (j : Int) + 1 := by omega
          rw [hj0]
          have hgt : decide ((j : Int) + 1 > 0) = true := decide_eq_true (by omega)
          clear hz
          go_wp2
          obtain ⟨gg, c, rfl, hcl, hlast, hgb, hlpos⟩ := HO.out.last HNE.out
          have hlin : ∀ x, l.getLastD 0 = x → 0 ≤ x ∧ x < (W.n : Int) := by
            rintro _ rfl
            have := List.getLast_mem HNE.out
            rw [List.getLastD_eq_getLast?, List.getLast?_eq_some_getLast HNE.out]
            exact HIN.out _ this
          obtain ⟨x, hx⟩ : ∃ x : Nat, l.getLastD 0 = (x : Int) := ⟨(l.getLastD 0).toNat, by have := (hlin _ rfl).1; omega⟩
          have hxn : x < W.n := by have := (hlin _ hx).2; omega
          rw [hx] at hlast
          have HX := Lib.hid hx
          have HLAST := Lib.hid hlast
          have HGB := Lib.hid hgb
          have HCL := Lib.hid hcl
          clear hlin hx hlast hgb hcl
          obtain ⟨len, hlenk⟩ : ∃ len, l.length = len := ⟨_, rfl⟩
          rw [hlenk] at HLAST HCL hlpos HO ⊢
          have HLK := Lib.hid hlenk
          clear hlenk
          go_loopg [10, 12] (W.n - (a + 1)) (fun jj out q wi => ∃ i : Nat, out = .slice (some ⟨gg, 0, none⟩) len c ∧ i + jj = W.n - (a + 1) ∧ q = .int .i64 ((a + 1 + i : Nat) : Int) ∧ Kept wr wi ∧ ∀ r, a + 1 ≤ r → r < a + 1 + i → (hasS (W.to x) r && (leftOf W a).getD r 0 == ((j + 1 : Nat) : Int)) = false)
          case atStart => exact ⟨0, rfl, by omega, by go_num, Kept.refl _, fun r h1 h2 => by omega⟩
          case round =>
            obtain ⟨i, rfl, hij, rfl, hki, hno⟩ := hrel
            have HIJ := Lib.hid hij
            have HKI := Lib.hid hki
            have HNO := Lib.hid hno
            obtain ⟨q, hq⟩ : ∃ q, a + 1 + i = q := ⟨_, rfl⟩
            rw [hq]
            have HQ := Lib.hid hq
            have hwn := ((HW.out.kept HK.out).kept HKI.out).n
            by_cases hlt : q < W.n
            · have hqi : (q : Int) < 24 := by omega
              have hq32 : q < 32 := by omega
              have hxi : (x : Int) < 24 := by omega
              have hx24 : x < 24 := by omega
              have hto := ((HW.out.kept HK.out).kept HKI.out).to x hx24
              have hql : q < (leftOf W a).length := by rw [HLL.out.1]; omega
              have hcq := (HA.out.kept HKI.out).get q hql
              have hgdq : (leftOf W a).getD q 0 = (leftOf W a)[q] := by rw [List.getD_eq_getElem?_getD, List.getElem?_eq_getElem]; rfl
              have hlt2 := (HA.out.kept HKI.out).lt
              generalize (leftOf W a)[q] = dq at hcq hgdq
              have HGQ := Lib.hid hgdq
              have hcl := HKI.out.cell HLAST.out
              have hw1 : IntKind.i64.wrap ((len : Int) - 1) = ((len - 1 : Nat) : Int) := by
                have := HLEN.out
                have := HLK.out
                rw [show (len : Int) - 1 = ((len - 1 : Nat) : Int) by omega]
                exact IntWalk.i64_in _ (by omega)
              have hl1 : ((len - 1 : Nat) : Int) < len := by omega
              clear hij hki hno hq hgdq hql
              go_wp2
              refine region_tail 19 (by kernel_rfl) (by kernel_rfl) ?_
              simp only [List.take_succ_cons, List.take_zero, List.drop_succ_cons, List.drop_zero]
              repeat still_step
              still_call Calls_still (has_any _ q _ hq32)
              cases hh : hasS (W.to x) q
              all_goals
                have HH := Lib.hid hh
                clear hh
              · have HN2 : Hid ((hasS (W.to x) q && (leftOf W a).getD q 0 == ((j + 1 : Nat) : Int)) = false) := by
                  show _ = false
                  rw [HH.out]; rfl
                repeat still_step
                refine wpStill_nil ?_
                go_wp2
                go_roundg (gk - 1)
                case measure => have := HIJ.out; have := HQ.out; omega
                case rel =>
                  have h1 := HIJ.out
                  have h2 := HQ.out
                  refine ⟨i + 1, rfl, by omega, by rw [← h2]; go_num, HKI.out.drew, fun r h3 h4 => ?_⟩
                  by_cases e : r = q
                  · rw [e]; exact HN2.out
                  · exact HNO.out r h3 (by omega)
              · by_cases hd : dq = (j : Int) + 1
                · have hb3 : (dq == (j : Int) + 1) = true := by simp [hd]
                  have HD2 := Lib.hid hd
                  clear hd
                  have HF : Hid (findNext W a (leftOf W a) x ((j + 1 : Nat) : Int) = some q) := by
                    have h1 := HIJ.out
                    have h2 := HQ.out
                    refine findNext_some (by omega) hlt ?_ (fun r h3 h4 => HNO.out r h3 (by omega))
                    rw [HH.out, HGQ.out, HD2.out, hj0]
                    simp
                  repeat still_step
                  refine wpStill_nil ?_
                  go_wp2_with (at_builtin; refine append_int _ rfl _ _ rfl w0.heap.size (.slice (some ⟨gg, 0, none⟩) len c) l rfl ((HO.out.kept HKI.out).kept ((Kept.refl _).drew.alloc _)) wr.drew.heap.size 1 q rfl (by simp [go_sem]) (by have := HLEN.out; omega) (Nat.le_trans HSZR.out (Nat.le_trans HKI.out.size (by simp))) ?_; intro g' c' w2 hown2 hg2; have HOWN2 := Lib.hid hown2; have HG2 := Lib.hid hg2; clear hown2 hg2)
                  go_roundg j
                  case measure => omega
                  case rel =>
                    have hown := OwnI.kept (HO.out.kept HKI.out) ((Kept.refl _).drew.alloc (.cells #[.int .i64 q] 3))
                    refine ⟨l ++ [(q : Int)], by have := HLEN.out; rw [IntWalk.wrap64_in _ (by omega)], HOWN2.out, by simp, fun y hy => ?_, ?_, ?_, ?_, ?_, ?_⟩
                    · rcases List.mem_append.1 hy with h | h
                      · exact HIN.out y h
                      · simp at h; omega
                    · have := HLEN.out
                      simp only [List.length_append, List.length_cons, List.length_nil]; omega
                    · exact (((HK.out.trans HKI.out).drew).alloc _).grown HG2.out (fun r e => Nat.le_trans (Nat.le_of_lt (Nat.lt_of_le_of_lt HG.out.1 HG.out.2)) (hown.lt r e).1)
                    · exact Nat.le_trans HSZR.out (Nat.le_trans HKI.out.size (Nat.le_trans (by simp) HG2.out.size))
                    · refine ((HA.out.kept HKI.out).kept ((Kept.refl _).drew.alloc _)).grownNe HG2.out (fun e => ?_)
                      have := (hown.lt g e.symm).1
                      have := HG.out
                      omega
                    · have e := HPATH.out
                      rw [show pathL W a (leftOf W a) l (j + 1) = pathL W a (leftOf W a) (pathStep W a (leftOf W a) l ((j + 1 : Nat) : Int)) j from rfl, pathStep, HX.out, Int.toNat_natCast, HF.out] at e
                      exact e
                · have hb3 : (dq == (j : Int) + 1) = false := by simp [hd]
                  have HN2 : Hid ((hasS (W.to x) q && (leftOf W a).getD q 0 == ((j + 1 : Nat) : Int)) = false) := by
                    show _ = false
                    rw [HH.out, HGQ.out, hj0, hb3]; rfl
                  clear hd
                  repeat still_step
                  refine wpStill_nil ?_
                  go_wp2
                  go_roundg (gk - 1)
                  case measure => have := HIJ.out; have := HQ.out; omega
                  case rel =>
                    have h1 := HIJ.out
                    have h2 := HQ.out
                    refine ⟨i + 1, rfl, by omega, by rw [← h2]; go_num, HKI.out.drew, fun r h3 h4 => ?_⟩
                    by_cases e : r = q
                    · rw [e]; exact HN2.out
                    · exact HNO.out r h3 (by omega)
            · have HF : Hid (findNext W a (leftOf W a) x ((j + 1 : Nat) : Int) = none) := by
                have h1 := HIJ.out
                have h2 := HQ.out
                exact findNext_none (fun r h3 h4 => HNO.out r h3 (by omega))
              clear hij hki hno hq
              go_wp2
              go_roundg j
              case measure => omega
              case rel =>
                refine ⟨l, by have := HLEN.out; rw [IntWalk.wrap64_in _ (by omega)], HLK.out ▸ HO.out.kept HKI.out, HNE.out, HIN.out, by have := HLEN.out; omega, HK.out.trans HKI.out, Nat.le_trans HSZR.out HKI.out.size, HA.out.kept HKI.out, ?_⟩
                have e := HPATH.out
                rw [show pathL W a (leftOf W a) l (j + 1) = pathL W a (leftOf W a) (pathStep W a (leftOf W a) l ((j + 1 : Nat) : Int)) j from rfl, pathStep, HX.out, Int.toNat_natCast, HF.out] at e
                exact e

end Go.Proofs.Yteljjkghjbofnaa
