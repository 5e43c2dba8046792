/- ref.Chained, ref.Standing, ref.circular. -/
import Derived.Test.YteljjkghjbofnaaYb
set_option maxRecDepth 100000
namespace Go.Proofs.Yteljjkghjbofnaa
open Go Go.Proofs Go.RowKit
attribute [local go_sem] Oper.semAt_some

/-! ### A table in memory -/

/-- Block t holds n slices, row a in block g a, of n truths each: M a b. -/
structure Mat (w : World) (base t : Nat) (g : Nat → Nat) (n : Nat) (M : Mx) : Prop where
  tb : base ≤ t
  tl : t < w.heap.size
  row : ∀ a, a < n → w.cell? ⟨t, a, none⟩ = some (.slice (some ⟨g a, 0, none⟩) n n)
  gb : ∀ a, a < n → base ≤ g a ∧ g a ≠ t
  inj : ∀ a b, a < n → b < n → g a = g b → a = b
  val : ∀ a b, a < n → b < n → w.cell? ⟨g a, b, none⟩ = some (.bool (M a b))
  free : ∀ a, a < n → ∀ o, w.frozen? ⟨g a, o, none⟩ = false
theorem Mat.kept {w w' : World} {base t : Nat} {g : Nat → Nat} {n : Nat} {M : Mx} (h : Mat w base t g n M) (hk : Kept w w') : Mat w' base t g n M :=
  ⟨h.tb, Nat.lt_of_lt_of_le h.tl hk.size, fun a ha => hk.cell (h.row a ha), h.gb, h.inj, fun a b ha hb => hk.cell (h.val a b ha hb),
   fun a ha o => (hk.cells.2 (g a) o (lt_of_cell (h.val a 0 ha (by omega)))).trans (h.free a ha o)⟩
theorem Mat.base' {w : World} {base base' t : Nat} {g : Nat → Nat} {n : Nat} {M : Mx} (h : Mat w base t g n M) (hb : base' ≤ base) : Mat w base' t g n M :=
  ⟨Nat.le_trans hb h.tb, h.tl, h.row, fun a ha => ⟨Nat.le_trans hb (h.gb a ha).1, (h.gb a ha).2⟩, h.inj, h.val, h.free⟩
theorem Mat.congr {w : World} {base t : Nat} {g : Nat → Nat} {n : Nat} {M M' : Mx} (h : Mat w base t g n M) (he : EqM n M M') : Mat w base t g n M' :=
  ⟨h.tb, h.tl, h.row, h.gb, h.inj, fun a b ha hb => by rw [← he a b ha hb]; exact h.val a b ha hb, h.free⟩
theorem Mat.set {w : World} {base t : Nat} {g : Nat → Nat} {n : Nat} {M : Mx} (h : Mat w base t g n M) {a b : Nat} (ha : a < n) (v : Bool) :
    Mat (w.setCell ⟨g a, b, none⟩ (.bool v)) base t g n (setM M a b v) :=
  ⟨h.tb, by simpa [World.setCell] using h.tl, fun x hx => cell_set_block (h.row x hx) (Ne.symm (h.gb a ha).2), h.gb, h.inj, fun x y hx hy => by
    unfold setM
    by_cases e : x = a
    · subst e
      rw [cell_set_or (h.val x y hx hy)]
      by_cases e2 : y = b
      · simp [e2]
      · simp [e2]
    · rw [if_neg (fun h => e h.1)]
      exact cell_set_block (h.val x y hx hy) (fun e2 => e (h.inj x a hx ha e2)), fun x hx o => by rw [World.frozen?_setCell]; exact h.free x hx o⟩

theorem info4 : (Try.prog.info? 4).map (fun i => (i.zero, i.size, i.bytes)) = some (some (.bool false), 1, 1) := by kernel_rfl
theorem info104 : (Try.prog.info? 104).map (fun i => (i.zero, i.size, i.bytes)) = some (some (.slice none 0 0), 1, 24) := by kernel_rfl
/-- make of n elements of one cell. -/
theorem make_one {ops : Array Oper} {rest : List Oper} {o : Oper} {a : Act} {Q : Exit → Act → World → Prop} (w : World)
    (hg : o.guard = none) (l c : Operand) (t e : TypeId) (z : Value) (bytes : Nat) (hop : o.op = Op.makeSlice t l c) (ht : Try.prog.underlying t = some (.slice e)) (hinfo : (Try.prog.info? e).map (fun i => (i.zero, i.size, i.bytes)) = some (some z, 1, bytes)) (hz : z.cells = #[z]) (hbytes : bytes ≤ 64)
    (n : Nat) (hl : a.eval l = .int .i64 n) (hc : a.eval c = .int .i64 n) (hn : n < 1099511627776)
    (hK : ∀ w', w.heap.size < w'.heap.size → (∀ i, i < n → w'.cell? ⟨w.heap.size, i, none⟩ = some z) → (∀ o, w'.frozen? ⟨w.heap.size, o, none⟩ = false) → Kept w w' → wpList Try.prog ops Q rest (a.put o.dst (.slice (some ⟨w.heap.size, 0, none⟩) n n)) w') :
    wpList Try.prog ops Q (o :: rest) a w := by
  obtain ⟨i0, hi, hz0, hz1, hz2⟩ := info_parts hinfo
  refine wpList_make_full w hg l c t hop w.heap.size e i0 z 1 ht hi hz0 hz1 .i64 .i64 n n n hl hc rfl rfl (by rw [hz2]; have : n * bytes ≤ n * 64 := Nat.mul_le_mul_left _ hbytes; have e := Nat.mul_comm n bytes; omega) (by unfold maxLen; omega) (Nat.le_refl _) ?_
  intro w' hown hgrow
  rcases hown.2 with ⟨h, _⟩ | ⟨g, cap, cur, hv, hbg, hgg, hnc, hcm, hcs, htake⟩
  · cases h
  · simp only [Value.slice.injEq, Option.some.injEq, Addr.mk.injEq] at hv
    obtain ⟨⟨rfl, -, -⟩, -, rfl⟩ := hv
    refine hK w' (Array.getElem?_eq_some_iff.1 hgg).1 (fun i h => ?_) (fun o => frozen_of_row _ _ _ _ _ hgg) (kept_of_grown hgrow)
    rw [cell_of_row _ _ _ _ _ _ hgg]
    have : cur.toList[i]? = some z := by
      have hlt : i < n * 1 := by simpa using h
      have e : (cur.toList.take (n * 1))[i]? = cur.toList[i]? := by rw [List.getElem?_take, if_pos hlt]
      rw [← e, htake]
      simp [madeCells]
      exact ⟨i, List.getElem?_range (by simpa using h), by simp [hz, Nat.mod_one]⟩
    simpa using this

/-- The rows from 0 to k - 1 are made, all false. -/
structure MatR (w : World) (base t : Nat) (g : Nat → Nat) (n k : Nat) : Prop where
  tb : base ≤ t
  tl : t < w.heap.size
  ex : ∀ a, a < n → ∃ v, w.cell? ⟨t, a, none⟩ = some v
  row : ∀ a, a < k → w.cell? ⟨t, a, none⟩ = some (.slice (some ⟨g a, 0, none⟩) n n)
  gb : ∀ a, a < k → base ≤ g a ∧ g a ≠ t ∧ g a < w.heap.size
  inj : ∀ a b, a < k → b < k → g a = g b → a = b
  val : ∀ a b, a < k → b < n → w.cell? ⟨g a, b, none⟩ = some (.bool false)
  free : ∀ a, a < k → ∀ o, w.frozen? ⟨g a, o, none⟩ = false
  tf : ∀ o, w.frozen? ⟨t, o, none⟩ = false
theorem MatR.step {w w' : World} {base t : Nat} {g : Nat → Nat} {n k : Nat} (h : MatR w base t g n k) (hk : Kept w w') (hlt : k < n) (hs : w.heap.size < w'.heap.size)
    (hc : ∀ i, i < n → w'.cell? ⟨w.heap.size, i, none⟩ = some (.bool false)) (hf : ∀ o, w'.frozen? ⟨w.heap.size, o, none⟩ = false) :
    MatR (w'.setCell ⟨t, k, none⟩ (.slice (some ⟨w.heap.size, 0, none⟩) n n)) base t (fun a => if a = k then w.heap.size else g a) n (k + 1) := by
  have hG : w.heap.size ≠ t := by have := h.tl; omega
  have hss : (w'.setCell ⟨t, k, none⟩ (.slice (some ⟨w.heap.size, 0, none⟩) n n)).heap.size = w'.heap.size := by simp [World.setCell]
  refine ⟨h.tb, by rw [hss]; exact Nat.lt_of_lt_of_le h.tl hk.size, fun a ha => ?_, fun a ha => ?_, fun a ha => ?_, fun a b ha hb => ?_, fun a b ha hb => ?_, fun a ha o => ?_, fun o => ?_⟩
  · obtain ⟨v, hv⟩ := h.ex a ha
    exact ⟨_, cell_set_or (hk.cell hv)⟩
  · by_cases e : a = k
    · subst e
      obtain ⟨v, hv⟩ := h.ex a hlt
      rw [if_pos rfl]
      exact cell_set_same (hk.cell hv)
    · rw [if_neg e]
      exact cell_set_off (hk.cell (h.row a (by omega))) e
  · by_cases e : a = k
    · simp only [if_pos e]
      exact ⟨Nat.le_trans h.tb (Nat.le_of_lt h.tl), hG, by rw [hss]; exact hs⟩
    · simp only [if_neg e]
      have := h.gb a (by omega)
      exact ⟨this.1, this.2.1, by rw [hss]; omega⟩
  · have key : ∀ x, x < k + 1 → x ≠ k → g x < w.heap.size := fun x hx e => (h.gb x (by omega)).2.2
    by_cases e1 : a = k <;> by_cases e2 : b = k
    · intro _; omega
    · have := key b hb e2
      simp only [if_pos e1, if_neg e2]; intro h; omega
    · have := key a ha e1
      simp only [if_neg e1, if_pos e2]; intro h; omega
    · simp only [if_neg e1, if_neg e2]
      exact h.inj a b (by omega) (by omega)
  · by_cases e : a = k
    · simp only [if_pos e]
      exact cell_set_block (hc b hb) hG
    · simp only [if_neg e]
      exact cell_set_block (hk.cell (h.val a b (by omega) hb)) (h.gb a (by omega)).2.1
  · rw [World.frozen?_setCell]
    by_cases e : a = k
    · simp only [if_pos e]; exact hf o
    · simp only [if_neg e]
      exact (hk.cells.2 (g a) o (h.gb a (by omega)).2.2).trans (h.free a (by omega) o)
  · rw [World.frozen?_setCell]
    exact (hk.cells.2 t o h.tl).trans (h.tf o)
theorem MatR.zero {w w' : World} {base n : Nat} (hb : base ≤ w.heap.size) (hs : w.heap.size < w'.heap.size) (hc : ∀ i, i < n → w'.cell? ⟨w.heap.size, i, none⟩ = some (.slice none 0 0)) (hf : ∀ o, w'.frozen? ⟨w.heap.size, o, none⟩ = false) : MatR w' base w.heap.size (fun _ => 0) n 0 :=
  ⟨hb, hs, fun a ha => ⟨_, hc a ha⟩, fun a h => by omega, fun a h => by omega, fun a b h => by omega, fun a b h => by omega, fun a h => by omega, hf⟩
theorem MatR.done {w : World} {base t : Nat} {g : Nat → Nat} {n : Nat} (h : MatR w base t g n n) : Mat w base t g n (arcsM []) :=
  ⟨h.tb, h.tl, h.row, fun a ha => ⟨(h.gb a ha).1, (h.gb a ha).2.1⟩, h.inj, h.val, h.free⟩
theorem pair_nat {o : Prob} {n : Nat} (hN : (n : Int) = o.N) (h : ∀ x ∈ o.arcs, 0 ≤ x.1 ∧ x.1 < o.N ∧ 0 ≤ x.2 ∧ x.2 < o.N ∧ x.1 ≠ x.2) {k : Nat} (hk : k < o.arcs.length) : ∃ a b : Nat, o.arcs[k] = ((a : Int), (b : Int)) ∧ a < n ∧ b < n := by
  have := h _ (List.getElem_mem hk)
  exact ⟨(o.arcs[k]).1.toNat, (o.arcs[k]).2.toNat, Prod.ext (by simp; omega) (by simp; omega), by omega, by omega⟩

def ChainedPost (n : Nat) (M : Mx) (w : World) (e : Ending) (w' : World) : Prop := ∃ t g, e = .returned (.slice (some ⟨t, 0, none⟩) n n) ∧ Mat w' w.heap.size t g n M ∧ Kept w w'

set_option maxHeartbeats 1600000 in
theorem Chained_any (o : Prob) (ao bo : Option Addr) (ca cb : Nat) (w : World) (ho : IsProb w o ao bo) (hc : chk o = 0) :
    Calls Try.prog 84 #[probV o ao ca bo cb] w (ChainedPost (webOf o).n (chM (arcsM o.arcs) (webOf o).n) w) := by
  have HO := Lib.hid ho
  have hn := webOf_nI hc
  have h24 := webOf_n hc
  have hpa := (pair_of_chk hc).2.2.1
  have HPA := Lib.hid hpa
  obtain ⟨n, hnn⟩ : ∃ n, (webOf o).n = n := ⟨_, rfl⟩
  rw [hnn] at hn h24 ⊢
  have HN := Lib.hid hn
  have HWN := Lib.hid hnn
  clear ho hc hpa hnn hn
  go_enter Try.func84, Try.ntmps84
  go_wp2_with (at_make; obtain ⟨w0, e0, hk0, hb0, -⟩ := alloc_prob w o.N o.arcs o.near ao ca bo cb; rw [e0]; clear e0; have HK0 := Lib.hid hk0; have HB0 := Lib.hid hb0; clear hk0 hb0; refine make_one w0 rfl _ _ 102 104 _ 24 rfl Try.underlying102 info104 rfl (by decide) n (by rw [HN.out]; rfl) (by rw [HN.out]; rfl) (by omega) ?_; intro w1 hs1 hc1 hf1 hk1)
  have hn0 := HN.out
  have HM0 : Hid (MatR w1 (w.heap.size + 1) w0.heap.size (fun _ => 0) n 0) := Lib.hid (MatR.zero (lt_of_cell HB0.out.c0) hs1 hc1 hf1)
  have HK1 := Lib.hid (HK0.out.trans hk1)
  have HB1 := Lib.hid (HB0.out.kept hk1)
  have hbt : Hid (w.heap.size < w0.heap.size) := Lib.hid (lt_of_cell HB0.out.c0)
  generalize htt : w0.heap.size = t at *
  clear hs1 hc1 hf1 hk1 htt HB0 HK0
  generalize hbx : w.heap.size = bx at *
  have HBX := Lib.hid hbx
  clear hbx
  go_loopw [4] (fun i wr => ∃ (k : Nat) (g : Nat → Nat), k ≤ n ∧ i = .int .i64 k ∧ MatR wr (bx + 1) t g n k ∧ ProbBox wr bx o ao ca bo cb ∧ Kept w wr) (fun i _ => n - (intOf i).toNat)
  case atStart => exact ⟨0, _, Nat.zero_le _, rfl, HM0.out, HB1.out, HK1.out⟩
  case round =>
    obtain ⟨k, g, hk, rfl, hm, hb, hkw⟩ := hrel
    have HM := Lib.hid hm
    have HB := Lib.hid hb
    have HKW := Lib.hid hkw
    obtain ⟨q0, q1, q2⟩ := hb
    rw [← HN.out] at q0
    have qb := lt_of_cell q0
    clear hm hkw hn0
    by_cases hlt : k < n
    · obtain ⟨v, hv⟩ := HM.out.ex k hlt
      have qt := lt_of_cell hv
      have hft := HM.out.tf k
      go_wp2_with (at_make; refine make_one wr rfl _ _ 104 4 _ 1 rfl Try.underlying104 info4 rfl (by decide) n rfl rfl (by omega) ?_; intro w2 hs2 hc2 hf2 hk2; have HM2 := Lib.hid (HM.out.step hk2 hlt hs2 hc2 hf2); have HK2 := Lib.hid ((HKW.out.trans hk2).setCell (p := ⟨t, k, none⟩) (by have := HM.out.tb; rw [HBX.out]; exact Nat.le_of_succ_le this) (.slice (some ⟨wr.heap.size, 0, none⟩) n n)); have HB2 := Lib.hid ((HB.out.kept hk2).setOther (b' := t) (o' := k) (u := .slice (some ⟨wr.heap.size, 0, none⟩) n n) (by have := hbt.out; omega)); have hv2 := hk2.cell hv; have hft2 := (hk2.cells.2 t k qt).trans hft; clear hk2 hs2 hc2 hf2 hv hft)
      go_roundw
      case measure => simp [intOf]; omega
      case rel => exact ⟨k + 1, _, by omega, by go_num, HM2.out, HB2.out, HK2.out⟩
    · obtain rfl : n = k := by omega
      clear hlt hk
      have HMM := Lib.hid HM.out.done
      clear HM
      go_wp2
      clear q0 q1 q2 qb
      go_loopw [5] (fun i wr => ∃ k : Nat, k ≤ o.arcs.length ∧ i = .int .i64 k ∧ Mat wr (bx + 1) t g n (arcsM (o.arcs.take k)) ∧ ProbBox wr bx o ao ca bo cb ∧ Kept w wr) (fun i _ => o.arcs.length - (intOf i).toNat)
      case atStart => exact ⟨0, Nat.zero_le _, rfl, by rw [List.take_zero]; exact HMM.out, HB.out, HKW.out⟩
      case round =>
        clear HMM HB HKW
        obtain ⟨k, hk, rfl, hm, hb, hkw⟩ := hrel
        have HM := Lib.hid hm
        have HB := Lib.hid hb
        have HKW := Lib.hid hkw
        have hal := HO.out.la
        obtain ⟨q0, q1, q2⟩ := hb
        rw [← HN.out] at q0
        have qb := lt_of_cell q0
        clear hm hkw
        by_cases hlt : k < o.arcs.length
        · obtain ⟨a, b, hab, ha, hbn⟩ := pair_nat HN.out HPA.out hlt
          obtain ⟨B, off, rfl, hc, hd⟩ := (HO.out.kept HKW.out).arcs k hlt
          rw [hab] at hc hd
          have HS := Lib.hid (arcsM_snoc o.arcs k a b hlt hab)
          have r0 := HM.out.row a ha
          have r1 := HM.out.val a b ha hbn
          have rf := HM.out.free a ha b
          have HAN := Lib.hid ha
          clear hab
          go_wp2
          refine region_tail 16 (by kernel_rfl) (by kernel_rfl) ?_
          simp only [List.take_succ_cons, List.take_zero, List.drop_succ_cons, List.drop_zero]
          iterate 16
            with_reducible refine wpStill_want ?_ (fun K hK => ?_)
            · rfl
            go_simp
            refine hK _ ?_
            clear hK K
          with_reducible refine wpStill_nil ?_
          go_wp2
          go_roundw
          case measure => simp [intOf]; omega
          case rel => exact ⟨k + 1, by omega, by go_num, by rw [← HS.out]; exact (HM.out.kept (Kept.refl _).drew).set HAN.out true, (HB.out.kept (Kept.refl _).drew).setOther (by have := (HM.out.gb a HAN.out).1; omega), (HKW.out.drew).setCell (p := ⟨g a, b, none⟩) (by have := (HM.out.gb a HAN.out).1; rw [HBX.out]; exact Nat.le_of_succ_le this) _⟩
        · obtain rfl : k = o.arcs.length := by omega
          have HMM : Hid (Mat wr (bx + 1) t g n (chM (arcsM o.arcs) 0)) := Lib.hid (by have := HM.out; rw [List.take_length] at this; exact this)
          clear hlt hk HM
          go_wp2
          clear q0 q1 q2 qb
          go_loopw [6] (fun i wr => ∃ k : Nat, k ≤ n ∧ i = .int .i64 k ∧ Mat wr (bx + 1) t g n (chM (arcsM o.arcs) k) ∧ ProbBox wr bx o ao ca bo cb ∧ Kept w wr) (fun i _ => n - (intOf i).toNat)
          case atStart => exact ⟨0, Nat.zero_le _, rfl, HMM.out, HB.out, HKW.out⟩
          case round =>
            clear HMM HB HKW
            obtain ⟨k, hk, rfl, hm, hb, hkw⟩ := hrel
            have HM := Lib.hid hm
            have HB := Lib.hid hb
            have HKW := Lib.hid hkw
            obtain ⟨q0, q1, q2⟩ := hb
            rw [← HN.out] at q0
            have qb := lt_of_cell q0
            clear hm hkw q1 q2
            by_cases hlt : k < n
            · have HS := Lib.hid (chM_succ (arcsM o.arcs) k)
              generalize chM (arcsM o.arcs) k = M at *
              go_wp2
              clear q0 qb
              go_loopw [7] (fun i wr => ∃ a : Nat, a ≤ n ∧ i = .int .i64 a ∧ Mat wr (bx + 1) t g n (rowsM k M a) ∧ ProbBox wr bx o ao ca bo cb ∧ Kept w wr) (fun i _ => n - (intOf i).toNat)
              case atStart => exact ⟨0, Nat.zero_le _, rfl, by rw [rowsM_zero]; exact HM.out, HB.out, HKW.out⟩
              case round =>
                clear HM HB HKW
                obtain ⟨a, ha, rfl, hm, hb, hkw⟩ := hrel
                have HM := Lib.hid hm
                have HB := Lib.hid hb
                have HKW := Lib.hid hkw
                obtain ⟨q0, q1, q2⟩ := hb
                rw [← HN.out] at q0
                have qb := lt_of_cell q0
                clear hm hkw q1 q2
                by_cases halt : a < n
                · go_wp2
                  clear q0 qb
                  go_loopw [8] (fun i wr => ∃ b : Nat, b ≤ n ∧ i = .int .i64 b ∧ Mat wr (bx + 1) t g n (colsM k M a b) ∧ ProbBox wr bx o ao ca bo cb ∧ Kept w wr) (fun i _ => n - (intOf i).toNat)
                  case atStart => exact ⟨0, Nat.zero_le _, rfl, by rw [colsM_zero]; exact HM.out, HB.out, HKW.out⟩
                  case round =>
                    clear HM HB HKW
                    obtain ⟨b, hbn, rfl, hm, hb, hkw⟩ := hrel
                    have HM := Lib.hid hm
                    have HB := Lib.hid hb
                    have HKW := Lib.hid hkw
                    obtain ⟨q0, q1, q2⟩ := hb
                    rw [← HN.out] at q0
                    have qb := lt_of_cell q0
                    clear hm hkw q1 q2
                    by_cases hblt : b < n
                    · have r0 := HM.out.row a halt
                      have r1 := HM.out.row k hlt
                      have v1 := HM.out.val a b halt hblt
                      have v2 := HM.out.val a k halt hlt
                      have v3 := HM.out.val k b hlt hblt
                      rw [colsM_at] at v1
                      rw [colsM_col] at v2
                      rw [colsM_row] at v3
                      have rf := HM.out.free a halt b
                      have HSC := Lib.hid (colsM_succ k M a b)
                      have HAN := Lib.hid halt
                      generalize M a b = x1 at *
                      generalize M a k = x2 at *
                      generalize M k b = x3 at *
                      go_wp2
                      refine region_tail 31 (by kernel_rfl) (by kernel_rfl) ?_
                      simp only [List.take_succ_cons, List.take_zero, List.drop_succ_cons, List.drop_zero]
                      cases x1
                      · cases x2
                        · simp only [Bool.false_or, Bool.false_and] at HSC
                          iterate 21
                            with_reducible refine wpStill_want ?_ (fun K hK => ?_)
                            · rfl
                            go_simp
                            refine hK _ ?_
                            clear hK K
                          iterate 7
                            with_reducible refine wpStill_skip ?_ ?_
                            · rfl
                            simp only [Act.put, List.setIfInBounds_toArray, List.set_cons_zero, List.set_cons_succ]
                          iterate 3
                            with_reducible refine wpStill_want ?_ (fun K hK => ?_)
                            · rfl
                            go_simp
                            refine hK _ ?_
                            clear hK K
                          with_reducible refine wpStill_nil ?_
                          go_wp2
                          go_roundw
                          case measure => simp [intOf]; omega
                          case rel => exact ⟨b + 1, by omega, by go_num, by rw [← HSC.out]; exact (HM.out.kept (Kept.refl _).drew).set HAN.out _, (HB.out.kept (Kept.refl _).drew).setOther (by have := (HM.out.gb a HAN.out).1; omega), (HKW.out.drew).setCell (p := ⟨g a, b, none⟩) (by have := (HM.out.gb a HAN.out).1; rw [HBX.out]; exact Nat.le_of_succ_le this) _⟩
                        · simp only [Bool.false_or, Bool.true_and] at HSC
                          iterate 31
                            with_reducible refine wpStill_want ?_ (fun K hK => ?_)
                            · rfl
                            go_simp
                            refine hK _ ?_
                            clear hK K
                          with_reducible refine wpStill_nil ?_
                          go_wp2
                          go_roundw
                          case measure => simp [intOf]; omega
                          case rel => exact ⟨b + 1, by omega, by go_num, by rw [← HSC.out]; exact (HM.out.kept (Kept.refl _).drew).set HAN.out _, (HB.out.kept (Kept.refl _).drew).setOther (by have := (HM.out.gb a HAN.out).1; omega), (HKW.out.drew).setCell (p := ⟨g a, b, none⟩) (by have := (HM.out.gb a HAN.out).1; rw [HBX.out]; exact Nat.le_of_succ_le this) _⟩
                      · simp only [Bool.true_or] at HSC
                        iterate 13
                          with_reducible refine wpStill_want ?_ (fun K hK => ?_)
                          · rfl
                          go_simp
                          refine hK _ ?_
                          clear hK K
                        iterate 16
                          with_reducible refine wpStill_skip ?_ ?_
                          · rfl
                          simp only [Act.put, List.setIfInBounds_toArray, List.set_cons_zero, List.set_cons_succ]
                        iterate 2
                          with_reducible refine wpStill_want ?_ (fun K hK => ?_)
                          · rfl
                          go_simp
                          refine hK _ ?_
                          clear hK K
                        with_reducible refine wpStill_nil ?_
                        go_wp2
                        go_roundw
                        case measure => simp [intOf]; omega
                        case rel => exact ⟨b + 1, by omega, by go_num, by rw [← HSC.out]; exact (HM.out.kept (Kept.refl _).drew).set HAN.out _, (HB.out.kept (Kept.refl _).drew).setOther (by have := (HM.out.gb a HAN.out).1; omega), (HKW.out.drew).setCell (p := ⟨g a, b, none⟩) (by have := (HM.out.gb a HAN.out).1; rw [HBX.out]; exact Nat.le_of_succ_le this) _⟩
                    · obtain rfl : b = n := by omega
                      clear hblt hbn
                      have HMM : Hid (Mat wr (bx + 1) t g b (rowsM k M (a + 1))) := Lib.hid (HM.out.congr (colsM_end k M a b))
                      clear HM
                      go_wp2
                      clear q0 qb
                      go_roundw
                      case measure => simp [intOf]; omega
                      case rel => exact ⟨a + 1, by omega, by go_num, HMM.out, HB.out, HKW.out⟩
                · obtain rfl : a = n := by omega
                  clear halt ha
                  have HMM : Hid (Mat wr (bx + 1) t g a (mulM k M)) := Lib.hid (HM.out.congr (rowsM_end k M a))
                  clear HM
                  go_wp2
                  clear q0 qb
                  go_roundw
                  case measure => simp [intOf]; omega
                  case rel => exact ⟨k + 1, by omega, by go_num, by rw [HS.out]; exact HMM.out, HB.out, HKW.out⟩
            · obtain rfl : k = n := by omega
              clear hlt hk
              go_wp2
              clear q0 qb
              go_ret
              exact ⟨t, g, rfl, HM.out.base' (by rw [HBX.out]; exact Nat.le_succ _), HKW.out⟩
end Go.Proofs.Yteljjkghjbofnaa
