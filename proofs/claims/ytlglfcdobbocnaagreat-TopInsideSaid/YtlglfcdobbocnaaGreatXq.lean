/- with; At, On, Walk and Area2 of a map that opens. -/
import Derived.Test.YtlglfcdobbocnaaGreatXp
set_option maxRecDepth 100000
namespace Go.Proofs.YtlglfcdobbocnaaGreat
open Go Go.Proofs Go.RowKit
attribute [local go_sem] Oper.semAt_some
/-- The map opens: a web is made, of which R holds. -/
def Opens (M : Value) (R : Nat → World → Prop) (w : World) : Prop := ∀ W, Kept w W → Calls Tryz.prog 61 #[M] W (fun e w' => ∃ g, e = .returned (.tuple #[.pointer (some ⟨g, 0, none⟩), .int .i64 0]) ∧ Kept W w' ∧ R g w')
set_option maxHeartbeats 1000000 in
theorem withI_any (ap : Option Addr) (np cp : Nat) (ae : Option Addr) (ne ce : Nat) (mf : Int) (R : Nat → World → Prop) (cb : Nat) (caps : Array Value) (x y : Int) (w : World) (hO : Opens (mapV ap np cp ae ne ce mf) R w)
    (hf : ∀ g W, Kept w W → R g W → Calls Tryz.prog cb (#[.pointer (some ⟨g, 0, none⟩)] ++ caps) W (Gives (.tuple #[.int .i64 x, .int .i64 y]) W)) (hcb : ∀ args W, (callFunc cb args).run Tryz.prog W = .ok (.enter cb args) W) (hxy : y ≠ 0 → x = 0) :
    Calls Tryz.prog 21 #[mapV ap np cp ae ne ce mf, .func (.func cb) #[] caps] w (Gives (.tuple #[.int .i64 x, .int .i64 y]) w) := by
  have HF := Lib.hid hf
  have HO := Lib.hid hO
  have HXY := Lib.hid hxy
  clear hf hO hxy
  obtain ⟨w0, hw0⟩ : ∃ w0, w.alloc (.cells #[.slice ap np cp, .slice ae ne ce, .int .i64 mf] 29) = w0 := ⟨_, rfl⟩
  obtain ⟨b, hb⟩ : ∃ b, w.heap.size = b := ⟨_, rfl⟩
  have m0 : w0.cell? ⟨b, 0, none⟩ = some (.slice ap np cp) := by rw [← hw0, ← hb]; simp [go_sem]
  have m1 : w0.cell? ⟨b, 1, none⟩ = some (.slice ae ne ce) := by rw [← hw0, ← hb]; simp [go_sem]
  have m2 : w0.cell? ⟨b, 2, none⟩ = some (.int .i64 mf) := by rw [← hw0, ← hb]; simp [go_sem]
  have hl := lt_of_cell m0
  have HK0 : Hid (Kept w w0) := Lib.hid (by rw [← hw0]; exact (Kept.refl w).alloc _)
  go_enter Tryz.func21, Tryz.ntmps21
  go_wp2_with fail
  refine (HO.out w0 HK0.out).mono ?_
  rintro e w1 ⟨g, rfl, hk1, hR⟩
  have HK1 := Lib.hid (HK0.out.trans hk1)
  have HR := Lib.hid hR
  clear hk1 hR hw0 HO
  go_wp2_with fail
  refine (HF.out g w1 HK1.out HR.out).mono ?_
  rintro e w2 ⟨rfl, hk2⟩
  have HK2 := Lib.hid (HK1.out.trans hk2)
  clear hk2
  by_cases hy : y = 0
  · subst hy
    go_wp2
    refine bodyPost_ret (results_tmp2 rfl _ _ _) rfl ?_
    exact ⟨rfl, HK2.out⟩
  · have hx := HXY.out hy
    have HX := Lib.hid hx
    have t1 : (y != 0) = true := by simpa using hy
    go_wp2
    refine bodyPost_ret (results_tmp2 rfl _ _ _) rfl ?_
    exact ⟨by rw [HX.out]; rfl, HK2.out⟩
set_option maxHeartbeats 1000000 in
theorem withL_any (ap : Option Addr) (np cp : Nat) (ae : Option Addr) (ne ce : Nat) (mf : Int) (R : Nat → World → Prop) (cb : Nat) (caps : Array Value) (x : List Int) (y : Int) (w : World) (hO : Opens (mapV ap np cp ae ne ce mf) R w)
    (hf : ∀ g W, Kept w W → R g W → Calls Tryz.prog cb (#[.pointer (some ⟨g, 0, none⟩)] ++ caps) W (MakesE x y W)) (hcb : ∀ args W, (callFunc cb args).run Tryz.prog W = .ok (.enter cb args) W) (hxy : y ≠ 0 → x = []) :
    Calls Tryz.prog 27 #[mapV ap np cp ae ne ce mf, .func (.func cb) #[] caps] w (MakesE x y w) := by
  have HF := Lib.hid hf
  have HO := Lib.hid hO
  have HXY := Lib.hid hxy
  clear hf hO hxy
  obtain ⟨w0, hw0⟩ : ∃ w0, w.alloc (.cells #[.slice ap np cp, .slice ae ne ce, .int .i64 mf] 29) = w0 := ⟨_, rfl⟩
  obtain ⟨b, hb⟩ : ∃ b, w.heap.size = b := ⟨_, rfl⟩
  have m0 : w0.cell? ⟨b, 0, none⟩ = some (.slice ap np cp) := by rw [← hw0, ← hb]; simp [go_sem]
  have m1 : w0.cell? ⟨b, 1, none⟩ = some (.slice ae ne ce) := by rw [← hw0, ← hb]; simp [go_sem]
  have m2 : w0.cell? ⟨b, 2, none⟩ = some (.int .i64 mf) := by rw [← hw0, ← hb]; simp [go_sem]
  have hl := lt_of_cell m0
  have HK0 : Hid (Kept w w0) := Lib.hid (by rw [← hw0]; exact (Kept.refl w).alloc _)
  go_enter Tryz.func27, Tryz.ntmps27
  go_wp2_with fail
  refine (HO.out w0 HK0.out).mono ?_
  rintro e w1 ⟨g, rfl, hk1, hR⟩
  have HK1 := Lib.hid (HK0.out.trans hk1)
  have HR := Lib.hid hR
  clear hk1 hR hw0 HO
  go_wp2_with fail
  refine (HF.out g w1 HK1.out HR.out).mono ?_
  rintro e w2 ⟨v, rfl, hov, hk2⟩
  have HK2 := Lib.hid (HK1.out.trans hk2)
  have HOV := Lib.hid (OwnG.base' hov HK1.out.size)
  clear hk2 hov
  by_cases hy : y = 0
  · subst hy
    go_wp2
    refine bodyPost_ret (results_tmp2 rfl _ _ _) rfl ?_
    exact ⟨_, rfl, HOV.out, HK2.out⟩
  · have HX := Lib.hid (HXY.out hy)
    have t1 : (y != 0) = true := by simpa using hy
    go_wp2
    refine bodyPost_ret (results_tmp2 rfl _ _ _) rfl ?_
    exact ⟨_, rfl, by rw [HX.out]; exact OwnG.nil _ _ _ _ _, HK2.out⟩
/-! ### The map -/
/-- A map that opens: its web is of these points and edges. -/
structure MapOk (P : List Pt) (E : List (Nat × Nat)) (Ed : List Five) (ap : Option Addr) (np cp : Nat) (ae : Option Addr) (ne ce : Nat) (mf : Int) (w : World) : Prop where
  opens : Opens (mapV ap np cp ae ne ce mf) (fun g W => WebM W g ap np cp ae ne ce mf P E Ed (numE P E (2 * E.length)).face) w
  fig : Figure ne (eS P E)
  right : RightIs Ed ne (faceE P E)
  many : mf = (numE P E (2 * E.length)).many
  faces : ∀ f : Nat, 1 ≤ f → f ≤ (numE P E (2 * E.length)).many → leastF P E f < 2 * E.length
  few : E.length ≤ 400
theorem Opens.kept {M : Value} {R : Nat → World → Prop} {w W : World} (h : Opens M R w) (hk : Kept w W) : Opens M R W := fun X hX => h X (hk.trans hX)
theorem MapOk.kept {P : List Pt} {E : List (Nat × Nat)} {Ed : List Five} {ap : Option Addr} {np cp : Nat} {ae : Option Addr} {ne ce : Nat} {mf : Int} {w W : World} (h : MapOk P E Ed ap np cp ae ne ce mf w) (hk : Kept w W) : MapOk P E Ed ap np cp ae ne ce mf W := ⟨h.opens.kept hk, h.fig, h.right, h.many, h.faces, h.few⟩
theorem MapOk.len {P : List Pt} {E : List (Nat × Nat)} {Ed : List Five} {ap : Option Addr} {np cp : Nat} {ae : Option Addr} {ne ce : Nat} {mf : Int} {w : World} (_ : MapOk P E Ed ap np cp ae ne ce mf w) : (numE P E (2 * E.length)).face.length = 2 * E.length := (numE_ok P E (2 * E.length) (Nat.le_refl _)).fl
theorem MapOk.face {P : List Pt} {E : List (Nat × Nat)} {Ed : List Five} {ap : Option Addr} {np cp : Nat} {ae : Option Addr} {ne ce : Nat} {mf : Int} {w : World} (h : MapOk P E Ed ap np cp ae ne ce mf w) {f : Nat} (h1 : 1 ≤ f) (h2 : (f : Int) ≤ mf) : FaceOk P E (numE P E (2 * E.length)).face mf f := by
  have hlt := h.faces f h1 (by have := h.many; omega)
  refine ⟨by omega, h2, ?_, hlt⟩
  have hl := h.len
  have : ((f : Nat) : Int) ∈ (numE P E (2 * E.length)).face := List.idxOf_lt_length_iff.1 (by rw [hl]; exact hlt)
  unfold idxI
  rw [if_pos this]
  rfl
theorem at_box (w : World) (p : Pt) (t : Nat) : PtBox (w.alloc (.cells #[.int .i64 p.1, .int .i64 p.2] t)) w.heap.size p := ⟨by simp [go_sem], by simp [go_sem]⟩
set_option maxHeartbeats 1000000 in
theorem At_any (P : List Pt) (E : List (Nat × Nat)) (Ed : List Five) (ap : Option Addr) (np cp : Nat) (ae : Option Addr) (ne ce : Nat) (mf : Int) (p : Pt) (w : World) (h : MapOk P E Ed ap np cp ae ne ce mf w) :
    Calls Tryz.prog 6 #[mapV ap np cp ae ne ce mf, ptV p] w (Gives (.tuple #[.int .i64 (atA ne (eS P E) (faceE P E) p).1, .int .i64 (atA ne (eS P E) (faceE P E) p).2]) w) := by
  have H := Lib.hid h
  clear h
  obtain ⟨w0, hw0⟩ : ∃ w0, w.alloc (.cells #[.slice ap np cp, .slice ae ne ce, .int .i64 mf] 29) = w0 := ⟨_, rfl⟩
  obtain ⟨b, hb⟩ : ∃ b, w.heap.size = b := ⟨_, rfl⟩
  have m0 : w0.cell? ⟨b, 0, none⟩ = some (.slice ap np cp) := by rw [← hw0, ← hb]; simp [go_sem]
  have m1 : w0.cell? ⟨b, 1, none⟩ = some (.slice ae ne ce) := by rw [← hw0, ← hb]; simp [go_sem]
  have m2 : w0.cell? ⟨b, 2, none⟩ = some (.int .i64 mf) := by rw [← hw0, ← hb]; simp [go_sem]
  have hk0 : Kept w w0 := by rw [← hw0]; exact (Kept.refl w).alloc _
  have hz0 : w0.heap.size = b + 1 := by rw [← hw0, ← hb]; simp
  obtain ⟨w1, g1, e1, hg1, hz1, hk1, hb1⟩ := alloc_pt w0 p
  obtain rfl : b + 1 = g1 := by omega
  have m0 := hk1.cell m0
  have m1 := hk1.cell m1
  have m2 := hk1.cell m2
  have hl := lt_of_cell m0
  have HK1 := Lib.hid (hk0.trans hk1)
  have HB := Lib.hid hb1
  clear hk0 hk1
  go_enter Tryz.func6, Tryz.ntmps6
  go_wp2_with fail
  refine (withI_any ap np cp ae ne ce mf _ 22 #[.pointer (some ⟨b + 1, 0, none⟩)] (atA ne (eS P E) (faceE P E) p).1 (atA ne (eS P E) (faceE P E) p).2 w1 (H.out.opens.kept HK1.out) (fun g W hW hR => at1_any g (b + 1) ap np cp ae ne ce mf P E Ed _ (faceE P E) p W hR H.out.fig (HB.out.kept hW) H.out.right) (fun args W => rfl) (fun hy => by unfold atA at hy ⊢; by_cases c : okB p = true <;> by_cases d : onF ne (eS P E) p = [] <;> simp_all)).mono ?_
  rintro e w2 ⟨rfl, hk2⟩
  have HK2 := Lib.hid (HK1.out.trans hk2)
  clear hk2
  go_wp2
  refine bodyPost_ret (results_tmp2 rfl _ _ _) rfl ?_
  exact ⟨rfl, HK2.out⟩
set_option maxHeartbeats 1000000 in
theorem On_map (P : List Pt) (E : List (Nat × Nat)) (Ed : List Five) (ap : Option Addr) (np cp : Nat) (ae : Option Addr) (ne ce : Nat) (mf : Int) (p : Pt) (w : World) (h : MapOk P E Ed ap np cp ae ne ce mf w) :
    Calls Tryz.prog 8 #[mapV ap np cp ae ne ce mf, ptV p] w (MakesE (onA ne (eS P E) p).1 (onA ne (eS P E) p).2 w) := by
  have H := Lib.hid h
  clear h
  obtain ⟨w0, hw0⟩ : ∃ w0, w.alloc (.cells #[.slice ap np cp, .slice ae ne ce, .int .i64 mf] 29) = w0 := ⟨_, rfl⟩
  obtain ⟨b, hb⟩ : ∃ b, w.heap.size = b := ⟨_, rfl⟩
  have m0 : w0.cell? ⟨b, 0, none⟩ = some (.slice ap np cp) := by rw [← hw0, ← hb]; simp [go_sem]
  have m1 : w0.cell? ⟨b, 1, none⟩ = some (.slice ae ne ce) := by rw [← hw0, ← hb]; simp [go_sem]
  have m2 : w0.cell? ⟨b, 2, none⟩ = some (.int .i64 mf) := by rw [← hw0, ← hb]; simp [go_sem]
  have hk0 : Kept w w0 := by rw [← hw0]; exact (Kept.refl w).alloc _
  have hz0 : w0.heap.size = b + 1 := by rw [← hw0, ← hb]; simp
  obtain ⟨w1, g1, e1, hg1, hz1, hk1, hb1⟩ := alloc_pt w0 p
  obtain rfl : b + 1 = g1 := by omega
  have m0 := hk1.cell m0
  have m1 := hk1.cell m1
  have m2 := hk1.cell m2
  have hl := lt_of_cell m0
  have HK1 := Lib.hid (hk0.trans hk1)
  have HB := Lib.hid hb1
  clear hk0 hk1
  go_enter Tryz.func8, Tryz.ntmps8
  go_wp2_with fail
  refine (withL_any ap np cp ae ne ce mf _ 28 #[.pointer (some ⟨b + 1, 0, none⟩)] (onA ne (eS P E) p).1 (onA ne (eS P E) p).2 w1 (H.out.opens.kept HK1.out) (fun g W hW hR => on1_any g (b + 1) ap np cp ae ne ce mf P E Ed _ p W hR H.out.fig (HB.out.kept hW)) (fun args W => rfl) (fun hy => by unfold onA at hy ⊢; split at hy <;> simp_all)).mono ?_
  rintro e w2 ⟨v, rfl, hov, hk2⟩
  have HK2 := Lib.hid (HK1.out.trans hk2)
  have HOV := Lib.hid (OwnG.base' hov HK1.out.size)
  clear hk2 hov
  go_wp2
  refine bodyPost_ret (results_tmp2 rfl _ _ _) rfl ?_
  exact ⟨_, rfl, HOV.out, HK2.out⟩
set_option maxHeartbeats 1000000 in
theorem WalkM_any (P : List Pt) (E : List (Nat × Nat)) (Ed : List Five) (ap : Option Addr) (np cp : Nat) (ae : Option Addr) (ne ce : Nat) (mf : Int) (f : Nat) (w : World) (h : MapOk P E Ed ap np cp ae ne ce mf w) (h1 : 1 ≤ f) (h2 : (f : Int) ≤ mf) :
    Calls Tryz.prog 29 #[mapV ap np cp ae ne ce mf, .int .i64 f] w (MakesE (natL (walkF P E f)) 0 w) := by
  have H := Lib.hid h
  have HFO := Lib.hid (h.face h1 h2)
  clear h h1 h2
  obtain ⟨w0, hw0⟩ : ∃ w0, w.alloc (.cells #[.slice ap np cp, .slice ae ne ce, .int .i64 mf] 29) = w0 := ⟨_, rfl⟩
  obtain ⟨b, hb⟩ : ∃ b, w.heap.size = b := ⟨_, rfl⟩
  have m0 : w0.cell? ⟨b, 0, none⟩ = some (.slice ap np cp) := by rw [← hw0, ← hb]; simp [go_sem]
  have m1 : w0.cell? ⟨b, 1, none⟩ = some (.slice ae ne ce) := by rw [← hw0, ← hb]; simp [go_sem]
  have m2 : w0.cell? ⟨b, 2, none⟩ = some (.int .i64 mf) := by rw [← hw0, ← hb]; simp [go_sem]
  have hk0 : Kept w w0 := by rw [← hw0]; exact (Kept.refl w).alloc _
  have hz0 : w0.heap.size = b + 1 := by rw [← hw0, ← hb]; simp
  obtain ⟨w1, hw1⟩ : ∃ w1, w0.alloc (.cells #[.int .i64 f] 3) = w1 := ⟨_, rfl⟩
  have hc : w1.cell? ⟨w0.heap.size, 0, none⟩ = some (.int .i64 f) := by rw [← hw1]; simp [go_sem]
  have hk1 : Kept w0 w1 := by rw [← hw1]; exact (Kept.refl w0).alloc _
  have m0 := hk1.cell m0
  have m1 := hk1.cell m1
  have m2 := hk1.cell m2
  have hl := lt_of_cell m0
  have HK1 := Lib.hid (hk0.trans hk1)
  obtain ⟨g1, hg1⟩ : ∃ g1, w0.heap.size = g1 := ⟨_, rfl⟩
  rw [hg1] at hc
  obtain rfl : b + 1 = g1 := by omega
  have HC := Lib.hid hc
  clear hk0 hk1
  go_enter Tryz.func29, Tryz.ntmps29
  go_wp2_with fail
  refine (withL_any ap np cp ae ne ce mf _ 67 #[.pointer (some ⟨b + 1, 0, none⟩)] (natL (walkF P E f)) 0 w1 (H.out.opens.kept HK1.out) (fun g W hW hR => walkA_any g (b + 1) ap np cp ae ne ce mf P E Ed _ f W hR (by rw [H.out.len]; have := H.out.few; omega) (hW.cell HC.out) HFO.out) (fun args W => rfl) (fun hy => absurd rfl hy)).mono ?_
  rintro e w2 ⟨v, rfl, hov, hk2⟩
  have HK2 := Lib.hid (HK1.out.trans hk2)
  have HOV := Lib.hid (OwnG.base' hov HK1.out.size)
  clear hk2 hov
  go_wp2
  refine bodyPost_ret (results_tmp2 rfl _ _ _) rfl ?_
  exact ⟨_, rfl, HOV.out, HK2.out⟩
/-- The doubled area of a face. -/
def areaF (P : List Pt) (E : List (Nat × Nat)) (f : Int) : Int := areaW P E (orbE P E (leastF P E f))
set_option maxHeartbeats 1000000 in
theorem AreaM_any (P : List Pt) (E : List (Nat × Nat)) (Ed : List Five) (ap : Option Addr) (np cp : Nat) (ae : Option Addr) (ne ce : Nat) (mf : Int) (f : Nat) (w : World) (h : MapOk P E Ed ap np cp ae ne ce mf w) (h1 : 1 ≤ f) (h2 : (f : Int) ≤ mf) :
    Calls Tryz.prog 13 #[mapV ap np cp ae ne ce mf, .int .i64 f] w (Gives (.tuple #[.int .i64 (areaF P E f), .int .i64 0]) w) := by
  have H := Lib.hid h
  have HFO := Lib.hid (h.face h1 h2)
  clear h h1 h2
  obtain ⟨w0, hw0⟩ : ∃ w0, w.alloc (.cells #[.slice ap np cp, .slice ae ne ce, .int .i64 mf] 29) = w0 := ⟨_, rfl⟩
  obtain ⟨b, hb⟩ : ∃ b, w.heap.size = b := ⟨_, rfl⟩
  have m0 : w0.cell? ⟨b, 0, none⟩ = some (.slice ap np cp) := by rw [← hw0, ← hb]; simp [go_sem]
  have m1 : w0.cell? ⟨b, 1, none⟩ = some (.slice ae ne ce) := by rw [← hw0, ← hb]; simp [go_sem]
  have m2 : w0.cell? ⟨b, 2, none⟩ = some (.int .i64 mf) := by rw [← hw0, ← hb]; simp [go_sem]
  have hk0 : Kept w w0 := by rw [← hw0]; exact (Kept.refl w).alloc _
  have hz0 : w0.heap.size = b + 1 := by rw [← hw0, ← hb]; simp
  obtain ⟨w1, hw1⟩ : ∃ w1, w0.alloc (.cells #[.int .i64 f] 3) = w1 := ⟨_, rfl⟩
  have hc : w1.cell? ⟨w0.heap.size, 0, none⟩ = some (.int .i64 f) := by rw [← hw1]; simp [go_sem]
  have hk1 : Kept w0 w1 := by rw [← hw1]; exact (Kept.refl w0).alloc _
  have m0 := hk1.cell m0
  have m1 := hk1.cell m1
  have m2 := hk1.cell m2
  have hl := lt_of_cell m0
  have HK1 := Lib.hid (hk0.trans hk1)
  obtain ⟨g1, hg1⟩ : ∃ g1, w0.heap.size = g1 := ⟨_, rfl⟩
  rw [hg1] at hc
  obtain rfl : b + 1 = g1 := by omega
  have HC := Lib.hid hc
  clear hk0 hk1
  go_enter Tryz.func13, Tryz.ntmps13
  go_wp2_with fail
  refine (withI_any ap np cp ae ne ce mf _ 33 #[.pointer (some ⟨b + 1, 0, none⟩)] (areaF P E f) 0 w1 (H.out.opens.kept HK1.out) (fun g W hW hR => areaA_any g (b + 1) ap np cp ae ne ce mf P E Ed _ f W hR (by rw [H.out.len]; have := H.out.few; omega) (hW.cell HC.out) HFO.out) (fun args W => rfl) (fun hy => absurd rfl hy)).mono ?_
  rintro e w2 ⟨rfl, hk2⟩
  have HK2 := Lib.hid (HK1.out.trans hk2)
  clear hk2
  go_wp2
  refine bodyPost_ret (results_tmp2 rfl _ _ _) rfl ?_
  exact ⟨rfl, HK2.out⟩
end Go.Proofs.YtlglfcdobbocnaaGreat
