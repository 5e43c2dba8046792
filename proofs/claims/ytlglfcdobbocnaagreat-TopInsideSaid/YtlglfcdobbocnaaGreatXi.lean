/- faces.seg; the order of heights. -/
import Derived.Test.YtlglfcdobbocnaaGreatXh
set_option maxRecDepth 100000
namespace Go.Proofs.YtlglfcdobbocnaaGreat
open Go Go.Proofs Go.RowKit
attribute [local go_sem] Oper.semAt_some
/-- A map's points and edges in memory. -/
structure MapD (W : World) (ap ae : Option Addr) (P : List Pt) (E : List (Nat × Nat)) (Ed : List Five) (np ne : Nat) : Prop where
  pts : Pairs W ap P
  eds : Fives W ae Ed
  are : EdgesAre Ed E
  hp : P.length = np
  he : Ed.length = ne
theorem MapD.kept {W X : World} {ap ae : Option Addr} {P : List Pt} {E : List (Nat × Nat)} {Ed : List Five} {np ne : Nat} (h : MapD W ap ae P E Ed np ne) (hk : Kept W X) : MapD X ap ae P E Ed np ne := ⟨h.pts.kept hk, h.eds.kept hk, h.are, h.hp, h.he⟩
set_option maxHeartbeats 1000000 in
theorem seg_any (P : List Pt) (E : List (Nat × Nat)) (Ed : List Five) (ap : Option Addr) (np cp : Nat) (ae : Option Addr) (ne ce : Nat) (mf : Int) (i : Nat) (w : World) (h : MapD w ap ae P E Ed np ne) (he : Ends P E) (hi : i < ne) : Calls Tryz.prog 62 #[mapV ap np cp ae ne ce mf, .int .i64 i] w (Gives (sgV (eS P E i)) w) := by
  have hie : i < E.length := by rw [← h.are.len, h.he]; exact hi
  have hid : i < Ed.length := by rw [h.he]; exact hi
  obtain ⟨hA, hB⟩ := he.edge hie
  obtain ⟨b, off, rfl, c0, c1, -, -, -⟩ := h.eds i hid
  rw [h.are.a i hid] at c0
  rw [h.are.b i hid] at c1
  have HR : Hid (eS P E i = (P.getD (E.getD i (0, 0)).1 (0, 0), P.getD (E.getD i (0, 0)).2 (0, 0))) := Lib.hid rfl
  generalize (E.getD i (0, 0)).1 = x at c0 hA HR
  generalize (E.getD i (0, 0)).2 = y at c1 hB HR
  obtain ⟨b2, off2, e1, p0, p1⟩ := h.pts x hA
  obtain ⟨b3, off3, e2, q0, q1⟩ := h.pts y hB
  subst e1
  cases e2
  have hpx : P[x] = P.getD x (0, 0) := by rw [List.getD_eq_getElem?_getD, List.getElem?_eq_getElem hA]; rfl
  have hpy : P[y] = P.getD y (0, 0) := by rw [List.getD_eq_getElem?_getD, List.getElem?_eq_getElem hB]; rfl
  rw [hpx] at p0 p1
  rw [hpy] at q0 q1
  generalize P.getD x (0, 0) = px at p0 p1 HR
  generalize P.getD y (0, 0) = py at q0 q1 HR
  rw [h.hp] at hA hB
  clear hpx hpy
  obtain ⟨w0, hw0⟩ : ∃ w0, w.alloc (.cells #[.slice (some ⟨b2, off2, none⟩) np cp, .slice (some ⟨b, off, none⟩) ne ce, .int .i64 mf] 29) = w0 := ⟨_, rfl⟩
  obtain ⟨g, hg⟩ : ∃ g, w.heap.size = g := ⟨_, rfl⟩
  have m0 : w0.cell? ⟨g, 0, none⟩ = some (.slice (some ⟨b2, off2, none⟩) np cp) := by rw [← hw0, ← hg]; simp [go_sem]
  have m1 : w0.cell? ⟨g, 1, none⟩ = some (.slice (some ⟨b, off, none⟩) ne ce) := by rw [← hw0, ← hg]; simp [go_sem]
  have hk0 : Kept w w0 := by rw [← hw0]; exact (Kept.refl w).alloc _
  have hz0 : w0.heap.size = g + 1 := by rw [← hw0, ← hg]; simp
  obtain ⟨w1, g1, e1, hg1, hz1, hk1, hb1⟩ := alloc_sg w0 ((0, 0), (0, 0))
  have hf1 : ∀ o, w1.frozen? ⟨g1, o, none⟩ = false := fun o => by rw [← e1, ← hg1]; exact frozen_alloc _ _ _ o
  obtain rfl : g + 1 = g1 := by omega
  have hk := hk0.trans hk1
  have c0 := hk.cell c0
  have c1 := hk.cell c1
  have p0 := hk.cell p0
  have p1 := hk.cell p1
  have q0 := hk.cell q0
  have q1 := hk.cell q1
  have m0 := hk1.cell m0
  have m1 := hk1.cell m1
  have HB := Lib.hid hb1
  have HK := Lib.hid hk
  have hl1 := lt_of_cell c0
  have hl2 := lt_of_cell p0
  have hl3 := lt_of_cell m0
  obtain ⟨r0, r1, r2, r3⟩ := hb1
  simp only [] at e1
  clear hk hk0 hk1 h he
  go_enter Tryz.func62, Tryz.ntmps62
  go_wp2
  refine region_tail 21 (by kernel_rfl) (by kernel_rfl) ?_
  simp only [List.take_succ_cons, List.take_zero, List.drop_succ_cons, List.drop_zero]
  repeat still_step
  refine wpStill_nil ?_
  go_wp2
  have hs : SgBox (((((w1.setCell ⟨g + 1, 0, none⟩ (.int .i64 px.1)).setCell ⟨g + 1, 1, none⟩ (.int .i64 px.2)).setCell ⟨g + 1, 2, none⟩ (.int .i64 py.1)).setCell ⟨g + 1, 3, none⟩ (.int .i64 py.2))).drew (g + 1) (px, py) := (HB.out.put (px, py)).kept (Kept.refl _).drew
  refine bodyPost_ret (results_cell rfl _ _ ⟨g + 1, 0, none⟩ rfl _ (load45 hs)) rfl ?_
  have hgw : w.heap.size ≤ g + 1 := by omega
  exact ⟨by rw [HR.out], ((((HK.out.setCell (p := ⟨g + 1, 0, none⟩) hgw _).setCell (p := ⟨g + 1, 1, none⟩) hgw _).setCell (p := ⟨g + 1, 2, none⟩) hgw _).setCell (p := ⟨g + 1, 3, none⟩) hgw _).drew⟩
/-! ### Heights -/
theorem mulB {a b m n : Int} (h1 : -m ≤ a) (h2 : a ≤ m) (h3 : -n ≤ b) (h4 : b ≤ n) : -(m * n) ≤ a * b ∧ a * b ≤ m * n := by
  have e1 := Int.mul_nonneg (show 0 ≤ a + m by omega) (show 0 ≤ b + n by omega)
  have e2 := Int.mul_nonneg (show 0 ≤ m - a by omega) (show 0 ≤ n - b by omega)
  have e3 := Int.mul_nonneg (show 0 ≤ a + m by omega) (show 0 ≤ n - b by omega)
  have e4 := Int.mul_nonneg (show 0 ≤ m - a by omega) (show 0 ≤ b + n by omega)
  simp only [Int.add_mul, Int.mul_add, Int.sub_mul, Int.mul_sub] at e1 e2 e3 e4
  omega
def upV (s : Sg) (x : Int) : Value := .tuple #[.int .i64 (hgt s x), .int .i64 (2 * (s.2.1 - s.1.1))]
theorem hgt_bound {s : Sg} {x : Int} (h1 : okB s.1 = true) (h2 : okB s.2 = true) (hx : 0 ≤ x ∧ x ≤ 10000) : -1000000000 ≤ hgt s x ∧ hgt s x ≤ 1000000000 ∧ -20000 ≤ 2 * (s.2.1 - s.1.1) ∧ 2 * (s.2.1 - s.1.1) ≤ 20000 := by
  rw [okB_iff] at h1 h2
  have a := mulB (a := 2 * s.1.2) (b := s.2.1 - s.1.1) (m := 20000) (n := 10000) (by omega) (by omega) (by omega) (by omega)
  have b := mulB (a := s.2.2 - s.1.2) (b := 2 * x + 1 - 2 * s.1.1) (m := 10000) (n := 20001) (by omega) (by omega) (by omega) (by omega)
  unfold hgt
  omega
set_option maxHeartbeats 1000000 in
theorem up_any (s : Sg) (cx : Nat) (x : Int) (w : World) (hc : w.cell? ⟨cx, 0, none⟩ = some (.int .i64 x)) (h1 : okB s.1 = true) (h2 : okB s.2 = true) (hx : 0 ≤ x ∧ x ≤ 10000) : Calls Tryz.prog 110 #[sgV s, .pointer (some ⟨cx, 0, none⟩)] w (Gives (upV s x) w) := by
  obtain ⟨w0, g0, e0, hg0, hz0, hk0, hb0⟩ := alloc_sg w s
  have HK0 := Lib.hid hk0
  have hc := hk0.cell hc
  have hcl := lt_of_cell hc
  obtain ⟨q0, q1, q2, q3⟩ := hb0
  clear hk0
  obtain ⟨⟨ax, ay⟩, bx, b_y⟩ := s
  simp only [] at q0 q1 q2 q3 e0 ⊢
  rw [okB_iff] at h1 h2
  simp only [] at h1 h2
  have a := mulB (a := 2 * (bx - ax)) (b := ay) (m := 20000) (n := 10000) (by omega) (by omega) (by omega) (by omega)
  have b := mulB (a := b_y - ay) (b := 2 * x + 1 - 2 * ax) (m := 10000) (n := 20001) (by omega) (by omega) (by omega) (by omega)
  have w1 : IntKind.i64.wrap (bx - ax) = bx - ax := IntWalk.i64_in _ (by omega)
  have w2 : IntKind.i64.wrap (2 * (bx - ax)) = 2 * (bx - ax) := IntWalk.i64_in _ (by omega)
  have w3 : IntKind.i64.wrap (2 * (bx - ax) * ay) = 2 * (bx - ax) * ay := IntWalk.i64_in _ (by omega)
  have w4 : IntKind.i64.wrap (b_y - ay) = b_y - ay := IntWalk.i64_in _ (by omega)
  have w5 : IntKind.i64.wrap (2 * x) = 2 * x := IntWalk.i64_in _ (by omega)
  have w6 : IntKind.i64.wrap (2 * x + 1) = 2 * x + 1 := IntWalk.i64_in _ (by omega)
  have w7 : IntKind.i64.wrap (2 * ax) = 2 * ax := IntWalk.i64_in _ (by omega)
  have w8 : IntKind.i64.wrap (2 * x + 1 - 2 * ax) = 2 * x + 1 - 2 * ax := IntWalk.i64_in _ (by omega)
  have w9 : IntKind.i64.wrap ((b_y - ay) * (2 * x + 1 - 2 * ax)) = (b_y - ay) * (2 * x + 1 - 2 * ax) := IntWalk.i64_in _ (by omega)
  have w10 : IntKind.i64.wrap (2 * (bx - ax) * ay + (b_y - ay) * (2 * x + 1 - 2 * ax)) = 2 * (bx - ax) * ay + (b_y - ay) * (2 * x + 1 - 2 * ax) := IntWalk.i64_in _ (by omega)
  have HE : Hid (hgt ((ax, ay), bx, b_y) x = 2 * (bx - ax) * ay + (b_y - ay) * (2 * x + 1 - 2 * ax)) := Lib.hid (by unfold hgt; simp only []; grind)
  go_enter Tryz.func110, Tryz.ntmps110
  go_wp2
  refine bodyPost_ret (results_tmp2 rfl _ _ _) rfl ⟨?_, HK0.out⟩
  unfold upV
  rw [HE.out]
  rfl
set_option maxHeartbeats 1000000 in
theorem height_any (s t : Sg) (x : Int) (w : World) (h1 : okB s.1 = true) (h2 : okB s.2 = true) (h3 : okB t.1 = true) (h4 : okB t.2 = true) (hx : 0 ≤ x ∧ x ≤ 10000) : Calls Tryz.prog 90 #[sgV s, sgV t, .int .i64 x] w (Gives (.int .i64 (heightF s t x)) w) := by
  have HS := Lib.hid (⟨h1, h2⟩ : okB s.1 = true ∧ okB s.2 = true)
  have HT := Lib.hid (⟨h3, h4⟩ : okB t.1 = true ∧ okB t.2 = true)
  have HX := Lib.hid hx
  obtain ⟨w0, g0, e0, hg0, hz0, hk0, hb0⟩ := alloc_sg w s
  obtain ⟨w1, g1, e1, hg1, hz1, hk1, hb1⟩ := alloc_sg w0 t
  obtain rfl : g0 + 1 = g1 := by omega
  obtain ⟨w2, hw2⟩ : ∃ w2, w1.alloc (.cells #[.int .i64 x] 3) = w2 := ⟨_, rfl⟩
  have hk2 : Kept w1 w2 := by rw [← hw2]; exact (Kept.refl w1).alloc _
  have hc2 : w2.cell? ⟨g0 + 1 + 1, 0, none⟩ = some (.int .i64 x) := by rw [← hw2, ← hz1]; simp [go_sem]
  have HC := Lib.hid hc2
  have HK2 := Lib.hid ((hk0.trans hk1).trans hk2)
  have HB0 := Lib.hid ((hb0.kept hk1).kept hk2)
  have HB1 := Lib.hid (hb1.kept hk2)
  clear hk0 hk1 hk2 hb0 hb1 h1 h2 h3 h4 hx
  obtain ⟨q0, q1, q2, q3⟩ := HB0.out
  obtain ⟨q4, q5, q6, q7⟩ := HB1.out
  go_enter Tryz.func90, Tryz.ntmps90
  go_wp2_with fail
  refine (up_any s (g0 + 1 + 1) x _ HC.out HS.out.1 HS.out.2 HX.out).mono ?_
  rintro e w3 ⟨rfl, hk3⟩
  have HK3 := Lib.hid (HK2.out.trans hk3)
  have HC3 := Lib.hid (hk3.cell hc2)
  have HB3 := Lib.hid (HB1.out.kept hk3)
  clear hk3 q0 q1 q2 q3 q4 q5 q6 q7 e0 e1 hw2 hc2
  obtain ⟨q4, q5, q6, q7⟩ := HB3.out
  unfold upV
  go_wp2_with fail
  refine (up_any t (g0 + 1 + 1) x _ HC3.out HT.out.1 HT.out.2 HX.out).mono ?_
  rintro e w4 ⟨rfl, hk4⟩
  have HK4 := Lib.hid (HK3.out.trans hk4)
  clear hk4 q4 q5 q6 q7
  unfold upV
  have ha := hgt_bound HS.out.1 HS.out.2 HX.out
  have hb := hgt_bound HT.out.1 HT.out.2 HX.out
  have HR : Hid (heightF s t x = cmpI (hgt s x * (2 * (t.2.1 - t.1.1))) (hgt t x * (2 * (s.2.1 - s.1.1)))) := Lib.hid rfl
  generalize hgt s x = na at ha HR ⊢
  generalize hgt t x = nb at hb HR ⊢
  generalize 2 * (s.2.1 - s.1.1) = da at ha HR ⊢
  generalize 2 * (t.2.1 - t.1.1) = db at hb HR ⊢
  have m1 := mulB (a := na) (b := db) (m := 1000000000) (n := 20000) (by omega) (by omega) (by omega) (by omega)
  have m2 := mulB (a := nb) (b := da) (m := 1000000000) (n := 20000) (by omega) (by omega) (by omega) (by omega)
  have w1 : IntKind.i64.wrap (na * db) = na * db := IntWalk.i64_in _ (by omega)
  have w2 : IntKind.i64.wrap (nb * da) = nb * da := IntWalk.i64_in _ (by omega)
  go_wp2_with fail
  refine (compare_any _ _ _).mono ?_
  rintro e w5 ⟨rfl, rfl⟩
  go_wp2
  go_ret
  exact ⟨ret_int HR.out.symm, HK4.out⟩
end Go.Proofs.YtlglfcdobbocnaaGreat
