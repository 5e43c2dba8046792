/- isFace, least; what At, On, Walk and Area2 do with a web. -/
import Derived.Test.YtlglfcdobbocnaaGreatXm
set_option maxRecDepth 100000
namespace Go.Proofs.YtlglfcdobbocnaaGreat
open Go Go.Proofs Go.RowKit
attribute [local go_sem] Oper.semAt_some
set_option maxHeartbeats 800000 in
theorem indexFuncN_any (l : List Int) (ao : Option Addr) (c g : Nat) (caps : Array Value) (p : Int → Bool) (w : World) (hl : l.length < 1152921504606846976) (hp : Ints w ao l)
    (hf : ∀ a W, Kept w W → Calls Tryz.prog g (#[.int .i64 a] ++ caps) W (Gives (.bool (p a)) W)) (hg : ∀ args W, (callFunc g args).run Tryz.prog W = .ok (.enter g args) W) :
    Calls Tryz.prog 94 #[.slice ao l.length c, .func (.func g) #[] caps] w (IdxPost p l w) := by
  have HF := Lib.hid hf
  clear hf
  go_enter Tryz.func94, Tryz.ntmps94
  go_wp2
  go_loopw [8] (fun i wr => ∃ k : Nat, k ≤ l.length ∧ i = .int .i64 k ∧ (l.take k).any p = false ∧ Kept w wr) (fun i _ => l.length - (intOf i).toNat)
  case atStart => exact ⟨0, Nat.zero_le _, rfl, by simp, Kept.refl w⟩
  case round =>
    obtain ⟨k, hk, rfl, hn, hkw⟩ := hrel
    have HN := Lib.hid hn
    clear hn
    by_cases hlt : k < l.length
    · obtain ⟨B, off, rfl, hc⟩ := (hp.kept hkw) k hlt
      have HP := Lib.hid hp
      clear hp
      have HKW := Lib.hid hkw
      clear hkw
      cases hpk : p l[k]
      all_goals
        go_wp2_with fail
        refine (HF.out _ _ HKW.out).mono ?_
        rintro e w1 ⟨rfl, hk1⟩
        have HK1 := Lib.hid (HKW.out.trans hk1)
        clear hk1
      · go_wp2
        go_roundw
        case rel => exact ⟨k + 1, by omega, by go_num, (any_take_succ p l k hlt HN.out).trans hpk, HK1.out⟩
        case measure => simp [intOf]; omega
      · go_wp2
        go_ret
        exact ⟨k, rfl, by rw [any_of_get p l k hlt hpk]; simp, HK1.out⟩
    · have HP := Lib.hid hp
      clear hp
      have HKW := Lib.hid hkw
      clear hkw
      go_wp2
      go_ret
      refine ⟨-1, rfl, ?_, HKW.out⟩
      rw [List.take_of_length_le (by omega)] at HN
      rw [HN.out]; rfl
set_option maxHeartbeats 400000 in
theorem containsFuncN_any (l : List Int) (ao : Option Addr) (c g : Nat) (caps : Array Value) (p : Int → Bool) (w : World) (hl : l.length < 1152921504606846976) (hp : Ints w ao l)
    (hf : ∀ a W, Kept w W → Calls Tryz.prog g (#[.int .i64 a] ++ caps) W (Gives (.bool (p a)) W)) (hg : ∀ args W, (callFunc g args).run Tryz.prog W = .ok (.enter g args) W) :
    Calls Tryz.prog 71 #[.slice ao l.length c, .func (.func g) #[] caps] w (Gives (.bool (l.any p)) w) := by
  have HF := Lib.hid hf
  clear hf
  go_enter Tryz.func71, Tryz.ntmps71
  go_wp2_with fail
  refine (indexFuncN_any l ao c g caps p w hl hp HF.out hg).mono ?_
  rintro e w1 ⟨i, rfl, hi, hk⟩
  have HI := Lib.hid hi
  have HK := Lib.hid hk
  clear hi hk hg
  go_wp2
  go_ret
  exact ⟨ret_bool HI.out, HK.out⟩
set_option maxHeartbeats 400000 in
theorem isFace1_any (g cw : Nat) (mf f : Int) (X : World) (h1 : X.cell? ⟨cw, 0, none⟩ = some (.pointer (some ⟨g, 0, none⟩))) (h2 : X.cell? ⟨g, 2, none⟩ = some (.int .i64 mf)) :
    Calls Tryz.prog 72 #[.int .i64 f, .pointer (some ⟨cw, 0, none⟩)] X (Tells (.bool (decide (f < 0) || decide (mf < f))) X) := by
  have hl1 := lt_of_cell h1
  have hl2 := lt_of_cell h2
  by_cases hf : f < 0
  · have t1 : decide (f < 0) = true := by simp [hf]
    go_enter Tryz.func72, Tryz.ntmps72
    go_wp2
    go_ret
    exact ⟨ret_bool (by simp [hf]), rfl⟩
  · have t1 : decide (f < 0) = false := by simp [hf]
    go_enter Tryz.func72, Tryz.ntmps72
    go_wp2
    go_ret
    exact ⟨ret_bool (by simp), rfl⟩
set_option maxHeartbeats 400000 in
theorem isFace_any (g : Nat) (mf f : Int) (ao : Option Addr) (w : World) (h2 : w.cell? ⟨g, 2, none⟩ = some (.int .i64 mf)) (hi : Ints w ao [f]) :
    Calls Tryz.prog 34 #[.pointer (some ⟨g, 0, none⟩), .slice ao 1 1] w (Gives (.bool (!(decide (f < 0) || decide (mf < f)))) w) := by
  have H2 := Lib.hid h2
  have HI := Lib.hid hi
  obtain ⟨w0, hw0⟩ : ∃ w0, w.alloc (.cells #[.pointer (some ⟨g, 0, none⟩)] 59) = w0 := ⟨_, rfl⟩
  obtain ⟨cw, hcw⟩ : ∃ cw, w.heap.size = cw := ⟨_, rfl⟩
  have hk0 : Kept w w0 := by rw [← hw0]; exact (Kept.refl w).alloc _
  have c0 : w0.cell? ⟨cw, 0, none⟩ = some (.pointer (some ⟨g, 0, none⟩)) := by rw [← hw0, ← hcw]; simp [go_sem]
  have HK := Lib.hid hk0
  have HC := Lib.hid c0
  clear h2 hi hk0 c0
  go_enter Tryz.func34, Tryz.ntmps34
  go_wp2_with fail
  refine (containsFuncN_any [f] ao 1 72 #[.pointer (some ⟨cw, 0, none⟩)] (fun a => decide (a < 0) || decide (mf < a)) w0 (by simp) (HI.out.kept HK.out) (fun a W hW => (isFace1_any g cw mf a W (hW.cell HC.out) (hW.cell (HK.out.cell H2.out))).mono fun e w' h => ⟨h.1, h.2 ▸ Kept.refl _⟩) (fun args W => rfl)).mono ?_
  rintro e w1 ⟨rfl, hk⟩
  have HK1 := Lib.hid (HK.out.trans hk)
  clear hk hw0
  obtain ⟨r, hr⟩ : ∃ r, ([f].any fun a => decide (a < 0) || decide (mf < a)) = r := ⟨_, rfl⟩
  have HR : Hid ((decide (f < 0) || decide (mf < f)) = r) := Lib.hid (by rw [← hr]; simp)
  rw [hr]
  clear hr
  go_wp2
  go_ret
  exact ⟨ret_bool (by rw [HR.out]), HK1.out⟩
set_option maxHeartbeats 400000 in
theorem leastW_any (g : Nat) (face : List Int) (f : Int) (w : World) (h : ∃ af cf, w.cell? ⟨g, 5, none⟩ = some (.slice af face.length cf) ∧ Ints w af face) (hl : face.length < 1000000) :
    Calls Tryz.prog 37 #[.pointer (some ⟨g, 0, none⟩), .int .i64 f] w (Tells (.int .i64 (idxI face f)) w) := by
  obtain ⟨af, cf, c0, hi⟩ := h
  have hl0 := lt_of_cell c0
  have HI := Lib.hid hi
  clear hi
  go_enter Tryz.func37, Tryz.ntmps37
  go_wp2_with fail
  refine (index_any face af cf f w (by omega) HI.out).mono ?_
  rintro e w1 ⟨rfl, rfl⟩
  go_wp2
  go_ret
  exact ⟨rfl, rfl⟩
end Go.Proofs.YtlglfcdobbocnaaGreat
