/- ref.All, ref.Wait. -/
import Derived.Test.YteljjkghjbofnaaTq
import Derived.Test.YteljjkghjbofnaaTe
import Derived.Test.YteljjkghjbofnaaYn
set_option maxRecDepth 100000
namespace Go.Proofs.Yteljjkghjbofnaa
open Go Go.Proofs Go.RowKit
attribute [local go_sem] Oper.semAt_some

/-- Behind ao lie these slices. -/
def SLs (X : World) (ao : Option Addr) (ss : List SL) : Prop := ∀ i, (h : i < ss.length) → ∃ B, ao = some ⟨B, 0, none⟩ ∧ X.cell? ⟨B, i, none⟩ = some (.slice ss[i].1 ss[i].2.1 ss[i].2.2)
def AllPost (w : World) (ls : List (List Int)) (e : Ending) (w' : World) : Prop :=
  ∃ ao c ss, e = .returned (.slice ao ss.length c) ∧ SLs w' ao ss ∧ (∀ ad, ao = some ad → w.heap.size ≤ ad.block) ∧ Lists w' ss ls ∧ (∀ s ∈ ss, ∀ ad, s.1 = some ad → w.heap.size ≤ ad.block) ∧ Kept w w'
set_option maxHeartbeats 400000 in
theorem RAll_any (o : Prob) (ao bo : Option Addr) (ca cb : Nat) (w : World) (ho : IsProb w o ao bo) (hc : chk o = 0) (hn8 : (webOf o).n ≤ 8) :
    Calls Try.prog 91 #[probV o ao ca bo cb] w (AllPost w (ordersL (webOf o))) := by
  have HO := Lib.hid ho
  have HC := Lib.hid hc
  have HN8 := Lib.hid hn8
  clear ho hc hn8
  go_enter Try.func91, Try.ntmps91
  go_wp2_with fail
  obtain ⟨w0, e0, hk0, hb0, -⟩ := alloc_prob w o.N o.arcs o.near ao ca bo cb
  rw [e0]
  clear e0
  have HK0 := Lib.hid hk0
  clear hk0 hb0
  refine (RFrom_any o HC.out HN8.out ao bo ca cb ((webOf o).n + 1) [] none 0 w0 (by have := HN8.out; omega) (HO.out.kept HK0.out) (Ints.nil _ _) (by simp) (by simp) (by simp) (fun _ => rfl) (fun ad h => by cases h)).mono ?_
  rintro e w1 ⟨v, ss, rfl, hown, hls, hap, hk⟩
  have HOWN := Lib.hid hown
  have HLS := Lib.hid hls
  have HAP := Lib.hid hap
  have HK := Lib.hid hk
  clear hown hls hap hk
  go_wp2
  go_ret
  have hsz := HK0.out.size
  have hap : ∀ s ∈ ss, ∀ ad, s.1 = some ad → w.heap.size ≤ ad.block := fun s hs ad e => by
    rcases (HAP.out s hs ad e).1 with h | h
    · cases h
    · omega
  rcases HOWN.out.slice slC_len with ⟨rfl, rfl⟩ | ⟨g, c, rfl, -, hg, -, -, hcx⟩
  · exact ⟨none, 0, [], rfl, fun i h => absurd h (by simp), fun ad h => (by cases h), HLS.out, hap, HK0.out.trans HK.out⟩
  · refine ⟨_, c, ss, rfl, fun i h => ⟨g, rfl, ?_⟩, fun ad h => by cases h; show w.heap.size ≤ g; omega, HLS.out, hap, HK0.out.trans HK.out⟩
    have := hcx i h 0 _ rfl
    rw [Nat.mul_one, Nat.add_zero] at this
    exact this

/-- What Wait answers. -/
def WaitR (o : Prob) (dry : Int) : (List Int × List Int) × Int :=
  if chk o = 0 then (if 0 ≤ dry ∧ dry ≤ 30 then (if 8 < (webOf o).n then (([], []), 2) else if circB (webOf o) = true then (([], []), 50) else (bestPair (webOf o) dry (bestOf (webOf o) dry (ordersL (webOf o))), 0)) else (([], []), 1)) else (([], []), chk o)
def WaitP (p : (List Int × List Int) × Int) (w : World) (e : Ending) (w' : World) : Prop :=
  ∃ a1 c1 a2 c2, e = .returned (.tuple #[.agg #[.slice a1 p.1.1.length c1, .slice a2 p.1.2.length c2], .int .i64 p.2]) ∧ Ints w' a1 p.1.1 ∧ Ints w' a2 p.1.2 ∧ Kept w w'
theorem Wait_any (o : Prob) (ao bo : Option Addr) (ca cb : Nat) (dry : Int) (w : World) (ho : IsProb w o ao bo) :
    Calls Try.prog 28 #[probV o ao ca bo cb, .int .i64 dry] w (WaitP (WaitR o dry) w) := by
  have nil : ∀ (er : Int) (e : Ending) (w' : World), Gives (.tuple #[.agg #[.slice none 0 0, .slice none 0 0], .int .i64 er]) w e w' → WaitP (([], []), er) w e w' := by
    rintro er e w' ⟨rfl, hk⟩
    exact ⟨none, 0, none, 0, rfl, Ints.nil _ _, Ints.nil _ _, hk⟩
  unfold WaitR
  by_cases hc : chk o = 0
  · rw [if_pos hc]
    by_cases hd : 0 ≤ dry ∧ dry ≤ 30
    · rw [if_pos hd]
      have hn := webOf_n hc
      by_cases h8 : 8 < (webOf o).n
      · rw [if_pos h8]
        exact (Wait_limit o ao bo ca cb dry w ho hc hd h8).mono (fun e w' h => nil 2 e w' h)
      · rw [if_neg h8]
        by_cases hcb : circB (webOf o) = true
        · rw [if_pos hcb]
          exact (Wait_circ o ao bo ca cb dry w ho hc hd (by omega) hcb).mono (fun e w' h => nil 50 e w' h)
        · rw [if_neg hcb]
          by_cases h0 : (webOf o).n = 0
          · refine (Wait_none o ao bo ca cb dry w ho hc hd h0).mono (fun e w' h => ?_)
            have e1 : ordersL (webOf o) = [[]] := by unfold ordersL ordersF; rw [if_pos (by simp [h0])]
            have e2 : bestPair (webOf o) dry (bestOf (webOf o) dry (ordersL (webOf o))) = ([], []) := by
              rw [e1]
              show ([], daysOf (webOf o) dry []) = _
              have : (daysOf (webOf o) dry []).length = 0 := by rw [show (daysOf (webOf o) dry []).length = (webOf o).n from daysPart_length _ _ _ _]; exact h0
              rw [List.eq_nil_of_length_eq_zero this]
            rw [e2]
            exact nil 0 e w' h
          · have he : errS o = 0 := by unfold errS; rw [if_pos hc, if_neg hcb]
            refine (Wait_ok o ao bo ca cb dry w ho he hd (by omega) (by omega)).mono ?_
            rintro e w' ⟨v1, v2, o1, d1, rfl, ⟨q, hq, h1, h2⟩, ⟨a1, c1, rfl, hi1⟩, ⟨a2, c2, rfl, hi2⟩, hk⟩
            rw [← wait_best hn (by omega) hd hq h1 h2]
            exact ⟨a1, c1, a2, c2, rfl, hi1, hi2, hk⟩
    · rw [if_neg hd]
      exact (Wait_dry o ao bo ca cb dry w ho hc hd).mono (fun e w' h => nil 1 e w' h)
  · rw [if_neg hc]
    exact (Wait_bad o ao bo ca cb dry w ho hc).mono (fun e w' h => nil _ e w' h)
end Go.Proofs.Yteljjkghjbofnaa
