/- Circle. -/
import Derived.Test.YteljjkghjbofnaaWk
import Derived.Deep.LoopGhost
import Derived.WalkMore
import Derived.WalkSpells
set_option maxRecDepth 100000
namespace Go.Proofs.Yteljjkghjbofnaa
open Go Go.Proofs Go.RowKit

@[go_sem] theorem neq31_some (w : World) (a : Addr) (n c : Nat) : (binOp .neq 31 (.slice (some a) n c) (.slice none 0 0)).run Try.prog w = .ok (.bool true) w := run_neq_slice_nil_any w 31 3 (some a) n c 0 0 Try.underlying31
@[go_sem] theorem neq31_none (w : World) : (binOp .neq 31 (.slice none 0 0) (.slice none 0 0)).run Try.prog w = .ok (.bool false) w := run_neq_slice_nil_any w 31 3 none 0 0 0 0 Try.underlying31
@[go_sem] theorem eql31_some (w : World) (a : Addr) (n c : Nat) : (binOp .eql 31 (.slice (some a) n c) (.slice none 0 0)).run Try.prog w = .ok (.bool false) w := Lib.run_eql_slice_nil w 31 3 (some a) n c 0 0 Try.underlying31
@[go_sem] theorem eql31_none (w : World) : (binOp .eql 31 (.slice none 0 0) (.slice none 0 0)).run Try.prog w = .ok (.bool true) w := Lib.run_eql_slice_nil w 31 3 none 0 0 0 0 Try.underlying31

def circleStep (W : Web) (out : List Int) (a : Nat) : List Int :=
  if roundOf W a ≠ [] ∧ (out = [] ∨ (roundOf W a).length < out.length) then roundOf W a else out
def circlePart (W : Web) (i : Nat) : List Int := (List.range i).foldl (circleStep W) []
theorem circlePart_succ (W : Web) (i : Nat) : circlePart W (i + 1) = circleStep W (circlePart W i) i := by unfold circlePart; rw [List.range_succ, List.foldl_append]; rfl
def circleL (o : Prob) : List Int := if chk o = 0 then circlePart (webOf o) (webOf o).n else []

/-- v is a slice of numbers l: nil if there are none. -/
def NewN (w w' : World) (v : Value) (l : List Int) : Prop :=
  NewI w w' v l ∧ ((l = [] ∧ v = .slice none 0 0) ∨ (l ≠ [] ∧ ∃ g c, v = .slice (some ⟨g, 0, none⟩) l.length c))
theorem NewN.kept {w w' w'' : World} {v : Value} {l : List Int} (h : NewN w w' v l) (hk : Kept w' w'') : NewN w w'' v l := ⟨h.1.kept hk, h.2⟩
theorem NewN.nil (w w' : World) : NewN w w' (.slice none 0 0) [] := ⟨NewI.nil _ _, .inl ⟨rfl, rfl⟩⟩
theorem RoundPost.new {l : List Int} {w w0 w' : World} {v : Value} (h : OwnI w' w.heap.size v l) (hn : l = [] → v = .slice none 0 0) (hs : w0.heap.size ≤ w.heap.size) : NewN w0 w' v l := by
  refine ⟨h.new.from hs, ?_⟩
  by_cases e : l = []
  · exact .inl ⟨e, hn e⟩
  · obtain ⟨g, c, rfl, h1, h2, h3, h4⟩ := OwnI.last h e
    exact .inr ⟨e, g, c, rfl⟩

def CirclePost (l : List Int) (w : World) (e : Ending) (w' : World) : Prop := ∃ v, e = .returned (.tuple #[v, .bool (!l.isEmpty)]) ∧ NewN w w' v l ∧ Kept w w'

set_option maxHeartbeats 400000 in
theorem Circle_any (o : Prob) (ao bo : Option Addr) (ca cb : Nat) (w : World) (ho : IsProb w o ao bo) :
    Calls Try.prog 34 #[probV o ao ca bo cb] w (CirclePost (circleL o) w) := by
  have HO := Lib.hid ho
  clear ho
  by_cases h : chk o = 0
  · have hr : circleL o = circlePart (webOf o) (webOf o).n := by unfold circleL; rw [if_pos h]
    rw [hr]
    have H := Lib.hid h
    have hn := webOf_n h
    clear hr h
    go_enter Try.func34, Try.ntmps34
    go_wp2_with fail
    obtain ⟨w0, e0, hk0, hb0, -⟩ := alloc_prob w o.N o.arcs o.near ao ca bo cb
    rw [e0]
    clear e0
    have HK0 := Lib.hid hk0
    clear hk0 hb0
    refine (open_ok o ao bo ca cb w0 (HO.out.kept HK0.out) H.out).mono ?_
    rintro e w1 ⟨b, rfl, hw1, hk1⟩
    have HW1 := Lib.hid hw1
    have HK1 := Lib.hid (HK0.out.trans hk1)
    have hwn := hw1.n
    clear hw1 hk1
    generalize webOf o = W at *
    go_wp2
    go_loopg [6, 20] W.n (fun j out x wr => ∃ i : Nat, i + j = W.n ∧ x = .int .i64 (i : Int) ∧ NewN w wr out (circlePart W i) ∧ Kept w wr ∧ WebAt wr b W)
    case atStart => exact ⟨0, by omega, rfl, NewN.nil _ _, HK1.out, HW1.out⟩
    case round =>
      obtain ⟨i, hij, rfl, hout, hk, hw⟩ := hrel
      have HIJ := Lib.hid hij
      have HOUT := Lib.hid hout
      have HK := Lib.hid hk
      have HW := Lib.hid hw
      clear hij hout hk hw hwn
      by_cases hlt : i < W.n
      · have hlti : (i : Int) < W.n := by omega
        go_wp2_with fail
        refine (round_any b W i wr HW.out hn hlt).mono ?_
        rintro e w2 ⟨v, rfl, hown, hnil, hk2⟩
        have HN := Lib.hid (RoundPost.new hown hnil HK.out.size)
        have HK2 := Lib.hid hk2
        have HS := Lib.hid (circlePart_succ W i)
        clear hown hnil hk2
        unfold circleStep at HS
        have hO2 := HOUT.out.kept HK2.out
        have hN2 := HN.out
        clear HOUT HN
        generalize roundOf W i = l2 at *
        generalize circlePart W i = l1 at *
        rcases hN2 with ⟨hN2, ⟨rfl, rfl⟩ | ⟨hne2, g2, c2, rfl⟩⟩
        · have HO2 := Lib.hid hO2
          clear hO2
          go_wp2
          go_roundg (gk - 1)
          case measure => have := HIJ.out; omega
          case rel =>
            have := HIJ.out
            refine ⟨i + 1, by omega, by go_num, ?_, HK.out.trans HK2.out, HW.out.kept HK2.out⟩
            rw [HS.out, if_neg (fun h => h.1 rfl)]
            exact HO2.out
        · have hnew : NewN w w2 (.slice (some ⟨g2, 0, none⟩) l2.length c2) l2 := ⟨hN2, .inr ⟨hne2, g2, c2, rfl⟩⟩
          have HNEW := Lib.hid hnew
          have HNE := Lib.hid hne2
          clear hnew hne2 hN2
          rcases hO2 with ⟨hO2, ⟨rfl, rfl⟩ | ⟨hne1, g1, c1, rfl⟩⟩
          · go_wp2
            go_roundg (gk - 1)
            case measure => have := HIJ.out; omega
            case rel =>
              have := HIJ.out
              refine ⟨i + 1, by omega, by go_num, ?_, HK.out.trans HK2.out, HW.out.kept HK2.out⟩
              rw [HS.out, if_pos ⟨HNE.out, by simp⟩]
              exact HNEW.out
          · have hnew : NewN w w2 (.slice (some ⟨g1, 0, none⟩) l1.length c1) l1 := ⟨hO2, .inr ⟨hne1, g1, c1, rfl⟩⟩
            have HOLD := Lib.hid hnew
            have HNE1 := Lib.hid hne1
            clear hnew hne1 hO2
            by_cases hl : l2.length < l1.length
            · have HL := Lib.hid hl
              go_wp2
              go_roundg (gk - 1)
              case measure => have := HIJ.out; omega
              case rel =>
                have := HIJ.out
                refine ⟨i + 1, by omega, by go_num, ?_, HK.out.trans HK2.out, HW.out.kept HK2.out⟩
                rw [HS.out, if_pos ⟨HNE.out, .inr HL.out⟩]
                exact HNEW.out
            · have HL := Lib.hid hl
              go_wp2
              go_roundg (gk - 1)
              case measure => have := HIJ.out; omega
              case rel =>
                have := HIJ.out
                refine ⟨i + 1, by omega, by go_num, ?_, HK.out.trans HK2.out, HW.out.kept HK2.out⟩
                rw [HS.out, if_neg (fun h => h.2.elim HNE1.out HL.out)]
                exact HOLD.out
      · have e : i = W.n := by have := HIJ.out; omega
        subst e
        have hO2 := HOUT.out
        clear HOUT
        generalize circlePart W W.n = l1 at *
        rcases hO2 with ⟨hO2, ⟨rfl, rfl⟩ | ⟨hne1, g1, c1, rfl⟩⟩
        · go_wp2
          go_ret2
          exact ⟨_, rfl, NewN.nil _ _, HK.out⟩
        · have hnew : NewN w wr (.slice (some ⟨g1, 0, none⟩) l1.length c1) l1 := ⟨hO2, .inr ⟨hne1, g1, c1, rfl⟩⟩
          have HOLD := Lib.hid hnew
          have he : (!l1.isEmpty) = true := by simp [hne1]
          clear hnew hne1 hO2
          go_wp2
          go_ret2
          exact ⟨.slice (some ⟨g1, 0, none⟩) l1.length c1, by rw [he]; rfl, HOLD.out, HK.out⟩
  · have hr : circleL o = [] := by unfold circleL; rw [if_neg h]
    rw [hr]
    have H := Lib.hid h
    have hb : (chk o != 0) = true := by simp [h]
    clear hr h
    go_enter Try.func34, Try.ntmps34
    go_wp2_with fail
    obtain ⟨w0, e0, hk0, hb0, -⟩ := alloc_prob w o.N o.arcs o.near ao ca bo cb
    rw [e0]
    clear e0
    have HK0 := Lib.hid hk0
    clear hk0 hb0
    refine (open_bad o ao bo ca cb w0 (HO.out.kept HK0.out) H.out).mono ?_
    rintro e w1 ⟨rfl, hk1⟩
    have HK1 := Lib.hid (HK0.out.trans hk1)
    clear hk1
    go_wp2
    go_ret2
    exact ⟨_, rfl, NewN.nil _ _, HK1.out⟩

end Go.Proofs.Yteljjkghjbofnaa
