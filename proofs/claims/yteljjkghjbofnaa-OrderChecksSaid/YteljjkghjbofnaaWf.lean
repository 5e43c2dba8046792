/- The iterator 'ready': which patches may come next; its contract for whatever loop ranges over it. -/
import Derived.Test.YteljjkghjbofnaaWe
import Derived.RangeFuncNested
import Derived.RangeFuncBound
import Derived.RangeFuncCalls
import Derived.RangeFuncLeaves
import Derived.Shelf.Abstract
import Derived.Shelf.RegionOpen
import Derived.OwnWalkIn
import Derived.TacticsInMore
import Derived.LoopNIn
import Derived.LoopIn
set_option maxRecDepth 100000
namespace Go.Proofs.Yteljjkghjbofnaa
open Go Go.Proofs Go.RowKit
attribute [local go_sem] Oper.semAt_some

def readyB (W : Web) (d : S) (p : Nat) : Bool := !hasS d p && (List.range W.n).all fun a => !hasS (W.to a) p || hasS d a
/-- The patches that may come next when d are done. -/
def readyL (W : Web) (d : S) : List Nat := (List.range W.n).filter (readyB W d)

abbrev Rdy (W : Web) (d : S) := { p : Nat // p ∈ readyL W d }

/-- What the iterator reads. -/
structure Stat (c1 c2 b : Nat) (W : Web) (d : S) (X : World) : Prop where
  c1 : X.cell? ⟨c1, 0, none⟩ = some (.pointer (some ⟨b, 0, none⟩))
  c2 : X.cell? ⟨c2, 0, none⟩ = some (.int .u32 (sI d))
  web : WebAt X b W

theorem Stat.kept {c1 c2 b : Nat} {W : Web} {d : S} {X Y : World} (h : Stat c1 c2 b W d X) (hk : Kept X Y) : Stat c1 c2 b W d Y :=
  ⟨hk.cell h.c1, hk.cell h.c2, h.web.kept hk⟩

theorem readyL_part (W : Web) (d : S) (k : Nat) (hk : k ≤ W.n) : (List.range k).filter (readyB W d) <+: readyL W d := by
  unfold readyL
  have e : List.range W.n = List.range k ++ (List.range (W.n - k)).map (k + ·) := by rw [← List.range_add]; congr 1; omega
  rw [e, List.filter_append]
  exact List.prefix_append _ _
theorem filter_range_succ (p : Nat → Bool) (k : Nat) : (List.range (k + 1)).filter p = (List.range k).filter p ++ (if p k then [k] else []) := by
  rw [List.range_succ, List.filter_append]
  by_cases h : p k <;> simp [h]
theorem mem_readyL {W : Web} {d : S} {k : Nat} : k ∈ readyL W d ↔ k < W.n ∧ readyB W d k = true := by simp [readyL]

theorem all_range_succ (p : Nat → Bool) (k : Nat) : (List.range (k + 1)).all p = ((List.range k).all p && p k) := by simp [List.range_succ, List.all_append]

set_option maxHeartbeats 2000000 in
theorem ready1_in (n l c1 c2 b : Nat) (W : Web) (d : S) (hn : W.n ≤ 24) (h1 : 1 ≤ n) (J Jx : List (Rdy W d) → World → Prop)
    (hY : ∀ pre x X, J pre X → pre.length < (readyL W d).length → YieldAt Fence.wide (n - 1) Try.prog l #[.int .i64 x.val] X fun e Y =>
      (e = .returned (.bool true) ∧ J (pre ++ [x]) Y ∧ (Stat c1 c2 b W d X → Stat c1 c2 b W d Y)) ∨ (e = .returned (.bool false) ∧ Jx (pre ++ [x]) Y))
    (X : World) (hS : Stat c1 c2 b W d X) (h0 : J [] X) :
    CallsIn Fence.wide n Try.prog 146 #[.func (.yield l) #[] #[], .pointer (some ⟨c1, 0, none⟩), .pointer (some ⟨c2, 0, none⟩)] X fun e Y => (∃ v, e = .returned v) ∧
      ((∃ ys, ys.map Subtype.val = readyL W d ∧ J ys Y) ∨ (∃ pre, pre.map Subtype.val <+: readyL W d ∧ Jx pre Y)) := by
  have HS := Lib.hid hS
  have HY := Lib.hid hY
  obtain ⟨q1, q2, q3⟩ := hS
  have q4 := q3.n
  clear hY q3
  refine callsIn_of_wp Try.func146 rfl trivial ?_ rfl
  simp only [Try.ntmps146, List.size_toArray, List.length_cons, List.length_nil, Nat.reduceAdd, Nat.reduceSub, Array.replicate_succ, Array.replicate_zero, List.push_toArray, List.append_toArray, List.nil_append, List.cons_append]
  have hwf : ∀ f : FuncId, Fence.wide.fn f := fun _ => trivial
  gi_wp2
  gi_loopw [11] (fun i wr => ∃ k : Nat, k ≤ W.n ∧ i = .int .i64 k ∧ Stat c1 c2 b W d wr ∧ ∃ pre : List (Rdy W d), pre.map Subtype.val = (List.range k).filter (readyB W d) ∧ J pre wr) (fun i _ => W.n - (intOf i).toNat)
  case atStart => exact ⟨0, Nat.zero_le _, rfl, HS.out, [], rfl, h0⟩
  case round =>
    clear h0 q1 q2 q4 HS
    obtain ⟨k, hk, rfl, hst, pre, hpre, hJ⟩ := hrel
    have HS := Lib.hid hst
    have HJ := Lib.hid hJ
    have HPRE := Lib.hid hpre
    obtain ⟨q1, q2, q3⟩ := hst
    have q4 := q3.n
    clear q3 hJ hpre
    by_cases hlt : k < W.n
    · have hk32 : k < 32 := by omega
      gi_wp2_with fail
      refine (callsIn_wide.2 (has_any d k _ hk32)).mono ?_
      rintro e w2 ⟨rfl, rfl⟩
      cases hh : hasS d k
      all_goals
        have HH := Lib.hid hh
        clear hh
      · gi_wp2_with fail
        gi_loop [5, 21] (fun f i => ∃ a : Nat, a ≤ W.n ∧ i = .int .i64 a ∧ f = .bool ((List.range a).all fun a => !hasS (W.to a) k || hasS d a)) (fun _ i => W.n - (intOf i).toNat)
        case atStart => exact ⟨0, Nat.zero_le _, rfl, rfl⟩
        case round =>
          obtain ⟨a, ha, rfl, rfl⟩ := hrel
          cases hall : (List.range a).all fun a => !hasS (W.to a) k || hasS d a
          all_goals
            have HALL := Lib.hid hall
            clear hall
          all_goals by_cases hlta : a < W.n
          · gi_wp2
            all_goals first
              | (exfalso; rename_i h1 _; clear HY HS HJ; simp [undef] at h1; done)
              | (exfalso; rename_i h1 _ _; clear HY HS HJ; simp [undef] at h1; done)
              | (refine ⟨⟨a + 1, by omega, by go_num, by rw [all_range_succ, HALL.out]; rfl⟩, ?_⟩; simp [intOf]; omega)
          · have ea : a = W.n := by omega
            rw [ea] at HALL
            clear ea
            gi_wp2
            go_roundw
            case rel =>
              refine ⟨k + 1, by omega, by go_num, HS.out, pre, ?_, HJ.out⟩
              rw [filter_range_succ, HPRE.out, if_neg (by unfold readyB; rw [HALL.out]; simp), List.append_nil]
            case measure => simp [intOf]; omega
          · have ha24 : (a : Int) < 24 := by omega
            have ha32 : a < 32 := by omega
            have hto := HS.out.web.to a (by omega)
            gi_wp2_with fail
            refine (callsIn_wide.2 (has_any (W.to a) k _ hk32)).mono ?_
            rintro e w2 ⟨rfl, rfl⟩
            cases ht : hasS (W.to a) k
            all_goals
              have HT := Lib.hid ht
              clear ht
            · gi_wp2
              go_round
              case rel => exact ⟨a + 1, by omega, by go_num, by rw [all_range_succ, HALL.out, HT.out]; rfl⟩
              case measure => simp [intOf]; omega
            · gi_wp2_with fail
              refine (callsIn_wide.2 (has_any d a _ ha32)).mono ?_
              rintro e w2 ⟨rfl, rfl⟩
              gi_wp2
              go_round
              case rel => exact ⟨a + 1, by omega, by go_num, by rw [all_range_succ, HALL.out, HT.out]; rfl⟩
              case measure => simp [intOf]; omega
          · have ea : a = W.n := by omega
            rw [ea] at HALL
            clear ea
            have hrk : readyB W d k = true := by unfold readyB; rw [HALL.out, HH.out]; rfl
            have hlen : pre.length < (readyL W d).length := by
              have h1 := (readyL_part W d (k + 1) (by omega)).length_le
              have h2 := congrArg List.length HPRE.out
              rw [filter_range_succ, if_pos hrk] at h1
              simp at h1 h2
              omega
            obtain ⟨x, hx⟩ : ∃ x : Rdy W d, x.val = k := ⟨⟨k, mem_readyL.2 ⟨hlt, hrk⟩⟩, rfl⟩
            obtain ⟨fn, tmps, assign, body, hy, hR⟩ := HY.out pre x wr HJ.out hlen
            rw [hx] at hy
            have HX := Lib.hid hx
            have HRK := Lib.hid hrk
            have HR := Lib.hid hR
            clear hrk hR hx hlen
            gi_wp2
            refine HR.out.mono ?_
            have HPX : Hid ((pre ++ [x]).map Subtype.val = (List.range (k + 1)).filter (readyB W d)) := by
              show _ = _
              rw [filter_range_succ, if_pos HRK.out, List.map_append, HPRE.out]; simp [HX.out]
            rintro e Y (⟨rfl, hJ', hst'⟩ | ⟨rfl, hJx'⟩)
            · have HS' := Lib.hid (hst' HS.out)
              have HJ' := Lib.hid hJ'
              clear hst' hJ' hy HY q1 q2 q4
              gi_wp2
              go_roundw
              case rel => exact ⟨k + 1, by omega, by go_num, HS'.out, pre ++ [x], HPX.out, HJ'.out⟩
              case measure => simp [intOf]; omega
            · have HJ' := Lib.hid hJx'
              clear hJx' hy HY q1 q2 q4
              gi_wp2
              refine bodyPost_ret (results_none rfl _ _ _) rfl ?_
              exact ⟨⟨_, rfl⟩, .inr ⟨pre ++ [x], HPX.out ▸ readyL_part W d (k + 1) (by omega), HJ'.out⟩⟩
      · gi_wp2
        go_roundw
        case rel =>
          refine ⟨k + 1, by omega, by go_num, HS.out, pre, ?_, HJ.out⟩
          rw [filter_range_succ, HPRE.out, if_neg (by unfold readyB; rw [HH.out]; simp), List.append_nil]
        case measure => simp [intOf]; omega
    · have ek : k = W.n := by omega
      rw [ek] at HPRE
      clear ek
      gi_wp2
      go_end0
      exact ⟨⟨_, rfl⟩, .inl ⟨pre, HPRE.out, HJ.out⟩⟩

end Go.Proofs.Yteljjkghjbofnaa
