/- Whose a cell is: the model, ref.owner. -/
import Derived.Test.YteljjkghjbofnaaPd
set_option maxRecDepth 100000
namespace Go.Proofs.Yteljjkghjbofnaa
open Go Go.Proofs Go.RowKit
attribute [local go_sem] Oper.semAt_some

/-- The patch p, as often as the cell c is in its list. -/
def ow1 (p : Nat) (c : Int) (l : List Int) : List Int := (l.filter fun x => decide (x = c)).map fun _ => (p : Int)
/-- The patches below i that have the cell c, with repetitions. -/
def owP (chs : List (List Int)) (c : Int) : Nat → List Int
  | 0 => []
  | i + 1 => owP chs c i ++ ow1 i c (chs.getD i [])
def lastO (l : List Int) : Int := l.getLast?.getD (-1)
/-- The only patch that has a cell, once; -1 if there is no such one. -/
def ownR (chs : List (List Int)) (c : Int) : Int := if (owP chs c chs.length).length = 1 then lastO (owP chs c chs.length) else -1
theorem ow1_yes {p k : Nat} {c : Int} {l : List Int} (hk : k < l.length) (h : l[k] = c) : ow1 p c (l.take (k + 1)) = ow1 p c (l.take k) ++ [(p : Int)] := by
  unfold ow1
  rw [List.take_succ_eq_append_getElem hk, List.filter_append, List.map_append, h]
  simp
theorem ow1_no {p k : Nat} {c : Int} {l : List Int} (hk : k < l.length) (h : ¬ l[k] = c) : ow1 p c (l.take (k + 1)) = ow1 p c (l.take k) := by
  unfold ow1
  rw [List.take_succ_eq_append_getElem hk, List.filter_append, List.map_append]
  simp [h]
theorem ow1_len (p : Nat) (c : Int) (l : List Int) : (ow1 p c l).length ≤ l.length := by
  unfold ow1
  rw [List.length_map]
  exact List.length_filter_le _ _
theorem owP_len (chs : List (List Int)) (c : Int) : ∀ i, i ≤ chs.length → (owP chs c i).length ≤ (chs.take i).flatten.length
  | 0, _ => by simp [owP]
  | i + 1, h => by
    have h1 := owP_len chs c i (by omega)
    have h2 := ow1_len i c (chs.getD i [])
    have e : chs.getD i [] = chs[i] := by rw [List.getD_eq_getElem?_getD, List.getElem?_eq_getElem (by omega)]; rfl
    rw [e] at h2
    rw [flat_len_succ (by omega)]
    show (owP chs c i ++ ow1 i c (chs.getD i [])).length ≤ _
    rw [List.length_append, e]
    omega
theorem owP_succ {chs : List (List Int)} {c : Int} {i : Nat} (h : i < chs.length) : owP chs c (i + 1) = owP chs c i ++ ow1 i c chs[i] := by
  show owP chs c i ++ ow1 i c (chs.getD i []) = _
  rw [List.getD_eq_getElem?_getD, List.getElem?_eq_getElem h]
  rfl
theorem lastO_snoc (l : List Int) (x : Int) : lastO (l ++ [x]) = x := by simp [lastO]
theorem flat_take_le {chs : List (List Int)} (i : Nat) : (chs.take i).flatten.length ≤ chs.flatten.length := by
  have : chs.flatten = (chs.take i).flatten ++ (chs.drop i).flatten := by rw [← List.flatten_append, List.take_append_drop]
  rw [this, List.length_append]
  omega

theorem chs_at {X : World} {co : Option Addr} {chs : List (List Int)} (h : Chs X co chs) {k : Nat} (hk : k < chs.length) : ∃ B off la lc, co = some ⟨B, off, none⟩ ∧ X.cell? ⟨B, off + k, none⟩ = some (.slice la chs[k].length lc) ∧ Ints X la chs[k] := by
  obtain ⟨B, off, la, lc, e, h1, h2, -, -⟩ := h k hk
  exact ⟨B, off, la, lc, e, h1, h2⟩

set_option maxHeartbeats 2000000 in
theorem Rowner_any (chs : List (List Int)) (co : Option Addr) (cc : Nat) (c : Int) (w : World) (hc : Chs w co chs) (hl : chs.length ≤ 60) (hf : chs.flatten.length ≤ 200) :
    Calls Try.prog 133 #[.agg #[.slice co chs.length cc], .int .i64 c] w (Gives (.int .i64 (ownR chs c)) w) := by
  have HC := Lib.hid hc
  have HB : Hid (∀ i k, (h : i < chs.length) → (owP chs c i ++ ow1 i c (chs[i].take k)).length ≤ 200) := Lib.hid fun i k h => by
    have h1 := owP_len chs c i (by omega)
    have h2 := ow1_len i c (chs[i].take k)
    have h3 := List.length_take_le' k chs[i]
    have h4 := flat_take_le (chs := chs) (i + 1)
    rw [flat_len_succ h] at h4
    rw [List.length_append]
    omega
  have HBE : Hid (∀ i, i ≤ chs.length → (owP chs c i).length ≤ 200) := Lib.hid fun i h => by
    have h1 := owP_len chs c i h
    have h4 := flat_take_le (chs := chs) i
    omega
  have HCL : Hid (∀ i, (h : i < chs.length) → chs[i].length ≤ 200) := Lib.hid fun i h => by
    have h4 := flat_take_le (chs := chs) (i + 1)
    rw [flat_len_succ h] at h4
    omega
  obtain ⟨R, hR⟩ : ∃ R, ownR chs c = R := ⟨_, rfl⟩
  rw [hR]
  have HR := Lib.hid hR
  clear hc hf hR
  go_enter Try.func133, Try.ntmps133
  go_wp2_with fail
  obtain ⟨w0, e0⟩ : ∃ x, w.alloc (.cells #[.slice co chs.length cc] 77) = x := ⟨_, rfl⟩
  rw [e0]
  have hk0 : Kept w w0 := by rw [← e0]; exact (Kept.refl _).alloc _
  have hb0 : w0.cell? ⟨w.heap.size, 0, none⟩ = some (.slice co chs.length cc) := by
    rw [← e0]
    have hh := heap_alloc_new w (.cells #[.slice co chs.length cc] 77)
    unfold World.cell?
    simp only []
    rw [hh]
    rfl
  have hbl := lt_of_cell hb0
  have HK := Lib.hid hk0
  obtain ⟨g, hg⟩ : ∃ g, w.heap.size = g := ⟨_, rfl⟩
  rw [hg] at hb0 hbl ⊢
  clear e0 hg hk0
  go_loop [5, 6, 7] (fun av mv iv => ∃ i : Nat, i ≤ chs.length ∧ iv = .int .i64 i ∧ av = .int .i64 (lastO (owP chs c i)) ∧ mv = .int .i64 ((owP chs c i).length : Int)) (fun _ _ iv => chs.length - (intOf iv).toNat)
  case atStart => exact ⟨0, Nat.zero_le _, rfl, rfl, rfl⟩
  case round =>
    obtain ⟨i, hi, rfl, rfl, rfl⟩ := hrel
    by_cases hlt : i < chs.length
    case pos =>
      obtain ⟨B, off, la, lc, rfl, hc, hci⟩ := chs_at (HC.out.kept HK.out) hlt
      have hcb := lt_of_cell hc
      have HCI := Lib.hid hci
      have HBB : Hid (∀ k, (owP chs c i ++ ow1 i c (chs[i].take k)).length ≤ 200) := Lib.hid fun k => HB.out i k hlt
      have HS : Hid (owP chs c (i + 1) = owP chs c i ++ ow1 i c chs[i]) := Lib.hid (owP_succ hlt)
      have HLT : Hid (0 < chs.length - i) := Lib.hid (by omega)
      have hi60 : i < 60 := by omega
      have hcl := HCL.out i hlt
      have hii : (i : Int) < (chs.length : Int) := by omega
      clear hci hi
      generalize chs[i] = ci at *
      obtain ⟨pre, hpre⟩ : ∃ pre, owP chs c i = pre := ⟨_, rfl⟩
      rw [hpre] at HBB HS ⊢
      clear hpre
      go_wp2
      go_loop [5, 6, 8] (fun av mv kv => ∃ k : Nat, k ≤ ci.length ∧ kv = .int .i64 k ∧ av = .int .i64 (lastO (pre ++ ow1 i c (ci.take k))) ∧ mv = .int .i64 ((pre ++ ow1 i c (ci.take k)).length : Int)) (fun _ _ kv => ci.length - (intOf kv).toNat)
      case atStart => exact ⟨0, Nat.zero_le _, rfl, by simp [ow1], by simp [ow1]⟩
      case round =>
        obtain ⟨k, hk, rfl, rfl, rfl⟩ := hrel
        by_cases hkt : k < ci.length
        case pos =>
          obtain ⟨B1, off1, rfl, hcx⟩ := HCI.out k hkt
          have hcxb := lt_of_cell hcx
          obtain ⟨x, hx⟩ : ∃ x, ci[k] = x := ⟨_, rfl⟩
          rw [hx] at hcx
          have HY : Hid (x = c → ow1 i c (ci.take (k + 1)) = ow1 i c (ci.take k) ++ [(i : Int)]) := Lib.hid fun h => ow1_yes hkt (hx.trans h)
          have HN : Hid (¬ x = c → ow1 i c (ci.take (k + 1)) = ow1 i c (ci.take k)) := Lib.hid fun h => ow1_no hkt (by rw [hx]; exact h)
          have HKT : Hid (0 < ci.length - k) := Lib.hid (by omega)
          have hk200 : k < 200 := by omega
          have hki : (k : Int) < (ci.length : Int) := by omega
          have hlen := HBB.out k
          obtain ⟨L, hL⟩ : ∃ L, pre ++ ow1 i c (ci.take k) = L := ⟨_, rfl⟩
          have HL := Lib.hid hL
          rw [hL] at hlen ⊢
          clear hL hx hk
          by_cases hxc : x = c
          case pos =>
            have e1 : (x == c) = true := by simp [hxc]
            have HE : Hid (pre ++ ow1 i c (ci.take (k + 1)) = L ++ [(i : Int)]) := Lib.hid (by rw [HY.out hxc, ← HL.out, List.append_assoc])
            have hmw : wrap64 ((L.length : Int) + 1) = (L.length : Int) + 1 := IntWalk.wrap64_in _ (by omega)
            clear hxc
            go_wp2
            go_round
            case measure => have := HKT.out; simp [intOf] <;> omega
            case rel => exact ⟨k + 1, by have := HKT.out; omega, by go_num, by rw [HE.out, lastO_snoc], by rw [HE.out, List.length_append]; simp⟩
          have e1 : (x == c) = false := by simp [hxc]
          have HE : Hid (pre ++ ow1 i c (ci.take (k + 1)) = L) := Lib.hid (by rw [HN.out hxc]; exact HL.out)
          clear hxc
          go_wp2
          go_round
          case measure => have := HKT.out; simp [intOf] <;> omega
          case rel => exact ⟨k + 1, by have := HKT.out; omega, by go_num, by rw [HE.out], by rw [HE.out]⟩
        obtain rfl : k = ci.length := by omega
        rw [List.take_length] at ⊢
        rw [← HS.out] at ⊢
        clear hk hkt
        go_wp2
        go_round
        case measure => have := HLT.out; simp [intOf] <;> omega
        case rel => exact ⟨i + 1, by have := HLT.out; omega, by go_num, rfl, rfl⟩
    obtain rfl : i = chs.length := by omega
    have hlen := HBE.out chs.length (Nat.le_refl _)
    have HRR : Hid ((if (owP chs c chs.length).length = 1 then lastO (owP chs c chs.length) else -1) = R) := Lib.hid HR.out
    generalize owP chs c chs.length = L at *
    clear hi hlt
    by_cases h1 : L.length = 1
    · have e1 : ((L.length : Int) != 1) = false := by simp; omega
      have e2 : (L.length != 1) = false := by simp; omega
      have HX : Hid (lastO L = R) := Lib.hid (by have h := HRR.out; rw [if_pos h1] at h; exact h)
      clear h1
      go_wp2
      go_ret
      exact ⟨ret_int HX.out, HK.out⟩
    · have e1 : ((L.length : Int) != 1) = true := by simp; omega
      have e2 : (L.length != 1) = true := by simp; omega
      have HX : Hid (-1 = R) := Lib.hid (by have h := HRR.out; rw [if_neg h1] at h; exact h)
      clear h1
      go_wp2
      go_ret
      exact ⟨ret_int HX.out, HK.out⟩
end Go.Proofs.Yteljjkghjbofnaa
