/- faces.Build: words. -/
import Derived.Test.YtlglfcdobbocnaaGreatYb
set_option maxRecDepth 100000
namespace Go.Proofs.YtlglfcdobbocnaaGreat
open Go Go.Proofs Go.RowKit
/-- Behind ao lie segments. -/
def Sgs (w : World) (ao : Option Addr) (l : List Sg) : Prop :=
  ∀ i, (h : i < l.length) → ∃ b off, ao = some ⟨b, off, none⟩ ∧ w.cell? ⟨b, off + i * 4, none⟩ = some (.int .i64 l[i].1.1) ∧ w.cell? ⟨b, off + i * 4 + 1, none⟩ = some (.int .i64 l[i].1.2) ∧ w.cell? ⟨b, off + i * 4 + 2, none⟩ = some (.int .i64 l[i].2.1) ∧ w.cell? ⟨b, off + i * 4 + 3, none⟩ = some (.int .i64 l[i].2.2)
theorem Sgs.kept {w X : World} {ao : Option Addr} {l : List Sg} (h : Sgs w ao l) (hk : Kept w X) : Sgs X ao l := fun i hi => by
  obtain ⟨b, off, e, c0, c1, c2, c3⟩ := h i hi
  exact ⟨b, off, e, hk.cell c0, hk.cell c1, hk.cell c2, hk.cell c3⟩
/-- The parts of a wall, and of lines. -/
def prtW (wall : List Pt) (i : Nat) : Prt := partF (edgeF wall i) (-1) (-1)
def prtL (lines : List Sg) (i : Nat) : Prt := partF (sgAt lines i) i (-1)
def prtsW (wall : List Pt) : List Prt := (List.range wall.length).map (prtW wall)
def prtsN (lines : List Sg) : List Prt := (List.range lines.length).map (prtL lines)
def prtsB (wall : List Pt) (lines : List Sg) : List Prt := prtsW wall ++ prtsN lines
theorem prtsW_len (wall : List Pt) : (prtsW wall).length = wall.length := by unfold prtsW; simp
theorem prtsN_len (lines : List Sg) : (prtsN lines).length = lines.length := by unfold prtsN; simp
theorem prtsB_len (wall : List Pt) (lines : List Sg) : (prtsB wall lines).length = wall.length + lines.length := by unfold prtsB; rw [List.length_append, prtsW_len, prtsN_len]
theorem prtsW_take {wall : List Pt} {k : Nat} (h : k < wall.length) : (prtsW wall).take (k + 1) = (prtsW wall).take k ++ [prtW wall k] := by
  rw [List.take_succ_eq_append_getElem (by rw [prtsW_len]; exact h)]
  simp only [prtsW, List.getElem_map, List.getElem_range]
theorem prtsN_take {lines : List Sg} {k : Nat} (h : k < lines.length) : (prtsN lines).take (k + 1) = (prtsN lines).take k ++ [prtL lines k] := by
  rw [List.take_succ_eq_append_getElem (by rw [prtsN_len]; exact h)]
  simp only [prtsN, List.getElem_map, List.getElem_range]
theorem segs_build (wall : List Pt) (lines : List Sg) : segsL (prtsB wall lines) = buildS wall lines := by
  unfold segsL prtsB buildS
  rw [List.map_append]
  congr 1
  · unfold prtsW wallS
    rw [List.map_map]
    rfl
  · unfold prtsN
    rw [List.map_map]
    apply List.ext_getElem
    · simp
    · intro i h1 h2
      have hi : i < lines.length := by simpa using h2
      simp only [List.getElem_map, List.getElem_range]
      show endsF (sgAt lines i) = _
      rw [sgAt_get hi]
/-- A part cut. -/
def cutP (l : List Pt) (p : Prt) : List Prt := (cutF p.s l).map fun s => ⟨s, p.line, p.src⟩
def cutsP (L : List Prt) (l : List Pt) : List Prt := L.flatMap (cutP l)
theorem cutP_len (l : List Pt) (p : Prt) : (cutP l p).length ≤ l.length + 1 := by
  unfold cutP
  rw [List.length_map]
  exact cutF_len _ _
theorem cutsP_len (l : List Pt) : ∀ L : List Prt, (cutsP L l).length ≤ L.length * (l.length + 1)
  | [] => by simp [cutsP]
  | p :: L => by
    have h1 := cutsP_len l L
    have h2 := cutP_len l p
    unfold cutsP at *
    rw [List.flatMap_cons, List.length_append, List.length_cons, Nat.add_mul, Nat.one_mul]
    omega
theorem segs_cuts (l : List Pt) : ∀ L : List Prt, segsL (cutsP L l) = (segsL L).flatMap fun s => cutF s l
  | [] => rfl
  | p :: L => by
    have h1 := segs_cuts l L
    unfold cutsP segsL at *
    rw [List.flatMap_cons, List.map_append, h1, List.map_cons, List.flatMap_cons]
    congr 1
    unfold cutP
    rw [List.map_map]
    exact List.map_id _
theorem segs_cutB (wall : List Pt) (lines : List Sg) : segsL (cutsP (prtsB wall lines) (endsS (buildS wall lines))) = cutB wall lines := by
  rw [segs_cuts, segs_build]
  rfl
theorem cutsP_take {L : List Prt} {l : List Pt} {k : Nat} (h : k < L.length) : cutsP (L.take (k + 1)) l = cutsP (L.take k) l ++ cutP l L[k] := by
  rw [List.take_succ_eq_append_getElem h]
  unfold cutsP
  rw [List.flatMap_append]
  simp
/-- The lines of parts. -/
def LineOk (p : Prt) : Prop := -1 ≤ p.line ∧ p.line < 200
theorem prtsB_line {wall : List Pt} {lines : List Sg} (h : lines.length ≤ 200) : ∀ p ∈ prtsB wall lines, LineOk p := by
  intro p hp
  unfold prtsB at hp
  rcases List.mem_append.1 hp with hp | hp
  · unfold prtsW at hp
    obtain ⟨i, -, rfl⟩ := List.mem_map.1 hp
    exact ⟨by show (-1 : Int) ≤ -1; decide, by show (-1 : Int) < 200; decide⟩
  · unfold prtsN at hp
    obtain ⟨i, hi, rfl⟩ := List.mem_map.1 hp
    have hi := List.mem_range.1 hi
    show -1 ≤ (i : Int) ∧ (i : Int) < 200
    omega
theorem cutsP_line {L : List Prt} (l : List Pt) (h : ∀ p ∈ L, LineOk p) : ∀ p ∈ cutsP L l, LineOk p := by
  intro p hp
  unfold cutsP at hp
  obtain ⟨q, hq, hp⟩ := List.mem_flatMap.1 hp
  unfold cutP at hp
  obtain ⟨s, -, rfl⟩ := List.mem_map.1 hp
  exact h q hq
theorem pts_ok {S : List Sg} (h : CutOk S) (hok : ∀ s ∈ S, okB s.1 = true ∧ okB s.2 = true) : ∀ x ∈ ptsF (cutsS S), okB x = true := by
  intro x hx
  unfold ptsF at hx
  rw [uniP_mem, mem_endsS] at hx
  obtain ⟨i, hi, hx⟩ := hx
  obtain ⟨i', hi', j, hj', e'⟩ := mem_cutsS.1 (sgAt_mem hi)
  have hq : ∀ j, j ≤ cutR S i' → okB (cutQ S i' j) = true := by
    intro j hj
    obtain ⟨i2, hi2, hz⟩ := h.cut.qend i' hi' j hj
    have := hok _ (sgAt_mem hi2)
    rcases hz with hz | hz <;> rw [hz]
    · exact this.1
    · exact this.2
  rw [e'] at hx
  rcases hx with rfl | rfl
  · exact hq _ (by omega)
  · exact hq _ (by omega)
theorem Given.oks {wall : List Pt} {lines : List Sg} (h : Given wall lines) : ∀ s ∈ buildS wall lines, okB s.1 = true ∧ okB s.2 = true := fun s hs => by
  obtain ⟨i, hi, rfl⟩ := List.mem_iff_getElem.1 hs
  rw [← sgAt_get hi]
  exact h.ok hi
/-- What is put together opens. -/
theorem Built.listed {wall : List Pt} {lines : List Sg} (h : Built wall lines) {L : List Prt} (hL : segsL L = cutB wall lines) (hl : ∀ p ∈ L, LineOk p) :
    Listed (ptsB wall lines) (edgB wall lines) (asmEds L (fcsF (ptsB wall lines) (edgB wall lines))) (ptsB wall lines).length L.length (numE (ptsB wall lines) (edgB wall lines) (2 * L.length)).many ∧
    Opening (ptsB wall lines) (edgB wall lines) (asmEds L (fcsF (ptsB wall lines) (edgB wall lines))) L.length (numE (ptsB wall lines) (edgB wall lines) (2 * L.length)).many := by
  have hlen : (cutB wall lines).length = L.length := by rw [← hL, segsL_len]
  have hel : (edgB wall lines).length = L.length := by unfold edgB; rw [edgesF_len, hlen]
  have hj := h.joined
  have hcut := h.given.cutOk
  have hs := h.sound
  have hget : ∀ i, i < L.length → (asmEds L (fcsF (ptsB wall lines) (edgB wall lines))).getD i (0, 0, 0, 0, 0) = asmEd L (fcsF (ptsB wall lines) (edgB wall lines)) i := fun i hi => by
    rw [List.getD_eq_getElem?_getD, List.getElem?_eq_getElem (by rw [asmEds_len]; exact hi), Option.getD_some, asmEds_at]
  refine ⟨⟨hj.points, by rw [← hlen]; exact hj.three, by rw [← hlen]; exact hj.few, ?_, ?_, hs.ok, fun i hi => strict_cmp hs.laid.strict hi, fun i hi => edges_up hcut (by rw [← hel] at hi; exact hi), fun i hi => ?_, fun i hi => edges_rise hcut.nodup (by rw [← hel] at hi; exact hi), fun p hp => ?_⟩,
    ⟨fun i k hki hi => edges_meet hcut (by rw [← hel] at hi; exact hi) (by rw [← hel] at hi; exact Nat.lt_trans hki hi) (by omega), ⟨by rw [hel, ← hlen]; exact hj.few, fun d hd => hs.laid.tail hd⟩, hs.laid, hs.reach, hs.outside, hs.flat, by rw [hel], fun i hi => by rw [hget i hi]; rfl, fun i hi => by rw [hget i hi]; rfl⟩⟩
  · have := hj.many
    rw [hlen] at this
    exact Int.ofNat_le.2 this
  · have := hj.faces
    rw [hlen] at this
    exact Int.ofNat_le.2 this
  · rw [hget i hi]
    have ho : ordAt (segsL L) i < L.length := by rw [← segsL_len]; exact ordAt_lt (by rw [segsL_len]; exact hi)
    show -1 ≤ (L.map Prt.line).getD (ordAt (segsL L) i) 0 ∧ (L.map Prt.line).getD (ordAt (segsL L) i) 0 < 200
    rw [List.getD_eq_getElem?_getD, List.getElem?_map, List.getElem?_eq_getElem ho]
    exact hl _ (List.getElem_mem ho)
  · obtain ⟨i, hi, e⟩ := edges_used (T := cutB wall lines) hp
    exact ⟨i, by rw [← hel]; exact hi, e⟩
theorem OwnG.flat {α : Type} {X : World} {base e size g c n : Nat} {cs : α → List Value} {l : List α} (h : OwnG X base e size cs (.slice (some ⟨g, 0, none⟩) n c) l) (j : Nat) (u : Value) (hu : (l.flatMap cs)[j]? = some u) : X.cell? ⟨g, 0 + j, none⟩ = some u := by
  obtain ⟨cur, rfl, hb, hh, hn, hm, hs, ht⟩ := OwnG.parts h
  rw [← ht] at hu
  have hj : j < (cur.toList.take (l.length * size)).length := (List.getElem?_eq_some_iff.1 hu).1
  rw [List.length_take] at hj
  rw [List.getElem?_take_of_lt (by omega)] at hu
  rw [Nat.zero_add]
  simp only [World.cell?, hh]
  simpa using hu
theorem cutP_pos (l : List Pt) (p : Prt) : 0 < (cutP l p).length := by
  unfold cutP cutF stopsC
  rw [List.length_map, chainS_len, List.length_append, List.length_singleton]
  omega
theorem Given.okE {wall : List Pt} {lines : List Sg} (h : Given wall lines) : ∀ x ∈ endsS (buildS wall lines), okB x = true := fun x hx => by
  rw [mem_endsS] at hx
  obtain ⟨i, hi, hx⟩ := hx
  rcases hx with rfl | rfl
  · exact (h.ok hi).1
  · exact (h.ok hi).2
theorem Given.okG {wall : List Pt} {lines : List Sg} (h : Given wall lines) {i : Nat} (hi : i < (buildS wall lines).length) : okS (sgAt (buildS wall lines) i) = true := by
  rw [okS_iff]
  exact ⟨(h.ok hi).1, (h.ok hi).2, fun e => ltP_irrefl _ (by have := h.lt hi; rw [e] at this; exact this)⟩
theorem Sty.fives {k : Nat} {w X : World} (h : Sty k w X) {ao : Option Addr} {l : List Five} (hp : Fives w ao l) (hn : ∀ x, ao = some x → x.block ≠ k) : Fives X ao l := fun i hi => by
  obtain ⟨b, off, rfl, c0, c1, c2, c3, c4⟩ := hp i hi
  have hb := hn _ rfl
  exact ⟨b, off, rfl, h.cell _ _ _ hb c0, h.cell _ _ _ hb c1, h.cell _ _ _ hb c2, h.cell _ _ _ hb c3, h.cell _ _ _ hb c4⟩
end Go.Proofs.YtlglfcdobbocnaaGreat
