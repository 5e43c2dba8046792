/- The closure that counts. -/
import Derived.Test.YteljjkghjbofnaaWn
set_option maxRecDepth 100000
namespace Go.Proofs.Yteljjkghjbofnaa
open Go Go.Proofs Go.RowKit
attribute [local go_sem] Oper.semAt_some

theorem zero3 (w : World) : (zeroValue 3).run Try.prog w = .ok (.int .i64 0) w := by kernel_rfl

def CountPost (kb wb cb mb b : Nat) (W : Web) (d : S) (w : World) (e : Ending) (w' : World) : Prop :=
  e = .returned (.int .i64 (cnt W d)) ∧ w.grownBy w' (some mb) ∧ Memo kb wb cb mb b W w'

theorem grownBy_shuts {B : Nat} {w X Y : World} {row : Option Nat} (h : w.grownBy X row) (hs : Shuts B X Y) (hB : w.heap.size ≤ B) : w.grownBy Y row :=
  ⟨hs.os.trans h.os, hs.tape.trans h.tape, hs.output.trans h.output, by rw [hs.size]; exact h.size, fun k hk hr => (hs.low k (by omega)).trans (h.block k hk hr)⟩
theorem WebAt.shuts {b B : Nat} {W : Web} {X Y : World} (h : WebAt X b W) (hs : Shuts B X Y) : WebAt Y b W :=
  ⟨hs.cell h.n, fun a ha => hs.cell (h.to a ha), fun a ha => hs.cell (h.reach a ha), fun a ha => hs.cell (h.near a ha), fun o => (hs.frozen h.n).trans (h.free o)⟩
theorem Memo.shuts {kb wb cb mb b B : Nat} {W : Web} {X Y : World} (h : Memo kb wb cb mb b W X) (hs : Shuts B X Y) (hB : mb < B) : Memo kb wb cb mb b W Y := by
  obtain ⟨D, ⟨es, clock, hb, F, hsz, hD⟩, d2⟩ := h.map
  exact ⟨hs.cell h.known, hs.cell h.web, hs.cell h.clo, h.at_.shuts hs, D, ⟨es, clock, (hs.low mb hB).trans hb, F, hsz, hD⟩, d2⟩

theorem grownBy_past {w Y Z : World} {r row : Option Nat} (h : w.grownBy Y r) (hg : Y.grownBy Z row) (hr : ∀ k, row = some k → w.heap.size ≤ k) : w.grownBy Z r :=
  ⟨hg.os.trans h.os, hg.tape.trans h.tape, hg.output.trans h.output, Nat.le_trans h.size hg.size, fun k hk hn => (hg.block k (Nat.lt_of_lt_of_le hk h.size) (fun e => by have := hr k e.symm; omega)).trans (h.block k hk hn)⟩
theorem grownBy_kept {w Y Z : World} {r : Option Nat} (h : w.grownBy Y r) (hk : Kept Y Z) : w.grownBy Z r :=
  ⟨hk.below.os.trans h.os, hk.below.tape.trans h.tape, hk.below.output.trans h.output, Nat.le_trans h.size hk.size, fun k hk' hn => (hk.below.block k (Nat.lt_of_lt_of_le hk' h.size)).trans (h.block k hk' hn)⟩
theorem grownBy_new {w Y Z : World} {r : Option Nat} (h : w.grownBy Y r) (hg : Y.grownBy Z r) : w.grownBy Z r := h.trans hg
theorem grownBy_set {w Y : World} {r : Option Nat} (h : w.grownBy Y r) {p : Nat} (hp : w.heap.size ≤ p) (v : Value) : w.grownBy (Y.setCell ⟨p, 0, none⟩ v) r :=
  grownBy_past h (grownBy_setCell' Y p v) (fun k e => by cases e; exact hp)


set_option maxHeartbeats 1600000 in
theorem count_any (kb wb cb mb b : Nat) (W : Web) (hn : W.n ≤ 24) : ∀ (f : Nat) (d : S) (w : World), rest W d < f → Memo kb wb cb mb b W w →
    Calls Try.prog 145 #[.int .u32 (sI d), .pointer (some ⟨kb, 0, none⟩), .pointer (some ⟨wb, 0, none⟩), .pointer (some ⟨cb, 0, none⟩)] w (CountPost kb wb cb mb b W d w) := by
  intro f
  induction f with
  | zero => intro d w h; omega
  | succ f ih =>
    intro d w hf hm
    have IH := Lib.hid ih
    have HF := Lib.hid hf
    have HM := Lib.hid hm
    clear ih hf hm
    refine calls_of_wp_marks Try.func145 rfl ?_
    simp only [Try.ntmps145, List.size_toArray, List.length_cons, List.length_nil, Nat.reduceAdd, Nat.reduceSub, Array.replicate_succ, Array.replicate_zero, List.push_toArray, List.append_toArray, List.nil_append, List.cons_append]
    obtain ⟨D, hD, hDs, hDw⟩ := HM.out.map
    have HD := Lib.hid hD
    have HDS := Lib.hid hDs
    have HDW := Lib.hid hDw
    clear hD hDs hDw
    have hknown := HM.out.known
    have hweb := HM.out.web
    have hlt := HM.out.lt.1
    have hltw := HM.out.lt.2.1
    go_wp2_with (first | (at_lookup; refine wpList_lookup_own_ok_int _ rfl _ _ 156 rfl 93 3 .i64 keyed93 Try.underlying156 Try.underlying3 (zero3 _) mb 4294967296 D rfl (HD.out.alloc _) _ _ rfl (keyOfS d) ?_; intro c hat hwc; have HAT := Lib.hid hat; have HWC := Lib.hid hwc; clear hat hwc; have HHAS : Hid (Maps.has D (keyS d) = true → c = cnt W d) := (fun h => by have e := (HDS.out d h).symm.trans HAT.out; simpa using e.symm); (cases hh : Maps.has D (keyS d)) <;> (have HH := Lib.hid hh; clear hh)))
    · refine (ready_any b W d _ (HM.out.at_.kept (((Kept.refl w).alloc _).alloc _))).mono ?_
      have hn8 : ((w.alloc (.cells #[.int .u32 (sI d)] 93)).alloc (.cells #[.int .i64 0] 3)).cell? ⟨w.heap.size + 1, 0, none⟩ = some (.int .i64 0) := by simp [go_sem]
      have hf8 : ((w.alloc (.cells #[.int .u32 (sI d)] 93)).alloc (.cells #[.int .i64 0] 3)).frozen? ⟨w.heap.size + 1, 0, none⟩ = false := by simp [go_sem]
      have hp4 : ((w.alloc (.cells #[.int .u32 (sI d)] 93)).alloc (.cells #[.int .i64 0] 3)).cell? ⟨w.heap.size, 0, none⟩ = some (.int .u32 (sI d)) := by simp [go_sem]
      have hk0 : Kept w ((w.alloc (.cells #[.int .u32 (sI d)] 93)).alloc (.cells #[.int .i64 0] 3)) := ((Kept.refl w).alloc _).alloc _
      have hs0 : ((w.alloc (.cells #[.int .u32 (sI d)] 93)).alloc (.cells #[.int .i64 0] 3)).heap.size = w.heap.size + 2 := by simp
      generalize ((w.alloc (.cells #[.int .u32 (sI d)] 93)).alloc (.cells #[.int .i64 0] 3)) = w0 at *
      obtain ⟨p4, hp4e⟩ : ∃ p4, w.heap.size = p4 := ⟨_, rfl⟩
      rintro e X1 ⟨c1, c2, rfl, hc1, hc2, hstat, hk1⟩
      have HS1 := Lib.hid hstat
      have HB : Hid (c1 ≠ mb ∧ c2 ≠ mb ∧ p4 ≠ c1 ∧ p4 ≠ c2 ∧ p4 + 1 ≠ c1 ∧ p4 + 1 ≠ c2 ∧ p4 + 1 < X1.heap.size ∧ p4 + 1 < X1.heap.size) := by
        have h1 := HM.out.lt
        have h2 := hk1.size
        exact ⟨by omega, by omega, by omega, by omega, by omega, by omega, by omega, by omega⟩
      have HN8 := Lib.hid (hk1.cell hn8)
      have HF8 := Lib.hid ((hk1.cells.2 _ 0 (lt_of_cell hn8)).trans hf8)
      have HP4 := Lib.hid (hk1.cell hp4)
      have HG := Lib.hid (grownBy_kept (World.grownBy.refl w (some mb)) (hk0.trans hk1))
      have HM1 := Lib.hid (HM.out.keptBy (hk0.trans hk1))
      clear hn8 hf8 hp4 hk0 hs0 hc1 hc2 hstat hk1 hknown hweb hlt hltw
      rw [hp4e] at HN8 HF8 HP4 ⊢
      have HW : Hid (w.heap.size = p4) := hp4e
      clear hp4e
      go_wp2_with fail
      refine range_ready (c1 := c1) (c2 := c2) (b := b) (W := W) (d := d) rfl HS1.out hn rfl
        (fun xs Y => Y.cell? ⟨p4 + 1, 0, none⟩ = some (.int .i64 (cntSum W d (xs.map Subtype.val))) ∧ Y.frozen? ⟨p4 + 1, 0, none⟩ = false ∧ Y.cell? ⟨p4, 0, none⟩ = some (.int .u32 (sI d)) ∧ Memo kb wb cb mb b W Y ∧ w.grownBy Y (some mb))
        (fun cd pre Y => False) ?hI ?hIx ⟨HN8.out, HF8.out, HP4.out, HM1.out, HG.out⟩ (fun x => { tmps := #[.int .u32 (sI d), .pointer (some ⟨kb, 0, none⟩), .pointer (some ⟨wb, 0, none⟩), .pointer (some ⟨cb, 0, none⟩), .pointer (some ⟨p4, 0, none⟩), .int .i64 0, .int .i64 c,
          .bool false, .pointer (some ⟨p4 + 1, 0, none⟩), .int .i64 x.val, .tuple #[.int .i64 c, .bool false], .map (some mb), .int .u32 (sI d), .tuple #[.int .i64 c, .bool false], .int .i64 c, .bool false,
          .bool false, undef, .pointer (some ⟨b, 0, none⟩), .int .u32 (sI d), .func (.func 146) #[] #[.pointer (some ⟨c1, 0, none⟩), .pointer (some ⟨c2, 0, none⟩)], .int .i64 x.val, undef, undef, undef, undef, undef, undef, undef, undef, undef, undef, undef, undef], defers := [] }) ?assign ?body ?done ?stop
      case hI =>
        rintro xs A Z row ⟨h1, h2, h3, h4, h5⟩ hg hr
        have h6 := HM1.out.lt
        have h7 := HB.out
        have h8 := HG.out.size
        exact ⟨cell_kept h1 hg (fun r e => (hr r e).2), (frozen_kept h1 hg (fun r e => (hr r e).2)).trans h2, cell_kept h3 hg (fun r e => (hr r e).2), h4.past hg h6 (fun r e => (hr r e).1), grownBy_past h5 hg (fun r e => Nat.le_trans h8 (hr r e).1)⟩
      case hIx => rintro cd xs A Z row h; exact h.elim
      case assign =>
        intro l x X K hK
        gi_wp2
        exact hK
      case done =>
        rintro De xs X hD hxs ⟨h1, h2, h3, h4, h5⟩ hdef
        rw [hxs] at h1
        have HCNT : Hid (cntSum W d (readyL W d) = cnt W d) := by
          show _ = _
          rw [cnt_eq (by omega), if_neg (fun e => ?_)]
          have := HDW.out
          rw [← e, HH.out] at this
          cases this
        rw [HCNT.out] at h1
        have HPD := Lib.hid hD
        have H4 := Lib.hid h4
        have H5 := Lib.hid h5
        have HDEF := Lib.hid hdef
        have hkn := h4.known
        obtain ⟨D2, hD2, hDs2, hDw2⟩ := h4.map
        have HD2 := Lib.hid hD2
        have HDS2 := Lib.hid hDs2
        have HDW2 := Lib.hid hDw2
        have H1 := Lib.hid h1
        have H3 := Lib.hid h3
        have HISM := Lib.hid hD2.isMap
        clear hD hxs h4 h5 hdef h2 hD2 hDs2 hDw2
        go_wp2_with (at_mapUpdate; refine wpList_mapUpdate_own _ rfl _ _ _ 156 rfl 93 3 keyed93 Try.underlying156 _ mb 4294967296 D2 rfl HD2.out (by unfold maxLen; omega) _ _ _ rfl rfl (keyOfS d) (.lit (.int .i64 (cnt W d))) [] (plainElem_int Try.underlying3 (cnt_wf (by omega) d)) ?_; intro w2 hown2 hgrow2; have hne8 : some (p4 + 1) ≠ some mb := (fun e => by have h6 := HM.out.lt; have h7 := HW.out; simp at e; omega); have hc8 := hgrow2.cell (a := ⟨p4 + 1, 0, none⟩) (v := .int .i64 (cnt W d)) H1.out hne8; have HM2 := Lib.hid (Memo.put H4.out HDW2.out HDS2.out HISM.out hown2 hgrow2); have HG2 := Lib.hid hgrow2; clear hown2 hgrow2 h1 h3 hkn hne8)
        have hd2 : w2.heap[De]? = some (.deferred (some [])) := (HG2.out.block De (Array.getElem?_eq_some_iff.1 HDEF.out).1 (fun e => by have := HM1.out.lt; have := HPD.out; have := Option.some.inj e; omega)).trans HDEF.out
        refine leaves_marks (B := X1.heap.size) [De] _ (fun D' hD' => by simp at hD'; subst hD'; exact ⟨HPD.out, hd2⟩) (by simp) (fun w' hs => ⟨_, results_tmp rfl _ _ _, ?_⟩)
        exact ⟨rfl, grownBy_shuts (H5.out.trans HG2.out) hs HG.out.size, HM2.out.shuts hs HM1.out.lt.2.2.2.1⟩
      case stop => rintro D cd pre Y _ _ h; exact h.elim
      case body =>
        rintro l pre x Y ⟨h1, h2, h3, h4, h5⟩ hstat
        have NXT : Hid (cntSum W d ((pre ++ [x]).map Subtype.val) = wrap64 (cntSum W d (pre.map Subtype.val) + cnt W (d ||| oneS x.val))) := by
          show _ = _
          unfold cntSum
          rw [List.map_append, List.foldl_append]
          rfl
        generalize cntSum W d (pre.map Subtype.val) = s at h1 NXT
        have H1 := Lib.hid h1
        have H2 := Lib.hid h2
        have H3 := Lib.hid h3
        have H4 := Lib.hid h4
        have H5 := Lib.hid h5
        have HT := Lib.hid hstat
        clear h1 h2 h3 h4 h5 hstat
        have hx32 : x.val < 32 := by have := (mem_readyL.1 x.2).1; omega
        have hrest : rest W (d ||| oneS x.val) < f := by have := rest_lt (by omega) x.2; have := HF.out; omega
        have hne8 : some (p4 + 1) ≠ some mb := fun e => by have h6 := HM.out.lt; have h7 := HW.out; simp at e; omega
        have hne4 : some p4 ≠ some mb := fun e => by have h6 := HM.out.lt; have h7 := HW.out; simp at e; omega
        gi_wp2_with fail
        refine regionIn_class (fun Z => Y.grownBy Z (some mb) ∧ Memo kb wb cb mb b W Z) 7 (by kernel_rfl) (by kernel_rfl) (by kernel_rfl) ⟨⟨rfl, rfl, rfl, Nat.le_refl _, fun _ _ _ => rfl⟩, H4.out.keptBy (Kept.refl Y).drew⟩ ?_
        simp only [List.take_succ_cons, List.take_zero, List.drop_succ_cons, List.drop_zero]
        refine wpQuiet_yield (.int .i64 s) (by rfl) (fun Z hZ => ?_) ?_
        · have hc := hZ.1.cell (a := ⟨p4 + 1, 0, none⟩) (v := .int .i64 s) H1.out hne8
          go_simp
        refine wpQuiet_yield (.func (.func 145) #[] #[.pointer (some ⟨kb, 0, none⟩), .pointer (some ⟨wb, 0, none⟩), .pointer (some ⟨cb, 0, none⟩)]) (by rfl) (fun Z hZ => ?_) ?_
        · have hc := hZ.2.clo
          go_simp
        refine wpQuiet_yield (.int .u32 (sI d)) (by rfl) (fun Z hZ => ?_) ?_
        · have hc := hZ.1.cell (a := ⟨p4, 0, none⟩) (v := .int .u32 (sI d)) H3.out hne4
          go_simp
        refine wpQuiet_yield (.int .i64 x.val) (by rfl) (fun Z hZ => ?_) ?_
        · go_simp
        refine wpQuiet_yield (.int .u32 (sI (oneS x.val))) (by rfl) (fun Z hZ => ?_) ?_
        · go_simp
          exact (one_any x.val Z hx32).mono fun e Z' h => ⟨h.1, h.2 ▸ hZ⟩
        refine wpQuiet_yield (.int .u32 (sI (d ||| oneS x.val))) (by rfl) (fun Z hZ => ?_) ?_
        · go_simp
        refine wpQuiet_yield (.int .i64 (cnt W (d ||| oneS x.val))) (by rfl) (fun Z hZ => ?_) ?_
        · go_simp
          exact (IH.out _ Z hrest hZ.2).mono fun e Z' h => ⟨h.1, hZ.1.trans h.2.1, h.2.2⟩
        simp only [Act.put, List.setIfInBounds_toArray, List.set_cons_zero, List.set_cons_succ]
        refine wpQuiet_nil ?_
        rintro Z ⟨hz1, hz2⟩
        have hc8 := hz1.cell (a := ⟨p4 + 1, 0, none⟩) (v := .int .i64 s) H1.out hne8
        have hf8 : Z.frozen? ⟨p4 + 1, 0, none⟩ = false := (World.frozen?_of_block (a := ⟨p4 + 1, 0, none⟩) (hz1.block (p4 + 1) (lt_of_cell H1.out) hne8)).trans H2.out
        have hc4 := hz1.cell (a := ⟨p4, 0, none⟩) (v := .int .u32 (sI d)) H3.out hne4
        have HZ1 := Lib.hid hz1
        have HZ2 := Lib.hid hz2
        have HC4 := Lib.hid hc4
        have HC8 := Lib.hid hc8
        clear hz1 hz2 hc4
        go_wp2
        unfold onlyN
        gi_wp2
        have hb := HB.out
        have hmlt := HM1.out.lt
        have hwlt := HM.out.lt
        have hw := HW.out
        have hset := grownBy_setCell' Z (p4 + 1) (.int .i64 (wrap64 (s + cnt W (d ||| oneS x.val))))
        refine ⟨(KeepsFrom.of_grownBy HZ1.out (fun j e => by cases e; exact hmlt.2.2.2.1)).trans (KeepsFrom.of_grownBy hset (fun j e => by cases e; exact hb.2.2.2.2.2.2.1)), ?_, ?_, ?_, ?_, ?_, ?_⟩
        · have hn := HM.out.ne
          have h1 := HT.out.grownNe (row := some mb) HZ1.out (fun e => hb.1 (Option.some.inj e)) (fun e => hb.2.1 (Option.some.inj e)) (fun e => hn.2.2.2 (Option.some.inj e))
          exact h1.grownNe hset (fun e => hb.2.2.2.2.1 (Option.some.inj e).symm) (fun e => hb.2.2.2.2.2.1 (Option.some.inj e).symm) (fun e => by have := Option.some.inj e; omega)
        · rw [NXT.out]; exact cell_set_same hc8
        · rw [World.frozen?_setCell]; exact hf8
        · exact cell_set_block HC4.out (by omega)
        · exact HZ2.out.past hset hwlt (fun r e => by cases e; omega)
        · exact grownBy_set (H5.out.trans HZ1.out) (by omega) _
    · have e : c = cnt W d := HHAS.out HH.out
      refine leaves_marks (B := w.heap.size) [] _ (fun D hD => by cases hD) List.nodup_nil (fun w' hs => ⟨_, results_tmp rfl _ _ _, ?_⟩)
      subst e
      exact ⟨rfl, grownBy_shuts (World.grownBy_alloc w _ _) hs (Nat.le_refl _), (HM.out.keptBy ((Kept.refl w).alloc _)).shuts hs HM.out.lt.2.2.2.1⟩
end Go.Proofs.Yteljjkghjbofnaa
