/- A column of edges, the face of a point, the edges that contain it. -/
import Derived.Test.YtlglfcdobbocnaaGreatXj
set_option maxRecDepth 100000
namespace Go.Proofs.YtlglfcdobbocnaaGreat
open Go Go.Proofs Go.RowKit
attribute [local go_sem] Oper.semAt_some
theorem sorted_nat {lt : Nat → Nat → Bool} {cm : Int → Int → Int} {D : Nat → Prop} (hl : LinB D lt) (hc : ∀ a b : Nat, cm a b < 0 ↔ lt a b = true) {M : List Nat} (hM : ∀ x ∈ M, D x) {l : List Int} (hp : l.Perm (natL M)) (hs : Srt (fun x y => cm x y < 0) l 0 l.length) : l = natL (isort lt M) := by
  have hmem : ∀ x ∈ l, ∃ d : Nat, x = d := fun x hx => by
    have hm := hp.mem_iff.1 hx
    unfold natL at hm
    obtain ⟨d, -, e⟩ := List.mem_map.1 hm
    exact ⟨d, e.symm⟩
  have hperm : (l.map Int.toNat).Perm M := by
    have := hp.map Int.toNat
    unfold natL at this
    rw [List.map_map] at this
    have e : (Int.toNat ∘ fun x : Nat => (x : Int)) = id := by funext x; simp
    rw [e, List.map_id] at this
    exact this
  have hln : l = natL (l.map Int.toNat) := by
    unfold natL
    rw [List.map_map]
    conv => lhs; rw [← List.map_id l]
    refine List.map_congr_left fun x hx => ?_
    obtain ⟨d, rfl⟩ := hmem x hx
    simp
  have hr : Rise lt (l.map Int.toNat) := by
    unfold Rise
    rw [List.pairwise_iff_getElem]
    intro a b ha hb hab
    rw [List.length_map] at ha hb
    have t := hs a b (Nat.zero_le _) hab hb
    rw [gt_eq ha, gt_eq hb] at t
    have key : ∀ (c : Nat) (hc : c < l.length), l[c] = (((l.map Int.toNat)[c]'(by simpa using hc) : Nat) : Int) := fun c hc => by
      obtain ⟨d, e⟩ := hmem _ (List.getElem_mem hc)
      rw [List.getElem_map, e]
      simp
    rw [key a ha, key b hb] at t
    have t : ¬ cm _ _ < 0 := t
    rw [hc] at t
    simpa using t
  have := isort_uni hl (l := M) hM hperm hr
  rw [hln, this]
def EdgeAt (P : List Pt) (E : List (Nat × Nat)) (ne : Nat) (x : Int) (y : Int) : Prop := ∃ d : Nat, y = d ∧ d < ne ∧ Spans (eS P E d) x
theorem heightD_nat (P : List Pt) (E : List (Nat × Nat)) (x : Int) (a b : Nat) : heightD P E x a b < 0 ↔ ltH (eS P E) x a b = true := by
  unfold heightD ltH
  simp
theorem heightD_lin {P : List Pt} {E : List (Nat × Nat)} {ne : Nat} (hf : Figure ne (eS P E)) (x : Int) : Lin (EdgeAt P E ne x) fun a b => heightD P E x a b < 0 := by
  have hl := ltH_lin hf x
  refine ⟨fun a b ha hb k => ?_, fun a b c ha hb hc k1 k2 => ?_, fun a b ha hb hn => ?_⟩
  · obtain ⟨a, rfl, ha⟩ := ha
    obtain ⟨b, rfl, hb⟩ := hb
    rw [heightD_nat] at k ⊢
    have := hl.asymm a b ha hb k
    simp [this]
  · obtain ⟨a, rfl, ha⟩ := ha
    obtain ⟨b, rfl, hb⟩ := hb
    obtain ⟨c, rfl, hc⟩ := hc
    rw [heightD_nat] at k1 k2 ⊢
    exact hl.trans a b c ha hb hc k1 k2
  · obtain ⟨a, rfl, ha⟩ := ha
    obtain ⟨b, rfl, hb⟩ := hb
    rw [heightD_nat, heightD_nat]
    exact hl.tri a b ha hb (fun e => hn (by rw [e]))
set_option maxHeartbeats 2000000 in
theorem column_any (g : Nat) (ap : Option Addr) (np cp : Nat) (ae : Option Addr) (ne ce : Nat) (mf : Int) (P : List Pt) (E : List (Nat × Nat)) (Ed : List Five) (face : List Int) (x : Int) (w : World) (h : WebM w g ap np cp ae ne ce mf P E Ed face) (hf : Figure ne (eS P E)) (hx : 0 ≤ x ∧ x ≤ 10000) :
    Calls Tryz.prog 63 #[.pointer (some ⟨g, 0, none⟩), .int .i64 x] w (MakesN (natL (columnF ne (eS P E) x)) w) := by
  have H := Lib.hid h
  have HF := Lib.hid hf
  have HX := Lib.hid hx
  have hne : ne ≤ 400 := by rw [← h.cnt]; exact h.ends.few
  clear h hf hx
  obtain ⟨w0, hw0⟩ : ∃ w0, w.alloc (.cells #[.pointer (some ⟨g, 0, none⟩)] 59) = w0 := ⟨_, rfl⟩
  obtain ⟨w1, hw1⟩ : ∃ w1, w0.alloc (.cells #[.int .i64 x] 3) = w1 := ⟨_, rfl⟩
  obtain ⟨cw, hcw⟩ : ∃ cw, w.heap.size = cw := ⟨_, rfl⟩
  have hz0 : w0.heap.size = cw + 1 := by rw [← hw0, ← hcw]; simp
  have hk0 : Kept w w0 := by rw [← hw0]; exact (Kept.refl w).alloc _
  have hk1 : Kept w0 w1 := by rw [← hw1]; exact (Kept.refl w0).alloc _
  have c0 : w1.cell? ⟨cw, 0, none⟩ = some (.pointer (some ⟨g, 0, none⟩)) := hk1.cell (by rw [← hw0, ← hcw]; simp [go_sem])
  have c1 : w1.cell? ⟨cw + 1, 0, none⟩ = some (.int .i64 x) := by rw [← hw1, ← hz0]; simp [go_sem]
  have HK1 := Lib.hid (hk0.trans hk1)
  have H1 := Lib.hid (H.out.kept HK1.out)
  have HC0 := Lib.hid c0
  have HC1 := Lib.hid c1
  have hl := lt_of_cell c0
  clear hk0 hk1
  go_enter Tryz.func63, Tryz.ntmps63
  go_wp2_with fail
  refine (edges_any g ap np cp ae ne ce mf P E Ed face 88 #[.pointer (some ⟨cw, 0, none⟩), .pointer (some ⟨cw + 1, 0, none⟩)] (fun i => spansB (eS P E i) x) w1 H1.out (fun i hi W hW => column1_any g cw (cw + 1) ap np cp ae ne ce mf P E Ed face x i W (H1.out.kept hW) (hW.cell HC0.out) (hW.cell HC1.out) hi) (fun args W => rfl)).mono ?_
  rintro e w2 ⟨v, rfl, ho, hk2⟩
  have HO := Lib.hid ho
  have HK2 := Lib.hid hk2
  have HW2 : Hid (Kept w w2) := Lib.hid (HK1.out.trans hk2)
  clear ho hk2 hw0 hw1 c0 c1
  have HMEM : Hid (∀ y ∈ (List.range ne).filter (fun i => spansB (eS P E i) x), y < ne ∧ Spans (eS P E y) x) := Lib.hid (fun y hy => by rw [List.mem_filter, List.mem_range, spansB_iff] at hy; exact hy)
  have HLEN : Hid ((natL ((List.range ne).filter fun i => spansB (eS P E i) x)).length < 1099511627776) := Lib.hid (by
    rw [natL_len]
    have := List.length_filter_le (fun i => spansB (eS P E i) x) (List.range ne)
    rw [List.length_range] at this
    omega)
  go_wp2_with fail
  refine (sortedN_any v _ w1.heap.size 89 #[.pointer (some ⟨cw, 0, none⟩), .pointer (some ⟨cw + 1, 0, none⟩)] (EdgeAt P E ne x) (heightD P E x) w2 HO.out (fun gr e => ⟨fun a b W ha hb hg => ?_, fun args W => rfl⟩) (heightD_lin HF.out x) (fun q hq => ?_) HLEN.out).mono ?_
  · obtain ⟨a, rfl, ha, -⟩ := ha
    obtain ⟨b, rfl, hb, -⟩ := hb
    have hkW : Kept w1 W := HK2.out.grown hg (fun r er => by cases er; exact (HO.out.lt gr e).1)
    exact column2_any g cw (cw + 1) ap np cp ae ne ce mf P E Ed face x a b W (H1.out.kept hkW) (hkW.cell HC0.out) (hkW.cell HC1.out) ha hb HX.out
  · rw [gt_eq hq]
    have hm := List.getElem_mem hq
    unfold natL at hm
    obtain ⟨d, hd, e⟩ := List.mem_map.1 hm
    exact ⟨d, e.symm, HMEM.out d hd⟩
  rintro e w3 ⟨l', rfl, hp, hs, ho3, hg3⟩
  have HL := Lib.hid (sorted_nat (ltH_lin HF.out x) (heightD_nat P E x) HMEM.out hp hs)
  have HO3 := Lib.hid ho3
  have HK3 : Hid (Kept w w3) := Lib.hid (HW2.out.grown hg3 (fun r e => by have := (HO.out.lt r e).1; have := HK1.out.size; omega))
  clear hp hs ho3 hg3
  go_wp2
  go_ret
  refine ⟨_, rfl, ?_, HK3.out⟩
  have := OwnG.base' HO3.out HK1.out.size
  rw [HL.out] at this
  exact this
end Go.Proofs.YtlglfcdobbocnaaGreat
