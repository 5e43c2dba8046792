/- ref.From. -/
import Derived.Test.YteljjkghjbofnaaQa
import Derived.Test.YteljjkghjbofnaaLh
set_option maxRecDepth 100000
namespace Go.Proofs.Yteljjkghjbofnaa
open Go Go.Proofs Go.RowKit
attribute [local go_sem] Oper.semAt_some

structure Seam where
  a : Int
  b : Int
  pr : Int
  up : Int
def seamV (x : Seam) : Value := .agg #[.int .i64 x.a, .int .i64 x.b, .int .i64 x.pr, .int .u8 x.up]
/-- Seams behind so. -/
def Seams (X : World) (so : Option Addr) (l : List Seam) : Prop := ∀ i, (h : i < l.length) → ∃ B off, so = some ⟨B, off, none⟩ ∧ X.cell? ⟨B, off + i * 4, none⟩ = some (.int .i64 l[i].a) ∧ X.cell? ⟨B, off + i * 4 + 1, none⟩ = some (.int .i64 l[i].b) ∧ X.cell? ⟨B, off + i * 4 + 2, none⟩ = some (.int .i64 l[i].pr) ∧ X.cell? ⟨B, off + i * 4 + 3, none⟩ = some (.int .u8 l[i].up)
theorem Seams.kept {X Y : World} {so : Option Addr} {l : List Seam} (h : Seams X so l) (hk : Kept X Y) : Seams Y so l := fun i hi => by
  obtain ⟨B, off, e, h0, h1, h2, h3⟩ := h i hi
  exact ⟨B, off, e, hk.cell h0, hk.cell h1, hk.cell h2, hk.cell h3⟩
def okF (chs : List (List Int)) (x : Seam) : Bool := decide (0 ≤ ownR chs x.a ∧ 0 ≤ ownR chs x.b ∧ x.up ≤ 3)
def nearF (chs : List (List Int)) (near : List (Int × Int)) (x : Seam) : List (Int × Int) :=
  if ownR chs x.a = ownR chs x.b then near else insP near (min (ownR chs x.a) (ownR chs x.b), max (ownR chs x.a) (ownR chs x.b))
def arcF1 (chs : List (List Int)) (arcs : List (Int × Int)) (x : Seam) : List (Int × Int) := if x.up = 1 ∨ x.up = 3 then insP arcs (ownR chs x.a, ownR chs x.b) else arcs
def arcF2 (chs : List (List Int)) (arcs : List (Int × Int)) (x : Seam) : List (Int × Int) := if x.up = 2 ∨ x.up = 3 then insP arcs (ownR chs x.b, ownR chs x.a) else arcs
def arcsF (chs : List (List Int)) (arcs : List (Int × Int)) (x : Seam) : List (Int × Int) := if ownR chs x.a = ownR chs x.b then arcs else arcF2 chs (arcF1 chs arcs x) x
/-- E2. -/
def FromF (l : List Seam) (chs : List (List Int)) : Prob × Int :=
  if 24 < chs.length then (⟨0, [], []⟩, 2) else if l.all (okF chs) = true then (⟨chs.length, l.foldl (arcsF chs) [], l.foldl (nearF chs) []⟩, 0) else (⟨0, [], []⟩, 1)

theorem cell_new0 (w : World) (u : Value) (e : TypeId) : (w.alloc (.cells #[u] e)).cell? ⟨w.heap.size, 0, none⟩ = some u := by
  have hh := heap_alloc_new w (.cells #[u] e)
  unfold World.cell?
  simp only []
  rw [hh]
  rfl
theorem cell_new2 (w : World) (u v : Value) (e : TypeId) : (w.alloc (.cells #[u, v] e)).cell? ⟨w.heap.size, 0, none⟩ = some u ∧ (w.alloc (.cells #[u, v] e)).cell? ⟨w.heap.size, 1, none⟩ = some v := by
  have hh := heap_alloc_new w (.cells #[u, v] e)
  unfold World.cell?
  simp only []
  rw [hh]
  exact ⟨rfl, rfl⟩
theorem three_box (w : World) (A0 A1 B0 : Value) : PBox (((w.alloc (.cells #[A0, A1] 75)).alloc (.cells #[B0] 77)).alloc (.cells #[.int .i64 0, .slice none 0 0, .slice none 0 0] 24)) (w.heap.size + 1 + 1) 0 (.slice none 0 0) (.slice none 0 0) := by
  have h := PBox.new ((w.alloc (.cells #[A0, A1] 75)).alloc (.cells #[B0] 77)) 0 (.slice none 0 0) (.slice none 0 0)
  have e : ((w.alloc (.cells #[A0, A1] 75)).alloc (.cells #[B0] 77)).heap.size = w.heap.size + 1 + 1 := by simp
  rw [e] at h
  exact h
/-- The boxes of the two arguments, of the result, of out. -/
theorem four_boxes (w : World) (A0 A1 B0 : Value) (N : Int) : ∃ w4, (((w.alloc (.cells #[A0, A1] 75)).alloc (.cells #[B0] 77)).alloc (.cells #[.int .i64 0, .slice none 0 0, .slice none 0 0] 24)).alloc (.cells #[.int .i64 N, .slice none 0 0, .slice none 0 0] 24) = w4 ∧
    Kept w w4 ∧ w4.cell? ⟨w.heap.size, 0, none⟩ = some A0 ∧ w4.cell? ⟨w.heap.size, 1, none⟩ = some A1 ∧ w4.cell? ⟨w.heap.size + 1, 0, none⟩ = some B0 ∧ PBox w4 (w.heap.size + 1 + 1) 0 (.slice none 0 0) (.slice none 0 0) ∧ PBox w4 (w.heap.size + 1 + 1 + 1) N (.slice none 0 0) (.slice none 0 0) ∧ w4.heap.size = w.heap.size + 4 := by
  refine ⟨_, rfl, ((((Kept.refl w).alloc _).alloc _).alloc _).alloc _, ?_, ?_, ?_, ?_, ?_, ?_⟩
  · exact ((((Kept.refl _).alloc _).alloc _).alloc _).cell (cell_new2 w A0 A1 75).1
  · exact ((((Kept.refl _).alloc _).alloc _).alloc _).cell (cell_new2 w A0 A1 75).2
  · have h := cell_new0 (w.alloc (.cells #[A0, A1] 75)) B0 77
    have e : (w.alloc (.cells #[A0, A1] 75)).heap.size = w.heap.size + 1 := by simp
    rw [e] at h
    exact (((Kept.refl _).alloc _).alloc _).cell h
  · have h := PBox.new ((w.alloc (.cells #[A0, A1] 75)).alloc (.cells #[B0] 77)) 0 (.slice none 0 0) (.slice none 0 0)
    have e : ((w.alloc (.cells #[A0, A1] 75)).alloc (.cells #[B0] 77)).heap.size = w.heap.size + 1 + 1 := by simp
    rw [e] at h
    exact h.kept ((Kept.refl _).alloc _)
  · have h := PBox.new (((w.alloc (.cells #[A0, A1] 75)).alloc (.cells #[B0] 77)).alloc (.cells #[.int .i64 0, .slice none 0 0, .slice none 0 0] 24)) N (.slice none 0 0) (.slice none 0 0)
    have e : (((w.alloc (.cells #[A0, A1] 75)).alloc (.cells #[B0] 77)).alloc (.cells #[.int .i64 0, .slice none 0 0, .slice none 0 0] 24)).heap.size = w.heap.size + 1 + 1 + 1 := by simp
    rw [e] at h
    exact h
  · simp
theorem nearF_len (chs : List (List Int)) (l : List Seam) : ∀ k, ((l.take k).foldl (nearF chs) []).length ≤ k := by
  intro k
  induction k with
  | zero => simp
  | succ k ih =>
    by_cases hk : k < l.length
    · rw [List.take_succ_eq_append_getElem hk, List.foldl_append, List.foldl_cons, List.foldl_nil]
      unfold nearF at *
      split
      · omega
      · exact Nat.le_trans (insP_len _ _) (by omega)
    · rw [List.take_of_length_le (by omega)] at ih ⊢
      omega
theorem arcF1_len (chs : List (List Int)) (A : List (Int × Int)) (x : Seam) : (arcF1 chs A x).length ≤ A.length + 1 := by
  unfold arcF1
  split
  · exact insP_len _ _
  · omega
theorem arcF2_len (chs : List (List Int)) (A : List (Int × Int)) (x : Seam) : (arcF2 chs A x).length ≤ A.length + 1 := by
  unfold arcF2
  split
  · exact insP_len _ _
  · omega
theorem arcsF_len (chs : List (List Int)) (l : List Seam) : ∀ k, ((l.take k).foldl (arcsF chs) []).length ≤ 2 * k := by
  intro k
  induction k with
  | zero => simp
  | succ k ih =>
    by_cases hk : k < l.length
    · rw [List.take_succ_eq_append_getElem hk, List.foldl_append, List.foldl_cons, List.foldl_nil]
      have h1 := arcF1_len chs ((l.take k).foldl (arcsF chs) []) l[k]
      have h2 := arcF2_len chs (arcF1 chs ((l.take k).foldl (arcsF chs) []) l[k]) l[k]
      have e : arcsF chs ((l.take k).foldl (arcsF chs) []) l[k] = if ownR chs l[k].a = ownR chs l[k].b then (l.take k).foldl (arcsF chs) [] else arcF2 chs (arcF1 chs ((l.take k).foldl (arcsF chs) []) l[k]) l[k] := rfl
      rw [e]
      split <;> omega
    · rw [List.take_of_length_le (by omega)] at ih ⊢
      omega
theorem foldF {α β : Type} {f : β → α → β} {b : β} {l : List α} {k : Nat} (h : k < l.length) : (l.take (k + 1)).foldl f b = f ((l.take k).foldl f b) l[k] := by
  rw [List.take_succ_eq_append_getElem h, List.foldl_append]
  rfl

/-- A seam in a variable. -/
structure SeamBox (X : World) (g : Nat) (x : Seam) : Prop where
  c0 : X.cell? ⟨g, 0, none⟩ = some (.int .i64 x.a)
  c1 : X.cell? ⟨g, 1, none⟩ = some (.int .i64 x.b)
  c2 : X.cell? ⟨g, 2, none⟩ = some (.int .i64 x.pr)
  c3 : X.cell? ⟨g, 3, none⟩ = some (.int .u8 x.up)
theorem SeamBox.kept {X Y : World} {g : Nat} {x : Seam} (h : SeamBox X g x) (hk : Kept X Y) : SeamBox Y g x := ⟨hk.cell h.c0, hk.cell h.c1, hk.cell h.c2, hk.cell h.c3⟩
theorem SeamBox.set {X : World} {g b o : Nat} {x : Seam} {u : Value} (h : SeamBox X g x) (hne : g ≠ b) : SeamBox (X.setCell ⟨b, o, none⟩ u) g x := ⟨cell_set_block h.c0 hne, cell_set_block h.c1 hne, cell_set_block h.c2 hne, cell_set_block h.c3 hne⟩
theorem seam_box (w : World) (x : Seam) : ∃ w5, w.alloc (.cells #[.int .i64 x.a, .int .i64 x.b, .int .i64 x.pr, .int .u8 x.up] 141) = w5 ∧ Kept w w5 ∧ SeamBox w5 w.heap.size x := by
  refine ⟨_, rfl, (Kept.refl _).alloc _, ?_⟩
  have hh := heap_alloc_new w (.cells #[.int .i64 x.a, .int .i64 x.b, .int .i64 x.pr, .int .u8 x.up] 141)
  refine ⟨?_, ?_, ?_, ?_⟩ <;>
  · unfold World.cell?
    simp only []
    rw [hh]
    rfl

set_option maxHeartbeats 4000000 in
theorem RFrom_any2 (l : List Seam) (so : Option Addr) (sc : Nat) (xo : Option Addr) (xn xc : Nat) (chs : List (List Int)) (co : Option Addr) (cc : Nat) (w : World) (hs : Seams w so l) (hc : Chs w co chs) (hl : l.length ≤ 100) (hcl : chs.length ≤ 60) (hf : chs.flatten.length ≤ 200) :
    Calls Try.prog 69 #[.agg #[.slice xo xn xc, .slice so l.length sc], .agg #[.slice co chs.length cc]] w (RPost (FromF l chs).1 (FromF l chs).2 w) := by
  have HS := Lib.hid hs
  have HC := Lib.hid hc
  have HFL := Lib.hid hf
  obtain ⟨R, hR⟩ : ∃ R, FromF l chs = R := ⟨_, rfl⟩
  rw [hR]
  have HR := Lib.hid hR
  clear hs hc hf hR
  by_cases h24 : 24 < chs.length
  case pos =>
    have e1 : decide ((chs.length : Int) > 24) = true := decide_eq_true (by omega)
    have HX : Hid (R = (⟨0, [], []⟩, 2)) := Lib.hid (by rw [← HR.out]; unfold FromF; rw [if_pos h24])
    clear h24
    go_enter Try.func69, Try.ntmps69
    go_wp2
    refine bodyPost_ret (results_cell_tmp rfl _ _ ⟨w.heap.size + 1 + 1, 0, none⟩ rfl _ (load24 (w := ((w.alloc (.cells #[.slice xo xn xc, .slice so l.length sc] 75)).alloc (.cells #[.slice co chs.length cc] 77)).alloc (.cells #[.int .i64 0, .slice none 0 0, .slice none 0 0] 24)) (three_box w _ _ _).c0 (three_box w _ _ _).c1 (three_box w _ _ _).c2)) rfl ?_
    rw [HX.out]
    exact ⟨none, 0, none, 0, rfl, Pairs.nil _ _, Pairs.nil _ _, (((Kept.refl w).alloc _).alloc _).alloc _⟩
  have e1 : decide ((chs.length : Int) > 24) = false := decide_eq_false (by omega)
  have h24' : chs.length ≤ 24 := by omega
  have HX : Hid (R = if l.all (okF chs) = true then (⟨chs.length, l.foldl (arcsF chs) [], l.foldl (nearF chs) []⟩, 0) else (⟨0, [], []⟩, 1)) := Lib.hid (by rw [← HR.out]; unfold FromF; rw [if_neg h24])
  clear h24
  go_enter Try.func69, Try.ntmps69
  go_wp2_with fail
  obtain ⟨w4, e4, hk4, b0, b1, d0, hp2, hp3, hsz⟩ := four_boxes w (.slice xo xn xc) (.slice so l.length sc) (.slice co chs.length cc) (chs.length : Int)
  rw [e4]
  clear e4
  obtain ⟨g0, hg0⟩ : ∃ g, w.heap.size = g := ⟨_, rfl⟩
  obtain ⟨g1, hg1⟩ : ∃ g, w.heap.size + 1 = g := ⟨_, rfl⟩
  obtain ⟨g2, hg2⟩ : ∃ g, w.heap.size + 1 + 1 = g := ⟨_, rfl⟩
  obtain ⟨tb, htb⟩ : ∃ g, w.heap.size + 1 + 1 + 1 = g := ⟨_, rfl⟩
  have HG : Hid (w.heap.size = g0 ∧ g0 < g1 ∧ g1 < g2 ∧ g2 < tb ∧ tb < w4.heap.size ∧ w.heap.size ≤ g2 ∧ w.heap.size ≤ tb) := Lib.hid (by omega)
  rw [htb] at hp3 ⊢
  rw [hg2] at hp2 ⊢
  rw [hg1] at d0 ⊢
  rw [hg0] at b0 b1 ⊢
  have HK4 := Lib.hid hk4
  have HB0 := Lib.hid (And.intro b0 b1)
  have HD0 := Lib.hid d0
  have HP2 := Lib.hid hp2
  have HP3 := Lib.hid hp3
  have HSF : Hid (∀ X, FrX w4 X tb → Seams X so l) := Lib.hid fun X hf i hi => by
    obtain ⟨B, off, e, h0, h1, h2, h3⟩ := HS.out.kept HK4.out i hi
    have hB : B ≠ tb := by
      obtain ⟨B', off', e', h0', -⟩ := HS.out i hi
      rw [e] at e'
      cases e'
      have := lt_of_cell h0'
      have := HG.out
      omega
    exact ⟨B, off, e, hf.cell _ _ _ hB h0, hf.cell _ _ _ hB h1, hf.cell _ _ _ hB h2, hf.cell _ _ _ hB h3⟩
  have HAL := Lib.hid (arcsF_len chs l)
  have HNL := Lib.hid (nearF_len chs l)
  clear hg0 hg1 hg2 htb hk4 b0 b1 d0 hp2 hp3 hsz e1
  go_loopw [7] (fun i wr => ∃ (k : Nat) (xa ya : Option Addr) (xc yc : Nat), k ≤ l.length ∧ i = .int .i64 k ∧ (∀ i, (h : i < l.length) → i < k → okF chs l[i] = true) ∧ Kept w wr ∧ FrX w4 wr tb ∧ PBox wr tb (chs.length : Int) (.slice xa ((l.take k).foldl (arcsF chs) []).length xc) (.slice ya ((l.take k).foldl (nearF chs) []).length yc) ∧ LsP wr tb xa xc ((l.take k).foldl (arcsF chs) []) ∧ LsP wr tb ya yc ((l.take k).foldl (nearF chs) [])) (fun i _ => l.length - (intOf i).toNat)
  case atStart => exact ⟨0, none, none, 0, 0, Nat.zero_le _, rfl, fun _ _ h => by omega, HK4.out, FrX.refl _ _, HP3.out, LsP.nil _ _, LsP.nil _ _⟩
  case round =>
    obtain ⟨k, xa, ya, xc', yc, hk, rfl, hok, hkr, hfr, hbr, hlx, hly⟩ := hrel
    have HOK := Lib.hid hok
    have HKR := Lib.hid hkr
    have HFR := Lib.hid hfr
    have HBR := Lib.hid hbr
    have HLX := Lib.hid hlx
    have HLY := Lib.hid hly
    clear hok hkr hfr hbr hlx hly
    have b0 := HFR.out.cell _ _ _ (by have := HG.out; omega) HB0.out.1
    have b1 := HFR.out.cell _ _ _ (by have := HG.out; omega) HB0.out.2
    have bb := lt_of_cell b0
    have d0 := HFR.out.cell _ _ _ (by have := HG.out; omega) HD0.out
    have db := lt_of_cell d0
    by_cases hlt : k < l.length
    case pos =>
      obtain ⟨B, off, rfl, c0, c1, c2, c3⟩ := HSF.out _ HFR.out k hlt
      have cb := lt_of_cell c0
      have HFA := Lib.hid (foldF (f := arcsF chs) (b := []) hlt)
      have HFN := Lib.hid (foldF (f := nearF chs) (b := []) hlt)
      have HOKN : Hid (okF chs l[k] = true → ∀ i, (h : i < l.length) → i < k + 1 → okF chs l[i] = true) := Lib.hid fun h i hi hik => by
        rcases Nat.lt_or_eq_of_le (Nat.le_of_lt_succ hik) with h' | h'
        · exact HOK.out i hi h'
        · subst h'; exact h
      have HBADS : Hid (okF chs l[k] = false → R = (⟨0, [], []⟩, 1)) := Lib.hid fun h => by
        rw [HX.out, if_neg]
        intro h2
        rw [List.all_eq_true] at h2
        rw [h2 _ (List.getElem_mem hlt)] at h
        cases h
      have HLT : Hid (0 < l.length - k) := Lib.hid (by omega)
      have hla := HAL.out k
      have hln := HNL.out k
      have hk100 : k < 100 := by omega
      clear hk
      generalize l[k] = x at *
      go_wp2_with fail
      obtain ⟨w5, e5, hk5, hx5⟩ := seam_box wr x
      rw [e5]
      clear e5
      obtain ⟨xb, hxb⟩ : ∃ g, wr.heap.size = g := ⟨_, rfl⟩
      rw [hxb] at hx5 ⊢
      have HXB : Hid (xb ≠ tb ∧ tb < xb ∧ g2 < xb) := Lib.hid (by have := HG.out; have := HFR.out.size; omega)
      clear hxb b0 b1 bb c0 c1 c2 c3 cb
      have HK5 := Lib.hid hk5
      have HX5 := Lib.hid hx5
      clear hk5 hx5
      refine (Rowner_any chs co cc x.a w5 (HC.out.kept (HKR.out.trans HK5.out)) hcl HFL.out).mono ?_
      rintro e w6 ⟨rfl, hk⟩
      have HK6 := Lib.hid (HK5.out.trans hk)
      have HX6 := Lib.hid (HX5.out.kept hk)
      have d6 := HK6.out.cell d0
      have db6 := lt_of_cell d6
      clear hk HK5 HX5
      obtain ⟨s0, s1, s2, s3⟩ := HX6.out
      have sb := lt_of_cell s0
      go_wp2_with fail
      clear s0 s1 s2 s3 sb d6 db6
      refine (Rowner_any chs co cc x.b w6 (HC.out.kept (HKR.out.trans HK6.out)) hcl HFL.out).mono ?_
      rintro e w7 ⟨rfl, hk⟩
      have HK7 := Lib.hid (HK6.out.trans hk)
      have HX7 := Lib.hid (HX6.out.kept hk)
      clear hk HK6 HX6 d0 db
      obtain ⟨p, hp⟩ : ∃ p, ownR chs x.a = p := ⟨_, rfl⟩
      obtain ⟨q, hq⟩ : ∃ q, ownR chs x.b = q := ⟨_, rfl⟩
      rw [hp, hq]
      have HPQ := Lib.hid (And.intro hp hq)
      have HBADP : Hid (p < 0 ∨ q < 0 ∨ 3 < x.up → R = (⟨0, [], []⟩, 1)) := Lib.hid fun h => HBADS.out (by
        unfold okF
        rw [hp, hq]
        exact decide_eq_false (by omega))
      have HOKP : Hid (¬ (p < 0 ∨ q < 0 ∨ 3 < x.up) → ∀ i, (h : i < l.length) → i < k + 1 → okF chs l[i] = true) := Lib.hid fun h => HOKN.out (by
        unfold okF
        rw [hp, hq]
        exact decide_eq_true (by omega))
      clear hp hq HBADS HOKN
      have HKW := Lib.hid (HKR.out.trans HK7.out)
      have HFW := Lib.hid (HFR.out.kept HK7.out)
      have HBW := Lib.hid (HBR.out.kept HK7.out)
      have HLXW := Lib.hid (HLX.out.kept HK7.out)
      have HLYW := Lib.hid (HLY.out.kept HK7.out)
      have HP9 := Lib.hid (HP2.out.fr HFW.out (by have := HG.out; omega))
      obtain ⟨LA, hLA⟩ : ∃ L, (l.take k).foldl (arcsF chs) [] = L := ⟨_, rfl⟩
      obtain ⟨LB, hLB⟩ : ∃ L, (l.take k).foldl (nearF chs) [] = L := ⟨_, rfl⟩
      rw [hLA] at HFA hla HLXW HBW
      rw [hLB] at HFN hln HLYW HBW
      clear hLA hLB HLX HLY HBR HKR HFR HK7
      obtain ⟨s0, s1, s2, s3⟩ := HX7.out
      have sb := lt_of_cell s0
      by_cases hbad : p < 0 ∨ q < 0 ∨ 3 < x.up
      case pos =>
        have HRR := Lib.hid (HBADP.out hbad)
        obtain ⟨p0, p1, p2, pf⟩ := HP9.out
        have f0 := pf 0
        have f1 := pf 1
        have f2 := pf 2
        have pb := lt_of_cell p0
        clear pf
        have HQ9 := Lib.hid (HP9.out.set 0 (.slice none 0 0) (.slice none 0 0))
        have hg2 : w.heap.size ≤ g2 := by have := HG.out; omega
        by_cases h1 : p < 0
        case pos =>
          have e1 : decide (p < 0) = true := decide_eq_true h1
          clear hbad h1
          go_wp2
          refine bodyPost_ret (results_cell_tmp rfl _ _ ⟨g2, 0, none⟩ rfl _ (load24 HQ9.out.c0 HQ9.out.c1 HQ9.out.c2)) rfl ?_
          rw [HRR.out]
          exact ⟨none, 0, none, 0, rfl, Pairs.nil _ _, Pairs.nil _ _, ((HKW.out.setCell (p := ⟨g2, 0, none⟩) hg2 _).setCell (p := ⟨g2, 1, none⟩) hg2 _).setCell (p := ⟨g2, 2, none⟩) hg2 _⟩
        have e1 : decide (p < 0) = false := decide_eq_false h1
        by_cases h2 : q < 0
        case pos =>
          have e2 : decide (q < 0) = true := decide_eq_true h2
          clear hbad h1 h2
          go_wp2
          refine bodyPost_ret (results_cell_tmp rfl _ _ ⟨g2, 0, none⟩ rfl _ (load24 HQ9.out.c0 HQ9.out.c1 HQ9.out.c2)) rfl ?_
          rw [HRR.out]
          exact ⟨none, 0, none, 0, rfl, Pairs.nil _ _, Pairs.nil _ _, ((HKW.out.setCell (p := ⟨g2, 0, none⟩) hg2 _).setCell (p := ⟨g2, 1, none⟩) hg2 _).setCell (p := ⟨g2, 2, none⟩) hg2 _⟩
        have e2 : decide (q < 0) = false := decide_eq_false h2
        have e3 : decide (x.up > 3) = true := decide_eq_true (by omega)
        clear hbad h1 h2
        go_wp2
        refine bodyPost_ret (results_cell_tmp rfl _ _ ⟨g2, 0, none⟩ rfl _ (load24 HQ9.out.c0 HQ9.out.c1 HQ9.out.c2)) rfl ?_
        rw [HRR.out]
        exact ⟨none, 0, none, 0, rfl, Pairs.nil _ _, Pairs.nil _ _, ((HKW.out.setCell (p := ⟨g2, 0, none⟩) hg2 _).setCell (p := ⟨g2, 1, none⟩) hg2 _).setCell (p := ⟨g2, 2, none⟩) hg2 _⟩
      have HOK2 := Lib.hid (HOKP.out hbad)
      have e1 : decide (p < 0) = false := decide_eq_false (by omega)
      have e2 : decide (q < 0) = false := decide_eq_false (by omega)
      have e3 : decide (x.up > 3) = false := decide_eq_false (by omega)
      clear hbad HOKP HBADP
      by_cases hpq : p = q
      case pos =>
        have e4 : (p == q) = true := by simp [hpq]
        have HEA : Hid (arcsF chs LA x = LA ∧ nearF chs LB x = LB) := Lib.hid (by
          unfold arcsF nearF
          rw [HPQ.out.1, HPQ.out.2, if_pos hpq, if_pos hpq]
          exact ⟨rfl, rfl⟩)
        clear hpq
        go_wp2
        go_roundw
        case measure => have := HLT.out; simp [intOf] <;> omega
        case rel => exact ⟨k + 1, xa, ya, xc', yc, by have := HLT.out; omega, by go_num, HOK2.out, HKW.out, HFW.out, by rw [HFA.out, HFN.out, HEA.out.1, HEA.out.2]; exact HBW.out, by rw [HFA.out, HEA.out.1]; exact HLXW.out, by rw [HFN.out, HEA.out.2]; exact HLYW.out⟩
      have e4 : (p == q) = false := by simp [hpq]
      have HEN : Hid (nearF chs LB x = insP LB (min p q, max p q)) := Lib.hid (by unfold nearF; rw [HPQ.out.1, HPQ.out.2, if_neg hpq])
      have HEA : Hid (arcsF chs LA x = arcF2 chs (arcF1 chs LA x) x) := Lib.hid (by unfold arcsF; rw [HPQ.out.1, HPQ.out.2, if_neg hpq])
      have HE1 : Hid (x.up = 1 ∨ x.up = 3 → arcF1 chs LA x = insP LA (p, q)) := Lib.hid fun h => by unfold arcF1; rw [if_pos h, HPQ.out.1, HPQ.out.2]
      have HE1n : Hid (¬ (x.up = 1 ∨ x.up = 3) → arcF1 chs LA x = LA) := Lib.hid fun h => by unfold arcF1; rw [if_neg h]
      have HE2 : Hid (∀ A, x.up = 2 ∨ x.up = 3 → arcF2 chs A x = insP A (q, p)) := Lib.hid fun A h => by unfold arcF2; rw [if_pos h, HPQ.out.1, HPQ.out.2]
      have HE2n : Hid (∀ A, ¬ (x.up = 2 ∨ x.up = 3) → arcF2 chs A x = A) := Lib.hid fun A h => by unfold arcF2; rw [if_neg h]
      clear hpq
      obtain ⟨p0, p1, p2, pf⟩ := HBW.out
      have pb := lt_of_cell p0
      clear pf
      go_wp2_with fail
      clear p0 p1 p2 pb e1 e2 e3 e4 s0 s1 s2 s3 sb
      have hF : Calls Try.prog 134 #[.slice ya LB.length yc, .agg #[.int .i64 (min p q), .int .i64 (max p q)]] w7 (InsP (insP LB (min p q, max p q)) ya w7) := Rinsert_any LB ya yc (min p q, max p q) w7 HLYW.out.1 HLYW.out.2.2.1 HLYW.out.form HLYW.out.2.1 (by omega)
      refine hF.mono ?_
      clear hF
      intro e wn hins
      obtain ⟨zn, yn, rfl, hls', hk9, -⟩ := hins.lst HLYW.out (by have := HG.out; have := HFW.out.size; omega)
      have hb9 := HBW.out.kept hk9
      have HLn := Lib.hid (hls'.set (o := 2) (.slice zn (insP LB (min p q, max p q)).length yn))
      have HOn := Lib.hid ((HLXW.out.kept hk9).set (o := 2) (.slice zn (insP LB (min p q, max p q)).length yn))
      have HBn := Lib.hid (hb9.setB2 (.slice zn (insP LB (min p q, max p q)).length yn))
      have HKn := Lib.hid ((HKW.out.trans hk9).setCell (p := ⟨tb, 2, none⟩) (by have := HG.out; show w.heap.size ≤ tb; omega) (.slice zn (insP LB (min p q, max p q)).length yn))
      have HFn := Lib.hid ((HFW.out.kept hk9).setJ 2 (.slice zn (insP LB (min p q, max p q)).length yn))
      have HXn := Lib.hid ((HX7.out.kept hk9).set (o := 2) (u := (.slice zn (insP LB (min p q, max p q)).length yn)) HXB.out.1)
      have hiln : (insP LB (min p q, max p q)).length ≤ LB.length + 1 := insP_len _ _
      obtain ⟨p0, p1, p2, pf⟩ := hb9
      have f1 := pf 2
      have pb := lt_of_cell p0
      clear pf hins hls' hk9
      obtain ⟨s0, s1, s2, s3⟩ := HXn.out
      have sb := lt_of_cell s0
      obtain ⟨t0, t1, t2, tf⟩ := HBn.out
      have tbb := lt_of_cell t0
      clear tf
      by_cases h1 : x.up = 1
      case pos =>
        have HEE : Hid (arcsF chs LA x = insP LA (p, q)) := Lib.hid (by rw [HEA.out, HE1.out (.inl h1), HE2n.out _ (by omega)])
        have u1 : (x.up == 1) = true := by simp [h1]
        have u2 : (x.up == 2) = false := by simp [h1]
        have u3 : (x.up == 3) = false := by simp [h1]
        clear h1
        go_wp2_with fail
        clear p0 p1 p2 pb f1 s0 s1 s2 s3 sb t0 t1 t2 tbb
        have hF : Calls Try.prog 134 #[.slice xa LA.length xc', .agg #[.int .i64 (p), .int .i64 (q)]] (wn.setCell ⟨tb, 2, none⟩ (.slice zn (insP LB (min p q, max p q)).length yn)) (InsP (insP LA (p, q)) xa (wn.setCell ⟨tb, 2, none⟩ (.slice zn (insP LB (min p q, max p q)).length yn))) := Rinsert_any LA xa xc' (p, q) (wn.setCell ⟨tb, 2, none⟩ (.slice zn (insP LB (min p q, max p q)).length yn)) HOn.out.1 HOn.out.2.2.1 HOn.out.form HOn.out.2.1 (by omega)
        refine hF.mono ?_
        clear hF
        intro e wa hins
        obtain ⟨za, ya, rfl, hls', hk9, -⟩ := hins.lst HOn.out (by have := HG.out; have := HFn.out.size; omega)
        have hb9 := HBn.out.kept hk9
        have HLa := Lib.hid (hls'.set (o := 1) (.slice za (insP LA (p, q)).length ya))
        have HOa := Lib.hid ((HLn.out.kept hk9).set (o := 1) (.slice za (insP LA (p, q)).length ya))
        have HBa := Lib.hid (hb9.set1 (.slice za (insP LA (p, q)).length ya))
        have HKa := Lib.hid ((HKn.out.trans hk9).setCell (p := ⟨tb, 1, none⟩) (by have := HG.out; show w.heap.size ≤ tb; omega) (.slice za (insP LA (p, q)).length ya))
        have HFa := Lib.hid ((HFn.out.kept hk9).setJ 1 (.slice za (insP LA (p, q)).length ya))
        have HXa := Lib.hid ((HXn.out.kept hk9).set (o := 1) (u := (.slice za (insP LA (p, q)).length ya)) HXB.out.1)
        have hila : (insP LA (p, q)).length ≤ LA.length + 1 := insP_len _ _
        obtain ⟨p0, p1, p2, pf⟩ := hb9
        have f1 := pf 1
        have pb := lt_of_cell p0
        clear pf hins hls' hk9
        obtain ⟨s0, s1, s2, s3⟩ := HXa.out
        have sb := lt_of_cell s0
        obtain ⟨t0, t1, t2, tf⟩ := HBa.out
        have tbb := lt_of_cell t0
        clear tf
        go_wp2
        go_roundw
        case measure => have := HLT.out; simp [intOf] <;> omega
        case rel => exact ⟨k + 1, za, zn, ya, yn, by have := HLT.out; omega, by go_num, HOK2.out, HKa.out, HFa.out, by rw [HFA.out, HFN.out, HEN.out, HEE.out]; exact HBa.out, by rw [HFA.out, HEE.out]; exact HLa.out, by rw [HFN.out, HEN.out]; exact HOa.out⟩
      by_cases h3 : x.up = 3
      case pos =>
        have HEE : Hid (arcsF chs LA x = insP (insP LA (p, q)) (q, p)) := Lib.hid (by rw [HEA.out, HE1.out (.inr h3), HE2.out _ (.inr h3)])
        have u1 : (x.up == 1) = false := by simp [h3]
        have u2 : (x.up == 2) = false := by simp [h3]
        have u3 : (x.up == 3) = true := by simp [h3]
        clear h1 h3
        go_wp2_with fail
        clear p0 p1 p2 pb f1 s0 s1 s2 s3 sb t0 t1 t2 tbb
        have hF : Calls Try.prog 134 #[.slice xa LA.length xc', .agg #[.int .i64 (p), .int .i64 (q)]] (wn.setCell ⟨tb, 2, none⟩ (.slice zn (insP LB (min p q, max p q)).length yn)) (InsP (insP LA (p, q)) xa (wn.setCell ⟨tb, 2, none⟩ (.slice zn (insP LB (min p q, max p q)).length yn))) := Rinsert_any LA xa xc' (p, q) (wn.setCell ⟨tb, 2, none⟩ (.slice zn (insP LB (min p q, max p q)).length yn)) HOn.out.1 HOn.out.2.2.1 HOn.out.form HOn.out.2.1 (by omega)
        refine hF.mono ?_
        clear hF
        intro e wa hins
        obtain ⟨za, ya, rfl, hls', hk9, -⟩ := hins.lst HOn.out (by have := HG.out; have := HFn.out.size; omega)
        have hb9 := HBn.out.kept hk9
        have HLa := Lib.hid (hls'.set (o := 1) (.slice za (insP LA (p, q)).length ya))
        have HOa := Lib.hid ((HLn.out.kept hk9).set (o := 1) (.slice za (insP LA (p, q)).length ya))
        have HBa := Lib.hid (hb9.set1 (.slice za (insP LA (p, q)).length ya))
        have HKa := Lib.hid ((HKn.out.trans hk9).setCell (p := ⟨tb, 1, none⟩) (by have := HG.out; show w.heap.size ≤ tb; omega) (.slice za (insP LA (p, q)).length ya))
        have HFa := Lib.hid ((HFn.out.kept hk9).setJ 1 (.slice za (insP LA (p, q)).length ya))
        have HXa := Lib.hid ((HXn.out.kept hk9).set (o := 1) (u := (.slice za (insP LA (p, q)).length ya)) HXB.out.1)
        have hila : (insP LA (p, q)).length ≤ LA.length + 1 := insP_len _ _
        obtain ⟨p0, p1, p2, pf⟩ := hb9
        have f1 := pf 1
        have pb := lt_of_cell p0
        clear pf hins hls' hk9
        obtain ⟨s0, s1, s2, s3⟩ := HXa.out
        have sb := lt_of_cell s0
        obtain ⟨t0, t1, t2, tf⟩ := HBa.out
        have tbb := lt_of_cell t0
        clear tf
        go_wp2_with fail
        clear p0 p1 p2 pb f1 s0 s1 s2 s3 sb t0 t1 t2 tbb
        have hF : Calls Try.prog 134 #[.slice za (insP LA (p, q)).length ya, .agg #[.int .i64 (q), .int .i64 (p)]] (wa.setCell ⟨tb, 1, none⟩ (.slice za (insP LA (p, q)).length ya)) (InsP (insP (insP LA (p, q)) (q, p)) za (wa.setCell ⟨tb, 1, none⟩ (.slice za (insP LA (p, q)).length ya))) := Rinsert_any (insP LA (p, q)) za ya (q, p) (wa.setCell ⟨tb, 1, none⟩ (.slice za (insP LA (p, q)).length ya)) HLa.out.1 HLa.out.2.2.1 HLa.out.form HLa.out.2.1 (by omega)
        refine hF.mono ?_
        clear hF
        intro e wb hins
        obtain ⟨zb, yb, rfl, hls', hk9, -⟩ := hins.lst HLa.out (by have := HG.out; have := HFa.out.size; omega)
        have hb9 := HBa.out.kept hk9
        have HLb := Lib.hid (hls'.set (o := 1) (.slice zb (insP (insP LA (p, q)) (q, p)).length yb))
        have HOb := Lib.hid ((HOa.out.kept hk9).set (o := 1) (.slice zb (insP (insP LA (p, q)) (q, p)).length yb))
        have HBb := Lib.hid (hb9.set1 (.slice zb (insP (insP LA (p, q)) (q, p)).length yb))
        have HKb := Lib.hid ((HKa.out.trans hk9).setCell (p := ⟨tb, 1, none⟩) (by have := HG.out; show w.heap.size ≤ tb; omega) (.slice zb (insP (insP LA (p, q)) (q, p)).length yb))
        have HFb := Lib.hid ((HFa.out.kept hk9).setJ 1 (.slice zb (insP (insP LA (p, q)) (q, p)).length yb))
        have HXb := Lib.hid ((HXa.out.kept hk9).set (o := 1) (u := (.slice zb (insP (insP LA (p, q)) (q, p)).length yb)) HXB.out.1)
        have hilb : (insP (insP LA (p, q)) (q, p)).length ≤ (insP LA (p, q)).length + 1 := insP_len _ _
        obtain ⟨p0, p1, p2, pf⟩ := hb9
        have f1 := pf 1
        have pb := lt_of_cell p0
        clear pf hins hls' hk9
        obtain ⟨s0, s1, s2, s3⟩ := HXb.out
        have sb := lt_of_cell s0
        obtain ⟨t0, t1, t2, tf⟩ := HBb.out
        have tbb := lt_of_cell t0
        clear tf
        go_wp2
        go_roundw
        case measure => have := HLT.out; simp [intOf] <;> omega
        case rel => exact ⟨k + 1, zb, zn, yb, yn, by have := HLT.out; omega, by go_num, HOK2.out, HKb.out, HFb.out, by rw [HFA.out, HFN.out, HEN.out, HEE.out]; exact HBb.out, by rw [HFA.out, HEE.out]; exact HLb.out, by rw [HFN.out, HEN.out]; exact HOb.out⟩
      by_cases h2 : x.up = 2
      case pos =>
        have HEE : Hid (arcsF chs LA x = insP LA (q, p)) := Lib.hid (by rw [HEA.out, HE1n.out (by omega), HE2.out _ (.inl h2)])
        have u1 : (x.up == 1) = false := by simp [h2]
        have u2 : (x.up == 2) = true := by simp [h2]
        have u3 : (x.up == 3) = false := by simp [h2]
        clear h1 h3 h2
        go_wp2_with fail
        clear p0 p1 p2 pb f1 s0 s1 s2 s3 sb t0 t1 t2 tbb
        have hF : Calls Try.prog 134 #[.slice xa LA.length xc', .agg #[.int .i64 (q), .int .i64 (p)]] (wn.setCell ⟨tb, 2, none⟩ (.slice zn (insP LB (min p q, max p q)).length yn)) (InsP (insP LA (q, p)) xa (wn.setCell ⟨tb, 2, none⟩ (.slice zn (insP LB (min p q, max p q)).length yn))) := Rinsert_any LA xa xc' (q, p) (wn.setCell ⟨tb, 2, none⟩ (.slice zn (insP LB (min p q, max p q)).length yn)) HOn.out.1 HOn.out.2.2.1 HOn.out.form HOn.out.2.1 (by omega)
        refine hF.mono ?_
        clear hF
        intro e wa hins
        obtain ⟨za, ya, rfl, hls', hk9, -⟩ := hins.lst HOn.out (by have := HG.out; have := HFn.out.size; omega)
        have hb9 := HBn.out.kept hk9
        have HLa := Lib.hid (hls'.set (o := 1) (.slice za (insP LA (q, p)).length ya))
        have HOa := Lib.hid ((HLn.out.kept hk9).set (o := 1) (.slice za (insP LA (q, p)).length ya))
        have HBa := Lib.hid (hb9.set1 (.slice za (insP LA (q, p)).length ya))
        have HKa := Lib.hid ((HKn.out.trans hk9).setCell (p := ⟨tb, 1, none⟩) (by have := HG.out; show w.heap.size ≤ tb; omega) (.slice za (insP LA (q, p)).length ya))
        have HFa := Lib.hid ((HFn.out.kept hk9).setJ 1 (.slice za (insP LA (q, p)).length ya))
        have HXa := Lib.hid ((HXn.out.kept hk9).set (o := 1) (u := (.slice za (insP LA (q, p)).length ya)) HXB.out.1)
        have hila : (insP LA (q, p)).length ≤ LA.length + 1 := insP_len _ _
        obtain ⟨p0, p1, p2, pf⟩ := hb9
        have f1 := pf 1
        have pb := lt_of_cell p0
        clear pf hins hls' hk9
        obtain ⟨s0, s1, s2, s3⟩ := HXa.out
        have sb := lt_of_cell s0
        obtain ⟨t0, t1, t2, tf⟩ := HBa.out
        have tbb := lt_of_cell t0
        clear tf
        go_wp2
        go_roundw
        case measure => have := HLT.out; simp [intOf] <;> omega
        case rel => exact ⟨k + 1, za, zn, ya, yn, by have := HLT.out; omega, by go_num, HOK2.out, HKa.out, HFa.out, by rw [HFA.out, HFN.out, HEN.out, HEE.out]; exact HBa.out, by rw [HFA.out, HEE.out]; exact HLa.out, by rw [HFN.out, HEN.out]; exact HOa.out⟩
      have HEE : Hid (arcsF chs LA x = LA) := Lib.hid (by rw [HEA.out, HE1n.out (by omega), HE2n.out _ (by omega)])
      have u1 : (x.up == 1) = false := by simp [h1]
      have u2 : (x.up == 2) = false := by simp [h2]
      have u3 : (x.up == 3) = false := by simp [h3]
      clear h1 h2 h3
      go_wp2
      go_roundw
      case measure => have := HLT.out; simp [intOf] <;> omega
      case rel => exact ⟨k + 1, xa, zn, xc', yn, by have := HLT.out; omega, by go_num, HOK2.out, HKn.out, HFn.out, by rw [HFA.out, HFN.out, HEN.out, HEE.out]; exact HBn.out, by rw [HFA.out, HEE.out]; exact HOn.out, by rw [HFN.out, HEN.out]; exact HLn.out⟩
    obtain rfl : k = l.length := by omega
    rw [List.take_length] at HBR HLX HLY
    have HRES : Hid (R = (⟨chs.length, l.foldl (arcsF chs) [], l.foldl (nearF chs) []⟩, 0)) := Lib.hid (by
      rw [HX.out, if_pos]
      rw [List.all_eq_true]
      intro x hx
      obtain ⟨i, hi, rfl⟩ := List.getElem_of_mem hx
      exact HOK.out i hi hi)
    clear hk hlt
    have HP9 := Lib.hid (HP2.out.fr HFR.out (by have := HG.out; omega))
    obtain ⟨p0, p1, p2, pf⟩ := HBR.out
    have pb := lt_of_cell p0
    obtain ⟨s0, s1, s2, sf⟩ := HP9.out
    have f0 := sf 0
    have f1 := sf 1
    have f2 := sf 2
    have sb := lt_of_cell s0
    clear pf sf
    have HB9 := Lib.hid (HP9.out.set (chs.length : Int) (.slice xa (l.foldl (arcsF chs) []).length xc') (.slice ya (l.foldl (nearF chs) []).length yc))
    go_wp2
    refine bodyPost_ret (results_cell_tmp rfl _ _ ⟨g2, 0, none⟩ rfl _ (load24 HB9.out.c0 HB9.out.c1 HB9.out.c2)) rfl ?_
    have ht := HG.out
    rw [HRES.out]
    have h2 : g2 < tb := ht.2.2.2.1
    have h6 : w.heap.size ≤ g2 := ht.2.2.2.2.2.1
    exact ⟨xa, xc', ya, yc, rfl, (((HLX.out.setO h2 _).setO h2 _).setO h2 _).1, (((HLY.out.setO h2 _).setO h2 _).setO h2 _).1, ((HKR.out.setCell (p := ⟨g2, 0, none⟩) h6 _).setCell (p := ⟨g2, 1, none⟩) h6 _).setCell (p := ⟨g2, 2, none⟩) h6 _⟩
end Go.Proofs.Yteljjkghjbofnaa
