/- OrderJoins: the walk and the row. -/
import Derived.Test.YteljjkghjbofnaaLg
import Derived.Test.YteljjkghjbofnaaLi
import Derived.Test.YteljjkghjbofnaaTc
import Derived.Test.YteljjkghjbofnaaXk
import Derived.Test.YteljjkghjbofnaaKo
set_option maxRecDepth 100000
namespace Go.Proofs.Yteljjkghjbofnaa
open Go Go.Proofs Go.RowKit
attribute [local go_sem] Oper.semAt_some

structure Two (w X : World) (g0 g1 : Nat) (o p : Prob) (ao bo ap bp : Option Addr) (ca cb da db : Nat) : Prop where
  po : IsProb X o ao bo
  pp : IsProb X p ap bp
  b0 : ProbBox X g0 o ao ca bo cb
  b1 : ProbBox X g1 p ap da bp db
  k : Kept w X
theorem Two.kept {w X Y : World} {g0 g1 : Nat} {o p : Prob} {ao bo ap bp : Option Addr} {ca cb da db : Nat} (h : Two w X g0 g1 o p ao bo ap bp ca cb da db) (hk : Kept X Y) : Two w Y g0 g1 o p ao bo ap bp ca cb da db :=
  ⟨h.po.kept hk, h.pp.kept hk, h.b0.kept hk, h.b1.kept hk, h.k.trans hk⟩
theorem slim_prob {w : World} {o : Prob} {ao bo : Option Addr} (hA : Pairs w ao o.arcs) (hB : Pairs w bo o.near) (h : slimB o = true) : IsProb w o ao bo := by
  unfold slimB at h
  simp at h
  exact ⟨hA, hB, by omega, by omega⟩
theorem restR_len (o : Prob) (keep : List Int) (h : keep.length ≤ 30) : (RestrictR o keep).1.arcs.length ≤ 900 ∧ (RestrictR o keep).1.near.length ≤ 900 := by
  unfold RestrictR
  split
  · split
    · have h1 := keptK_len (fun a b => hasS ((webOf o).to (pick keep a)) (pick keep b)) keep.length keep.length
      have h2 := keptK_len (fun a b => decide (a < b) && hasS ((webOf o).near (pick keep a)) (pick keep b)) keep.length keep.length
      have h3 : keep.length * keep.length ≤ 30 * 30 := Nat.mul_le_mul h h
      exact ⟨Nat.le_trans h1 h3, Nat.le_trans h2 h3⟩
    · exact ⟨by simp, by simp⟩
  · exact ⟨by simp, by simp⟩
theorem joinR_lens (o p : Prob) : (JoinR o p).1.arcs.length ≤ 1152 ∧ (JoinR o p).1.near.length ≤ 1152 := by
  by_cases h : (JoinR o p).2 = 0
  · obtain ⟨c1, c2, c3, c4⟩ := joinR_parts h
    have l1 := arcs_len c1
    have l2 := arcs_len c2
    have l3 := near_lenJ c1
    have l4 := near_lenJ c2
    have m1 := uniP_len o.arcs p.arcs
    have m2 := uniP_len o.near p.near
    rw [c4]
    exact ⟨by show (uniP o.arcs p.arcs).length ≤ _; omega, by show (uniP o.near p.near).length ≤ _; omega⟩
  · have : (JoinR o p).1 = ⟨0, [], []⟩ := by
      unfold JoinR at *
      by_cases h1 : chk o ≠ 0
      · rw [if_pos h1]
      · rw [if_neg h1] at h ⊢
        by_cases h2 : chk p ≠ 0
        · rw [if_pos h2]
        · rw [if_neg h2] at h ⊢
          by_cases h3 : o.N ≠ p.N
          · rw [if_pos h3]
          · rw [if_neg h3] at h
            exact absurd rfl h
    rw [this]
    exact ⟨by simp, by simp⟩
theorem allI_succ (k : Nat) : allI (k + 1) = allI k ++ [(k : Int)] := by
  unfold allI
  rw [List.range_succ, List.map_append]
  rfl

set_option maxHeartbeats 8000000 in
theorem OrderJoins_any (o p : Prob) (ao bo ap bp : Option Addr) (ca cb da db : Nat) (keep : List Int) (lo : Option Addr) (lc : Nat) (w : World) (hA : Pairs w ao o.arcs) (hB : Pairs w bo o.near) (hC : Pairs w ap p.arcs) (hD : Pairs w bp p.near) (hL : Ints w lo keep) (hna : ao = none → ca = 0) (hnb : bo = none → cb = 0) (hma : ap = none → da = 0) (hmb : bp = none → db = 0) (hlc : keep.length ≤ lc) :
    Calls Try.prog 20 #[probV o ao ca bo cb, probV p ap da bp db, .slice lo keep.length lc] w (Gives (.bool true) w) := by
  have HO : Hid (slimB o = true → IsProb w o ao bo) := Lib.hid (slim_prob hA hB)
  have HP : Hid (slimB p = true → IsProb w p ap bp) := Lib.hid (slim_prob hC hD)
  have HL := Lib.hid hL
  have HNA := Lib.hid hna
  have HNB := Lib.hid hnb
  have HMA := Lib.hid hma
  have HMB := Lib.hid hmb
  clear hA hB hC hD hL hna hnb hma hmb
  go_enter Try.func20, Try.ntmps20
  go_wp2_with fail
  obtain ⟨w0, e0, hk0, hb0, e5⟩ := alloc_prob w o.N o.arcs o.near ao ca bo cb
  rw [e0]
  clear e0
  obtain ⟨w1, e1, hk1, hb1, e6⟩ := alloc_prob w0 p.N p.arcs p.near ap da bp db
  rw [e1]
  clear e1
  obtain ⟨g0, hg0⟩ : ∃ g0, w.heap.size = g0 := ⟨_, rfl⟩
  obtain ⟨g1, hg1⟩ : ∃ g1, w0.heap.size = g1 := ⟨_, rfl⟩
  rw [hg0] at hb0
  rw [hg1] at hb1
  try rw [e5]
  rw [hg1, hg0]
  have HB0 := Lib.hid (hb0.kept hk1)
  have HB1 := Lib.hid hb1
  have HK1 := Lib.hid (hk0.trans hk1)
  clear hk0 hb0 e5 hk1 hb1 e6 hg0 hg1
  obtain ⟨q0, q1, q2⟩ := HB0.out
  have qb := lt_of_cell q0
  go_wp2_with fail
  clear q0 q1 q2 qb
  refine (slim_any o ao bo ca cb w1).mono ?_
  rintro e w2 ⟨rfl, hk⟩
  have HK2 := Lib.hid (HK1.out.trans hk)
  have HB02 := Lib.hid (HB0.out.kept hk)
  have HB12 := Lib.hid (HB1.out.kept hk)
  clear hk HK1 HB0 HB1
  cases hs : slimB o
  · clear hs
    go_wp2_with fail
    refine (alive_any w2).mono ?_
    rintro e w3 ⟨rfl, hk⟩
    have HKZ := Lib.hid (HK2.out.trans hk)
    clear hk
    go_wp2
    go_ret
    exact ⟨rfl, HKZ.out⟩
  have HO2 := Lib.hid (HO.out hs)
  clear hs HO
  obtain ⟨q0, q1, q2⟩ := HB12.out
  have qb := lt_of_cell q0
  go_wp2_with fail
  clear q0 q1 q2 qb
  refine (slim_any p ap bp da db w2).mono ?_
  rintro e w3 ⟨rfl, hk⟩
  have HK3 := Lib.hid (HK2.out.trans hk)
  have HB03 := Lib.hid (HB02.out.kept hk)
  have HB13 := Lib.hid (HB12.out.kept hk)
  clear hk HK2 HB02 HB12
  cases hs : slimB p
  · clear hs
    go_wp2_with fail
    refine (alive_any w3).mono ?_
    rintro e w4 ⟨rfl, hk⟩
    have HKZ := Lib.hid (HK3.out.trans hk)
    clear hk
    go_wp2
    go_ret
    exact ⟨rfl, HKZ.out⟩
  have T : Hid (Two w w3 g0 g1 o p ao bo ap bp ca cb da db) := Lib.hid ⟨HO2.out.kept HK3.out, (HP.out hs).kept HK3.out, HB03.out, HB13.out, HK3.out⟩
  have KL := Lib.hid (HL.out.kept HK3.out)
  clear hs HP HO2 HK3 HB03 HB13 HL
  by_cases h30 : 30 < keep.length
  · have e1 : decide ((keep.length : Int) > 30) = true := decide_eq_true (by omega)
    clear h30
    go_wp2_with fail
    refine (alive_any w3).mono ?_
    rintro e w4 ⟨rfl, hk⟩
    have HKZ := Lib.hid (T.out.k.trans hk)
    clear hk
    go_wp2
    go_ret
    exact ⟨rfl, HKZ.out⟩
  have e1 : decide ((keep.length : Int) > 30) = false := decide_eq_false (by omega)
  have H30 : Hid (keep.length ≤ 30) := Lib.hid (by omega)
  clear h30
  have HLR := Lib.hid (restR_len o keep H30.out)
  have HLJ := Lib.hid (joinR_lens o p)
  have HJC : Hid ((JoinR o p).2 = 0 → JoinR p o = JoinR o p ∧ JoinR o o = (o, 0) ∧ RestrictR o (allI (webOf o).n) = (o, 0) ∧ ((webOf o).n : Int) = o.N ∧ (webOf o).n ≤ 24) := Lib.hid fun h => by
    have hc := (joinR_parts h).1
    exact ⟨join_comm h, join_self hc, rest_all hc, webOf_nI hc, webOf_n hc⟩
  obtain ⟨A, hA⟩ : ∃ A, RestrictR o keep = A := ⟨_, rfl⟩
  obtain ⟨C, hC⟩ : ∃ C, JoinR o p = C := ⟨_, rfl⟩
  rw [hA] at HLR
  rw [hC] at HLJ HJC
  have HA := Lib.hid hA
  have HC := Lib.hid hC
  clear hA hC
  obtain ⟨A, ea⟩ := A
  obtain ⟨C, ec⟩ := C
  simp only [] at HLR HLJ HJC
  obtain ⟨p0, p1, p2⟩ := T.out.b0
  have pb := lt_of_cell p0
  go_wp2_with fail
  clear p0 p1 p2 pb e1
  have hF := Restrict_any o ao bo ca cb keep lo lc w3 T.out.po KL.out H30.out
  rw [HA.out] at hF
  simp only [] at hF
  refine hF.mono ?_
  clear hF
  rintro e w4 ⟨raa, rac, rab, rad, rfl, hva, hvb, hk⟩
  have Tn := Lib.hid (T.out.kept hk)
  clear T
  have T := Tn
  clear Tn
  have KLn := Lib.hid (KL.out.kept hk)
  clear KL
  have KL := KLn
  clear KLn
  have Ira : Hid (IsProb w4 A raa rab) := Lib.hid ⟨ownPairs hva, ownPairs hvb, by have := HLR.out.1; omega, by have := HLR.out.2; omega⟩
  clear hva hvb hk
  obtain ⟨w5, era, hk, hb, -⟩ := alloc_prob w4 A.N A.arcs A.near raa rac rab rad
  have Tn := Lib.hid (T.out.kept hk)
  clear T
  have T := Tn
  clear Tn
  have KLn := Lib.hid (KL.out.kept hk)
  clear KL
  have KL := KLn
  clear KLn
  have Iran := Lib.hid (Ira.out.kept hk)
  clear Ira
  have Ira := Iran
  clear Iran
  obtain ⟨tra, htra⟩ : ∃ x, w4.heap.size = x := ⟨_, rfl⟩
  rw [htra] at hb
  have Xra : Hid (ProbBox w5 tra A raa rac rab rad) := Lib.hid hb
  clear hb hk
  obtain ⟨p0, p1, p2⟩ := T.out.b0
  have pb := lt_of_cell p0
  go_wp2_with fail
  clear p0 p1 p2 pb era htra
  have hF := RRestrict_any o ao bo ca cb keep lo lc w5 T.out.po KL.out H30.out hlc
  rw [HA.out] at hF
  simp only [] at hF
  refine hF.mono ?_
  clear hF
  rintro e w6 ⟨rba, rbc, rbb, rbd, rfl, hva, hvb, hk⟩
  have Tn := Lib.hid (T.out.kept hk)
  clear T
  have T := Tn
  clear Tn
  have KLn := Lib.hid (KL.out.kept hk)
  clear KL
  have KL := KLn
  clear KLn
  have Iran := Lib.hid (Ira.out.kept hk)
  clear Ira
  have Ira := Iran
  clear Iran
  have Xran := Lib.hid (Xra.out.kept hk)
  clear Xra
  have Xra := Xran
  clear Xran
  have Irb : Hid (IsProb w6 A rba rbb) := Lib.hid ⟨hva, hvb, by have := HLR.out.1; omega, by have := HLR.out.2; omega⟩
  clear hva hvb hk
  obtain ⟨w7, erb, hk, hb, -⟩ := alloc_prob w6 A.N A.arcs A.near rba rbc rbb rbd
  have Tn := Lib.hid (T.out.kept hk)
  clear T
  have T := Tn
  clear Tn
  have KLn := Lib.hid (KL.out.kept hk)
  clear KL
  have KL := KLn
  clear KLn
  have Iran := Lib.hid (Ira.out.kept hk)
  clear Ira
  have Ira := Iran
  clear Iran
  have Xran := Lib.hid (Xra.out.kept hk)
  clear Xra
  have Xra := Xran
  clear Xran
  have Irbn := Lib.hid (Irb.out.kept hk)
  clear Irb
  have Irb := Irbn
  clear Irbn
  obtain ⟨trb, htrb⟩ : ∃ x, w6.heap.size = x := ⟨_, rfl⟩
  rw [htrb] at hb
  have Xrb : Hid (ProbBox w7 trb A rba rbc rbb rbd) := Lib.hid hb
  clear hb hk
  obtain ⟨p0, p1, p2⟩ := T.out.b0
  have pb := lt_of_cell p0
  obtain ⟨q0, q1, q2⟩ := T.out.b1
  have qb := lt_of_cell q0
  go_wp2_with fail
  clear p0 p1 p2 pb q0 q1 q2 qb erb htrb
  have hF := Join_any o p ao bo ap bp ca cb da db w7 T.out.po T.out.pp HNA.out HNB.out HMA.out HMB.out
  rw [HC.out] at hF
  simp only [] at hF
  refine hF.mono ?_
  clear hF
  rintro e w8 ⟨jaa, jac, jab, jad, rfl, hva, hvb, hk⟩
  have Tn := Lib.hid (T.out.kept hk)
  clear T
  have T := Tn
  clear Tn
  have KLn := Lib.hid (KL.out.kept hk)
  clear KL
  have KL := KLn
  clear KLn
  have Iran := Lib.hid (Ira.out.kept hk)
  clear Ira
  have Ira := Iran
  clear Iran
  have Xran := Lib.hid (Xra.out.kept hk)
  clear Xra
  have Xra := Xran
  clear Xran
  have Irbn := Lib.hid (Irb.out.kept hk)
  clear Irb
  have Irb := Irbn
  clear Irbn
  have Xrbn := Lib.hid (Xrb.out.kept hk)
  clear Xrb
  have Xrb := Xrbn
  clear Xrbn
  have Ija : Hid (IsProb w8 C jaa jab) := Lib.hid ⟨ownPairs hva, ownPairs hvb, by have := HLJ.out.1; omega, by have := HLJ.out.2; omega⟩
  clear hva hvb hk
  obtain ⟨w9, eja, hk, hb, -⟩ := alloc_prob w8 C.N C.arcs C.near jaa jac jab jad
  have Tn := Lib.hid (T.out.kept hk)
  clear T
  have T := Tn
  clear Tn
  have KLn := Lib.hid (KL.out.kept hk)
  clear KL
  have KL := KLn
  clear KLn
  have Iran := Lib.hid (Ira.out.kept hk)
  clear Ira
  have Ira := Iran
  clear Iran
  have Xran := Lib.hid (Xra.out.kept hk)
  clear Xra
  have Xra := Xran
  clear Xran
  have Irbn := Lib.hid (Irb.out.kept hk)
  clear Irb
  have Irb := Irbn
  clear Irbn
  have Xrbn := Lib.hid (Xrb.out.kept hk)
  clear Xrb
  have Xrb := Xrbn
  clear Xrbn
  have Ijan := Lib.hid (Ija.out.kept hk)
  clear Ija
  have Ija := Ijan
  clear Ijan
  obtain ⟨tja, htja⟩ : ∃ x, w8.heap.size = x := ⟨_, rfl⟩
  rw [htja] at hb
  have Xja : Hid (ProbBox w9 tja C jaa jac jab jad) := Lib.hid hb
  clear hb hk
  obtain ⟨p0, p1, p2⟩ := T.out.b0
  have pb := lt_of_cell p0
  obtain ⟨q0, q1, q2⟩ := T.out.b1
  have qb := lt_of_cell q0
  go_wp2_with fail
  clear p0 p1 p2 pb q0 q1 q2 qb eja htja
  have hF := RJoin_any o p ao bo ap bp ca cb da db w9 T.out.po T.out.pp HNA.out HNB.out
  rw [HC.out] at hF
  simp only [] at hF
  refine hF.mono ?_
  clear hF
  rintro e w10 ⟨jba, jbc, jbb, jbd, rfl, hva, hvb, hk⟩
  have Tn := Lib.hid (T.out.kept hk)
  clear T
  have T := Tn
  clear Tn
  have KLn := Lib.hid (KL.out.kept hk)
  clear KL
  have KL := KLn
  clear KLn
  have Iran := Lib.hid (Ira.out.kept hk)
  clear Ira
  have Ira := Iran
  clear Iran
  have Xran := Lib.hid (Xra.out.kept hk)
  clear Xra
  have Xra := Xran
  clear Xran
  have Irbn := Lib.hid (Irb.out.kept hk)
  clear Irb
  have Irb := Irbn
  clear Irbn
  have Xrbn := Lib.hid (Xrb.out.kept hk)
  clear Xrb
  have Xrb := Xrbn
  clear Xrbn
  have Ijan := Lib.hid (Ija.out.kept hk)
  clear Ija
  have Ija := Ijan
  clear Ijan
  have Xjan := Lib.hid (Xja.out.kept hk)
  clear Xja
  have Xja := Xjan
  clear Xjan
  have Ijb : Hid (IsProb w10 C jba jbb) := Lib.hid ⟨hva, hvb, by have := HLJ.out.1; omega, by have := HLJ.out.2; omega⟩
  clear hva hvb hk
  obtain ⟨w11, ejb, hk, hb, -⟩ := alloc_prob w10 C.N C.arcs C.near jba jbc jbb jbd
  have Tn := Lib.hid (T.out.kept hk)
  clear T
  have T := Tn
  clear Tn
  have KLn := Lib.hid (KL.out.kept hk)
  clear KL
  have KL := KLn
  clear KLn
  have Iran := Lib.hid (Ira.out.kept hk)
  clear Ira
  have Ira := Iran
  clear Iran
  have Xran := Lib.hid (Xra.out.kept hk)
  clear Xra
  have Xra := Xran
  clear Xran
  have Irbn := Lib.hid (Irb.out.kept hk)
  clear Irb
  have Irb := Irbn
  clear Irbn
  have Xrbn := Lib.hid (Xrb.out.kept hk)
  clear Xrb
  have Xrb := Xrbn
  clear Xrbn
  have Ijan := Lib.hid (Ija.out.kept hk)
  clear Ija
  have Ija := Ijan
  clear Ijan
  have Xjan := Lib.hid (Xja.out.kept hk)
  clear Xja
  have Xja := Xjan
  clear Xjan
  have Ijbn := Lib.hid (Ijb.out.kept hk)
  clear Ijb
  have Ijb := Ijbn
  clear Ijbn
  obtain ⟨tjb, htjb⟩ : ∃ x, w10.heap.size = x := ⟨_, rfl⟩
  rw [htjb] at hb
  have Xjb : Hid (ProbBox w11 tjb C jba jbc jbb jbd) := Lib.hid hb
  clear hb hk
  have ee : (ea != ea) = false := by simp
  have ef : (ec != ec) = false := by simp
  obtain ⟨p0, p1, p2⟩ := Xra.out
  have pb := lt_of_cell p0
  obtain ⟨q0, q1, q2⟩ := Xrb.out
  have qb := lt_of_cell q0
  go_wp2_with fail
  clear p0 p1 p2 pb q0 q1 q2 qb ejb htjb
  refine (Same_any A raa rab rba rbb rac rad rbc rbd w11 Ira.out Irb.out).mono ?_
  rintro e w12 ⟨rfl, hk⟩
  have Tn := Lib.hid (T.out.kept hk)
  clear T
  have T := Tn
  clear Tn
  have KLn := Lib.hid (KL.out.kept hk)
  clear KL
  have KL := KLn
  clear KLn
  have Iran := Lib.hid (Ira.out.kept hk)
  clear Ira
  have Ira := Iran
  clear Iran
  have Xran := Lib.hid (Xra.out.kept hk)
  clear Xra
  have Xra := Xran
  clear Xran
  have Irbn := Lib.hid (Irb.out.kept hk)
  clear Irb
  have Irb := Irbn
  clear Irbn
  have Xrbn := Lib.hid (Xrb.out.kept hk)
  clear Xrb
  have Xrb := Xrbn
  clear Xrbn
  have Ijan := Lib.hid (Ija.out.kept hk)
  clear Ija
  have Ija := Ijan
  clear Ijan
  have Xjan := Lib.hid (Xja.out.kept hk)
  clear Xja
  have Xja := Xjan
  clear Xjan
  have Ijbn := Lib.hid (Ijb.out.kept hk)
  clear Ijb
  have Ijb := Ijbn
  clear Ijbn
  have Xjbn := Lib.hid (Xjb.out.kept hk)
  clear Xjb
  have Xjb := Xjbn
  clear Xjbn
  clear hk
  obtain ⟨p0, p1, p2⟩ := Xja.out
  have pb := lt_of_cell p0
  obtain ⟨q0, q1, q2⟩ := Xjb.out
  have qb := lt_of_cell q0
  go_wp2_with fail
  clear p0 p1 p2 pb q0 q1 q2 qb  ee ef
  refine (Same_any C jaa jab jba jbb jac jad jbc jbd w12 Ija.out Ijb.out).mono ?_
  rintro e w13 ⟨rfl, hk⟩
  have Tn := Lib.hid (T.out.kept hk)
  clear T
  have T := Tn
  clear Tn
  have KLn := Lib.hid (KL.out.kept hk)
  clear KL
  have KL := KLn
  clear KLn
  have Iran := Lib.hid (Ira.out.kept hk)
  clear Ira
  have Ira := Iran
  clear Iran
  have Xran := Lib.hid (Xra.out.kept hk)
  clear Xra
  have Xra := Xran
  clear Xran
  have Irbn := Lib.hid (Irb.out.kept hk)
  clear Irb
  have Irb := Irbn
  clear Irbn
  have Xrbn := Lib.hid (Xrb.out.kept hk)
  clear Xrb
  have Xrb := Xrbn
  clear Xrbn
  have Ijan := Lib.hid (Ija.out.kept hk)
  clear Ija
  have Ija := Ijan
  clear Ijan
  have Xjan := Lib.hid (Xja.out.kept hk)
  clear Xja
  have Xja := Xjan
  clear Xjan
  have Ijbn := Lib.hid (Ijb.out.kept hk)
  clear Ijb
  have Ijb := Ijbn
  clear Ijbn
  have Xjbn := Lib.hid (Xjb.out.kept hk)
  clear Xjb
  have Xjb := Xjbn
  clear Xjbn
  clear hk
  by_cases hj : ec = 0
  case neg =>
    have e1 : (ec != 0) = true := by simp [hj]
    clear hj
    go_wp2_with fail
    refine (alive_any w13).mono ?_
    rintro e w99 ⟨rfl, hk⟩
    have HKZ := Lib.hid (T.out.k.trans hk)
    clear hk
    go_wp2
    go_ret
    exact ⟨rfl, HKZ.out⟩
  have e1 : (ec != 0) = false := by simp [hj]
  have HJ := Lib.hid hj
  obtain ⟨j1, j2, j3, j4, j5⟩ := HJC.out hj
  have HJ1 := Lib.hid j1
  have HJ2 := Lib.hid j2
  have HJ3 := Lib.hid j3
  have HJ4 := Lib.hid j4
  have HJ5 := Lib.hid j5
  clear hj j1 j2 j3 j4 j5 HJC
  obtain ⟨p0, p1, p2⟩ := T.out.b0
  have pb := lt_of_cell p0
  obtain ⟨q0, q1, q2⟩ := T.out.b1
  have qb := lt_of_cell q0
  go_wp2_with fail
  clear p0 p1 p2 pb q0 q1 q2 qb  e1
  have hF := Join_any p o ap bp ao bo da db ca cb w13 T.out.pp T.out.po HMA.out HMB.out HNA.out HNB.out
  rw [HJ1.out] at hF
  simp only [] at hF
  refine hF.mono ?_
  clear hF
  rintro e w14 ⟨kaa, kac, kab, kad, rfl, hva, hvb, hk⟩
  have Tn := Lib.hid (T.out.kept hk)
  clear T
  have T := Tn
  clear Tn
  have KLn := Lib.hid (KL.out.kept hk)
  clear KL
  have KL := KLn
  clear KLn
  have Iran := Lib.hid (Ira.out.kept hk)
  clear Ira
  have Ira := Iran
  clear Iran
  have Xran := Lib.hid (Xra.out.kept hk)
  clear Xra
  have Xra := Xran
  clear Xran
  have Irbn := Lib.hid (Irb.out.kept hk)
  clear Irb
  have Irb := Irbn
  clear Irbn
  have Xrbn := Lib.hid (Xrb.out.kept hk)
  clear Xrb
  have Xrb := Xrbn
  clear Xrbn
  have Ijan := Lib.hid (Ija.out.kept hk)
  clear Ija
  have Ija := Ijan
  clear Ijan
  have Xjan := Lib.hid (Xja.out.kept hk)
  clear Xja
  have Xja := Xjan
  clear Xjan
  have Ijbn := Lib.hid (Ijb.out.kept hk)
  clear Ijb
  have Ijb := Ijbn
  clear Ijbn
  have Xjbn := Lib.hid (Xjb.out.kept hk)
  clear Xjb
  have Xjb := Xjbn
  clear Xjbn
  have Ika : Hid (IsProb w14 C kaa kab) := Lib.hid ⟨ownPairs hva, ownPairs hvb, by have := HLJ.out.1; omega, by have := HLJ.out.2; omega⟩
  clear hva hvb hk
  obtain ⟨w15, eka, hk, hb, -⟩ := alloc_prob w14 C.N C.arcs C.near kaa kac kab kad
  have Tn := Lib.hid (T.out.kept hk)
  clear T
  have T := Tn
  clear Tn
  have KLn := Lib.hid (KL.out.kept hk)
  clear KL
  have KL := KLn
  clear KLn
  have Iran := Lib.hid (Ira.out.kept hk)
  clear Ira
  have Ira := Iran
  clear Iran
  have Xran := Lib.hid (Xra.out.kept hk)
  clear Xra
  have Xra := Xran
  clear Xran
  have Irbn := Lib.hid (Irb.out.kept hk)
  clear Irb
  have Irb := Irbn
  clear Irbn
  have Xrbn := Lib.hid (Xrb.out.kept hk)
  clear Xrb
  have Xrb := Xrbn
  clear Xrbn
  have Ijan := Lib.hid (Ija.out.kept hk)
  clear Ija
  have Ija := Ijan
  clear Ijan
  have Xjan := Lib.hid (Xja.out.kept hk)
  clear Xja
  have Xja := Xjan
  clear Xjan
  have Ijbn := Lib.hid (Ijb.out.kept hk)
  clear Ijb
  have Ijb := Ijbn
  clear Ijbn
  have Xjbn := Lib.hid (Xjb.out.kept hk)
  clear Xjb
  have Xjb := Xjbn
  clear Xjbn
  have Ikan := Lib.hid (Ika.out.kept hk)
  clear Ika
  have Ika := Ikan
  clear Ikan
  obtain ⟨tka, htka⟩ : ∃ x, w14.heap.size = x := ⟨_, rfl⟩
  rw [htka] at hb
  have Xka : Hid (ProbBox w15 tka C kaa kac kab kad) := Lib.hid hb
  clear hb hk
  obtain ⟨p0, p1, p2⟩ := T.out.b0
  have pb := lt_of_cell p0
  go_wp2_with fail
  clear p0 p1 p2 pb eka htka
  have hF := Join_any o o ao bo ao bo ca cb ca cb w15 T.out.po T.out.po HNA.out HNB.out HNA.out HNB.out
  rw [HJ2.out] at hF
  simp only [] at hF
  refine hF.mono ?_
  clear hF
  rintro e w16 ⟨maa, mac, mab, mad, rfl, hva, hvb, hk⟩
  have Tn := Lib.hid (T.out.kept hk)
  clear T
  have T := Tn
  clear Tn
  have KLn := Lib.hid (KL.out.kept hk)
  clear KL
  have KL := KLn
  clear KLn
  have Iran := Lib.hid (Ira.out.kept hk)
  clear Ira
  have Ira := Iran
  clear Iran
  have Xran := Lib.hid (Xra.out.kept hk)
  clear Xra
  have Xra := Xran
  clear Xran
  have Irbn := Lib.hid (Irb.out.kept hk)
  clear Irb
  have Irb := Irbn
  clear Irbn
  have Xrbn := Lib.hid (Xrb.out.kept hk)
  clear Xrb
  have Xrb := Xrbn
  clear Xrbn
  have Ijan := Lib.hid (Ija.out.kept hk)
  clear Ija
  have Ija := Ijan
  clear Ijan
  have Xjan := Lib.hid (Xja.out.kept hk)
  clear Xja
  have Xja := Xjan
  clear Xjan
  have Ijbn := Lib.hid (Ijb.out.kept hk)
  clear Ijb
  have Ijb := Ijbn
  clear Ijbn
  have Xjbn := Lib.hid (Xjb.out.kept hk)
  clear Xjb
  have Xjb := Xjbn
  clear Xjbn
  have Ikan := Lib.hid (Ika.out.kept hk)
  clear Ika
  have Ika := Ikan
  clear Ikan
  have Xkan := Lib.hid (Xka.out.kept hk)
  clear Xka
  have Xka := Xkan
  clear Xkan
  have Ima : Hid (IsProb w16 o maa mab) := Lib.hid ⟨ownPairs hva, ownPairs hvb, T.out.po.la, T.out.po.lb⟩
  clear hva hvb hk
  obtain ⟨w17, ema, hk, hb, -⟩ := alloc_prob w16 o.N o.arcs o.near maa mac mab mad
  have Tn := Lib.hid (T.out.kept hk)
  clear T
  have T := Tn
  clear Tn
  have KLn := Lib.hid (KL.out.kept hk)
  clear KL
  have KL := KLn
  clear KLn
  have Iran := Lib.hid (Ira.out.kept hk)
  clear Ira
  have Ira := Iran
  clear Iran
  have Xran := Lib.hid (Xra.out.kept hk)
  clear Xra
  have Xra := Xran
  clear Xran
  have Irbn := Lib.hid (Irb.out.kept hk)
  clear Irb
  have Irb := Irbn
  clear Irbn
  have Xrbn := Lib.hid (Xrb.out.kept hk)
  clear Xrb
  have Xrb := Xrbn
  clear Xrbn
  have Ijan := Lib.hid (Ija.out.kept hk)
  clear Ija
  have Ija := Ijan
  clear Ijan
  have Xjan := Lib.hid (Xja.out.kept hk)
  clear Xja
  have Xja := Xjan
  clear Xjan
  have Ijbn := Lib.hid (Ijb.out.kept hk)
  clear Ijb
  have Ijb := Ijbn
  clear Ijbn
  have Xjbn := Lib.hid (Xjb.out.kept hk)
  clear Xjb
  have Xjb := Xjbn
  clear Xjbn
  have Ikan := Lib.hid (Ika.out.kept hk)
  clear Ika
  have Ika := Ikan
  clear Ikan
  have Xkan := Lib.hid (Xka.out.kept hk)
  clear Xka
  have Xka := Xkan
  clear Xkan
  have Iman := Lib.hid (Ima.out.kept hk)
  clear Ima
  have Ima := Iman
  clear Iman
  obtain ⟨tma, htma⟩ : ∃ x, w16.heap.size = x := ⟨_, rfl⟩
  rw [htma] at hb
  have Xma : Hid (ProbBox w17 tma o maa mac mab mad) := Lib.hid hb
  clear hb hk
  obtain ⟨p0, p1, p2⟩ := T.out.b0
  have pb := lt_of_cell p0
  go_wp2_with fail
  clear p0 p1 p2 pb ema htma
  obtain ⟨n, hn⟩ : ∃ n, (webOf o).n = n := ⟨_, rfl⟩
  rw [hn] at HJ3 HJ4 HJ5
  clear hn
  have hn24 := HJ5.out
  go_loopw [19, 20, 98] (fun v19 _ i wr => ∃ k : Nat, k ≤ n ∧ i = .int .i64 k ∧ OwnI wr w17.heap.size v19 (allI k) ∧ Kept w17 wr) (fun _ _ i _ => n - (intOf i).toNat)
  case atStart => exact ⟨0, Nat.zero_le _, rfl, OwnI.nil _ _, Kept.refl _⟩
  case round =>
    obtain ⟨k, hk, rfl, hown, hkr⟩ := hrel
    obtain ⟨fo, fc, rfl, hfc, hfi⟩ := hown.slice
    have HOWN := Lib.hid hown
    have HKR := Lib.hid hkr
    have HFI := Lib.hid hfi
    have HFC := Lib.hid hfc
    rw [allI_len] at HOWN HFC ⊢
    clear hown hkr hfi hfc
    by_cases hlt : k < n
    case pos =>
      have hki : decide ((k : Int) < o.N) = true := decide_eq_true (by have := HJ4.out; omega)
      have HLT := Lib.hid hlt
      go_wp2_with (first | (at_builtin; refine append_int (wr.alloc (.cells #[.int .i64 (k : Int)] 3)) rfl _ _ rfl w17.heap.size (.slice fo k fc) (allI k) rfl (HOWN.out.kept ((Kept.refl _).alloc _)) wr.heap.size 1 (k : Int) rfl (by simp [go_sem]) (by rw [allI_len]; omega) (by have := HKR.out.size; simp; omega) ?_; intro g6 c6 w6 hown6 hg6; have HO6 := Lib.hid hown6; have HK6 := Lib.hid ((HKR.out.alloc (.cells #[.int .i64 (k : Int)] 3)).grown hg6 (fun r e => (HOWN.out.lt r e).1)); clear hown6 hg6) | fail)
      go_roundw
      case measure => have := HLT.out; simp [intOf] <;> omega
      case rel => exact ⟨k + 1, HLT.out, by go_num, by rw [allI_succ]; exact HO6.out, HK6.out⟩
    have hki : decide ((k : Int) < o.N) = false := decide_eq_false (by have := HJ4.out; omega)
    obtain rfl : k = n := by omega
    have KA := HFI
    have Tn := Lib.hid (T.out.kept HKR.out)
    clear T
    have T := Tn
    clear Tn
    have KLn := Lib.hid (KL.out.kept HKR.out)
    clear KL
    have KL := KLn
    clear KLn
    have Iran := Lib.hid (Ira.out.kept HKR.out)
    clear Ira
    have Ira := Iran
    clear Iran
    have Xran := Lib.hid (Xra.out.kept HKR.out)
    clear Xra
    have Xra := Xran
    clear Xran
    have Irbn := Lib.hid (Irb.out.kept HKR.out)
    clear Irb
    have Irb := Irbn
    clear Irbn
    have Xrbn := Lib.hid (Xrb.out.kept HKR.out)
    clear Xrb
    have Xrb := Xrbn
    clear Xrbn
    have Ijan := Lib.hid (Ija.out.kept HKR.out)
    clear Ija
    have Ija := Ijan
    clear Ijan
    have Xjan := Lib.hid (Xja.out.kept HKR.out)
    clear Xja
    have Xja := Xjan
    clear Xjan
    have Ijbn := Lib.hid (Ijb.out.kept HKR.out)
    clear Ijb
    have Ijb := Ijbn
    clear Ijbn
    have Xjbn := Lib.hid (Xjb.out.kept HKR.out)
    clear Xjb
    have Xjb := Xjbn
    clear Xjbn
    have Ikan := Lib.hid (Ika.out.kept HKR.out)
    clear Ika
    have Ika := Ikan
    clear Ikan
    have Xkan := Lib.hid (Xka.out.kept HKR.out)
    clear Xka
    have Xka := Xkan
    clear Xkan
    have Iman := Lib.hid (Ima.out.kept HKR.out)
    clear Ima
    have Ima := Iman
    clear Iman
    have Xman := Lib.hid (Xma.out.kept HKR.out)
    clear Xma
    have Xma := Xman
    clear Xman
    clear hk hlt HKR HOWN
    obtain ⟨p0, p1, p2⟩ := T.out.b0
    have pb := lt_of_cell p0
    go_wp2_with fail
    clear p0 p1 p2 pb  hki
    have hll : (allI k).length ≤ 30 := by rw [allI_len]; omega
    have hF := (by have h := Restrict_any o ao bo ca cb (allI k) fo fc wr T.out.po KA.out hll; rw [allI_len] at h; exact h : Calls Try.prog 71 #[probV o ao ca bo cb, .slice fo k fc] wr (ProbPost (RestrictR o (allI k)).1 (RestrictR o (allI k)).2 wr))
    rw [HJ3.out] at hF
    simp only [] at hF
    refine hF.mono ?_
    clear hF
    rintro e w18 ⟨naa, nac, nab, nad, rfl, hva, hvb, hk⟩
    have Tn := Lib.hid (T.out.kept hk)
    clear T
    have T := Tn
    clear Tn
    have KLn := Lib.hid (KL.out.kept hk)
    clear KL
    have KL := KLn
    clear KLn
    have Iran := Lib.hid (Ira.out.kept hk)
    clear Ira
    have Ira := Iran
    clear Iran
    have Xran := Lib.hid (Xra.out.kept hk)
    clear Xra
    have Xra := Xran
    clear Xran
    have Irbn := Lib.hid (Irb.out.kept hk)
    clear Irb
    have Irb := Irbn
    clear Irbn
    have Xrbn := Lib.hid (Xrb.out.kept hk)
    clear Xrb
    have Xrb := Xrbn
    clear Xrbn
    have Ijan := Lib.hid (Ija.out.kept hk)
    clear Ija
    have Ija := Ijan
    clear Ijan
    have Xjan := Lib.hid (Xja.out.kept hk)
    clear Xja
    have Xja := Xjan
    clear Xjan
    have Ijbn := Lib.hid (Ijb.out.kept hk)
    clear Ijb
    have Ijb := Ijbn
    clear Ijbn
    have Xjbn := Lib.hid (Xjb.out.kept hk)
    clear Xjb
    have Xjb := Xjbn
    clear Xjbn
    have Ikan := Lib.hid (Ika.out.kept hk)
    clear Ika
    have Ika := Ikan
    clear Ikan
    have Xkan := Lib.hid (Xka.out.kept hk)
    clear Xka
    have Xka := Xkan
    clear Xkan
    have Iman := Lib.hid (Ima.out.kept hk)
    clear Ima
    have Ima := Iman
    clear Iman
    have Xman := Lib.hid (Xma.out.kept hk)
    clear Xma
    have Xma := Xman
    clear Xman
    have Ina : Hid (IsProb w18 o naa nab) := Lib.hid ⟨ownPairs hva, ownPairs hvb, T.out.po.la, T.out.po.lb⟩
    clear hva hvb hk
    obtain ⟨w19, ena, hk, hb, -⟩ := alloc_prob w18 o.N o.arcs o.near naa nac nab nad
    have Tn := Lib.hid (T.out.kept hk)
    clear T
    have T := Tn
    clear Tn
    have KLn := Lib.hid (KL.out.kept hk)
    clear KL
    have KL := KLn
    clear KLn
    have Iran := Lib.hid (Ira.out.kept hk)
    clear Ira
    have Ira := Iran
    clear Iran
    have Xran := Lib.hid (Xra.out.kept hk)
    clear Xra
    have Xra := Xran
    clear Xran
    have Irbn := Lib.hid (Irb.out.kept hk)
    clear Irb
    have Irb := Irbn
    clear Irbn
    have Xrbn := Lib.hid (Xrb.out.kept hk)
    clear Xrb
    have Xrb := Xrbn
    clear Xrbn
    have Ijan := Lib.hid (Ija.out.kept hk)
    clear Ija
    have Ija := Ijan
    clear Ijan
    have Xjan := Lib.hid (Xja.out.kept hk)
    clear Xja
    have Xja := Xjan
    clear Xjan
    have Ijbn := Lib.hid (Ijb.out.kept hk)
    clear Ijb
    have Ijb := Ijbn
    clear Ijbn
    have Xjbn := Lib.hid (Xjb.out.kept hk)
    clear Xjb
    have Xjb := Xjbn
    clear Xjbn
    have Ikan := Lib.hid (Ika.out.kept hk)
    clear Ika
    have Ika := Ikan
    clear Ikan
    have Xkan := Lib.hid (Xka.out.kept hk)
    clear Xka
    have Xka := Xkan
    clear Xkan
    have Iman := Lib.hid (Ima.out.kept hk)
    clear Ima
    have Ima := Iman
    clear Iman
    have Xman := Lib.hid (Xma.out.kept hk)
    clear Xma
    have Xma := Xman
    clear Xman
    have Inan := Lib.hid (Ina.out.kept hk)
    clear Ina
    have Ina := Inan
    clear Inan
    obtain ⟨tna, htna⟩ : ∃ x, w18.heap.size = x := ⟨_, rfl⟩
    rw [htna] at hb
    have Xna : Hid (ProbBox w19 tna o naa nac nab nad) := Lib.hid hb
    clear hb hk
    go_wp2_with fail
    clear  ena htna
    refine (alive_any w19).mono ?_
    rintro e w20 ⟨rfl, hk⟩
    have Tn := Lib.hid (T.out.kept hk)
    clear T
    have T := Tn
    clear Tn
    have KLn := Lib.hid (KL.out.kept hk)
    clear KL
    have KL := KLn
    clear KLn
    have Iran := Lib.hid (Ira.out.kept hk)
    clear Ira
    have Ira := Iran
    clear Iran
    have Xran := Lib.hid (Xra.out.kept hk)
    clear Xra
    have Xra := Xran
    clear Xran
    have Irbn := Lib.hid (Irb.out.kept hk)
    clear Irb
    have Irb := Irbn
    clear Irbn
    have Xrbn := Lib.hid (Xrb.out.kept hk)
    clear Xrb
    have Xrb := Xrbn
    clear Xrbn
    have Ijan := Lib.hid (Ija.out.kept hk)
    clear Ija
    have Ija := Ijan
    clear Ijan
    have Xjan := Lib.hid (Xja.out.kept hk)
    clear Xja
    have Xja := Xjan
    clear Xjan
    have Ijbn := Lib.hid (Ijb.out.kept hk)
    clear Ijb
    have Ijb := Ijbn
    clear Ijbn
    have Xjbn := Lib.hid (Xjb.out.kept hk)
    clear Xjb
    have Xjb := Xjbn
    clear Xjbn
    have Ikan := Lib.hid (Ika.out.kept hk)
    clear Ika
    have Ika := Ikan
    clear Ikan
    have Xkan := Lib.hid (Xka.out.kept hk)
    clear Xka
    have Xka := Xkan
    clear Xkan
    have Iman := Lib.hid (Ima.out.kept hk)
    clear Ima
    have Ima := Iman
    clear Iman
    have Xman := Lib.hid (Xma.out.kept hk)
    clear Xma
    have Xma := Xman
    clear Xman
    have Inan := Lib.hid (Ina.out.kept hk)
    clear Ina
    have Ina := Inan
    clear Inan
    have Xnan := Lib.hid (Xna.out.kept hk)
    clear Xna
    have Xna := Xnan
    clear Xnan
    clear hk
    have e1 : (ec == 0) = true := by rw [HJ.out]; rfl
    obtain ⟨p0, p1, p2⟩ := Xja.out
    have pb := lt_of_cell p0
    obtain ⟨q0, q1, q2⟩ := Xka.out
    have qb := lt_of_cell q0
    go_wp2_with fail
    clear p0 p1 p2 pb q0 q1 q2 qb  e1
    refine (Same_any C jaa jab kaa kab jac jad kac kad w20 Ija.out Ika.out).mono ?_
    rintro e w21 ⟨rfl, hk⟩
    have Tn := Lib.hid (T.out.kept hk)
    clear T
    have T := Tn
    clear Tn
    have KLn := Lib.hid (KL.out.kept hk)
    clear KL
    have KL := KLn
    clear KLn
    have Iran := Lib.hid (Ira.out.kept hk)
    clear Ira
    have Ira := Iran
    clear Iran
    have Xran := Lib.hid (Xra.out.kept hk)
    clear Xra
    have Xra := Xran
    clear Xran
    have Irbn := Lib.hid (Irb.out.kept hk)
    clear Irb
    have Irb := Irbn
    clear Irbn
    have Xrbn := Lib.hid (Xrb.out.kept hk)
    clear Xrb
    have Xrb := Xrbn
    clear Xrbn
    have Ijan := Lib.hid (Ija.out.kept hk)
    clear Ija
    have Ija := Ijan
    clear Ijan
    have Xjan := Lib.hid (Xja.out.kept hk)
    clear Xja
    have Xja := Xjan
    clear Xjan
    have Ijbn := Lib.hid (Ijb.out.kept hk)
    clear Ijb
    have Ijb := Ijbn
    clear Ijbn
    have Xjbn := Lib.hid (Xjb.out.kept hk)
    clear Xjb
    have Xjb := Xjbn
    clear Xjbn
    have Ikan := Lib.hid (Ika.out.kept hk)
    clear Ika
    have Ika := Ikan
    clear Ikan
    have Xkan := Lib.hid (Xka.out.kept hk)
    clear Xka
    have Xka := Xkan
    clear Xkan
    have Iman := Lib.hid (Ima.out.kept hk)
    clear Ima
    have Ima := Iman
    clear Iman
    have Xman := Lib.hid (Xma.out.kept hk)
    clear Xma
    have Xma := Xman
    clear Xman
    have Inan := Lib.hid (Ina.out.kept hk)
    clear Ina
    have Ina := Inan
    clear Inan
    have Xnan := Lib.hid (Xna.out.kept hk)
    clear Xna
    have Xna := Xnan
    clear Xnan
    clear hk
    obtain ⟨p0, p1, p2⟩ := Xma.out
    have pb := lt_of_cell p0
    obtain ⟨q0, q1, q2⟩ := T.out.b0
    have qb := lt_of_cell q0
    go_wp2_with fail
    clear p0 p1 p2 pb q0 q1 q2 qb 
    refine (Same_any o maa mab ao bo mac mad ca cb w21 Ima.out T.out.po).mono ?_
    rintro e w22 ⟨rfl, hk⟩
    have Tn := Lib.hid (T.out.kept hk)
    clear T
    have T := Tn
    clear Tn
    have KLn := Lib.hid (KL.out.kept hk)
    clear KL
    have KL := KLn
    clear KLn
    have Iran := Lib.hid (Ira.out.kept hk)
    clear Ira
    have Ira := Iran
    clear Iran
    have Xran := Lib.hid (Xra.out.kept hk)
    clear Xra
    have Xra := Xran
    clear Xran
    have Irbn := Lib.hid (Irb.out.kept hk)
    clear Irb
    have Irb := Irbn
    clear Irbn
    have Xrbn := Lib.hid (Xrb.out.kept hk)
    clear Xrb
    have Xrb := Xrbn
    clear Xrbn
    have Ijan := Lib.hid (Ija.out.kept hk)
    clear Ija
    have Ija := Ijan
    clear Ijan
    have Xjan := Lib.hid (Xja.out.kept hk)
    clear Xja
    have Xja := Xjan
    clear Xjan
    have Ijbn := Lib.hid (Ijb.out.kept hk)
    clear Ijb
    have Ijb := Ijbn
    clear Ijbn
    have Xjbn := Lib.hid (Xjb.out.kept hk)
    clear Xjb
    have Xjb := Xjbn
    clear Xjbn
    have Ikan := Lib.hid (Ika.out.kept hk)
    clear Ika
    have Ika := Ikan
    clear Ikan
    have Xkan := Lib.hid (Xka.out.kept hk)
    clear Xka
    have Xka := Xkan
    clear Xkan
    have Iman := Lib.hid (Ima.out.kept hk)
    clear Ima
    have Ima := Iman
    clear Iman
    have Xman := Lib.hid (Xma.out.kept hk)
    clear Xma
    have Xma := Xman
    clear Xman
    have Inan := Lib.hid (Ina.out.kept hk)
    clear Ina
    have Ina := Inan
    clear Inan
    have Xnan := Lib.hid (Xna.out.kept hk)
    clear Xna
    have Xna := Xnan
    clear Xnan
    clear hk
    obtain ⟨p0, p1, p2⟩ := Xna.out
    have pb := lt_of_cell p0
    obtain ⟨q0, q1, q2⟩ := T.out.b0
    have qb := lt_of_cell q0
    go_wp2_with fail
    clear p0 p1 p2 pb q0 q1 q2 qb 
    refine (Same_any o naa nab ao bo nac nad ca cb w22 Ina.out T.out.po).mono ?_
    rintro e w23 ⟨rfl, hk⟩
    have Tn := Lib.hid (T.out.kept hk)
    clear T
    have T := Tn
    clear Tn
    have KLn := Lib.hid (KL.out.kept hk)
    clear KL
    have KL := KLn
    clear KLn
    have Iran := Lib.hid (Ira.out.kept hk)
    clear Ira
    have Ira := Iran
    clear Iran
    have Xran := Lib.hid (Xra.out.kept hk)
    clear Xra
    have Xra := Xran
    clear Xran
    have Irbn := Lib.hid (Irb.out.kept hk)
    clear Irb
    have Irb := Irbn
    clear Irbn
    have Xrbn := Lib.hid (Xrb.out.kept hk)
    clear Xrb
    have Xrb := Xrbn
    clear Xrbn
    have Ijan := Lib.hid (Ija.out.kept hk)
    clear Ija
    have Ija := Ijan
    clear Ijan
    have Xjan := Lib.hid (Xja.out.kept hk)
    clear Xja
    have Xja := Xjan
    clear Xjan
    have Ijbn := Lib.hid (Ijb.out.kept hk)
    clear Ijb
    have Ijb := Ijbn
    clear Ijbn
    have Xjbn := Lib.hid (Xjb.out.kept hk)
    clear Xjb
    have Xjb := Xjbn
    clear Xjbn
    have Ikan := Lib.hid (Ika.out.kept hk)
    clear Ika
    have Ika := Ikan
    clear Ikan
    have Xkan := Lib.hid (Xka.out.kept hk)
    clear Xka
    have Xka := Xkan
    clear Xkan
    have Iman := Lib.hid (Ima.out.kept hk)
    clear Ima
    have Ima := Iman
    clear Iman
    have Xman := Lib.hid (Xma.out.kept hk)
    clear Xma
    have Xma := Xman
    clear Xman
    have Inan := Lib.hid (Ina.out.kept hk)
    clear Ina
    have Ina := Inan
    clear Inan
    have Xnan := Lib.hid (Xna.out.kept hk)
    clear Xna
    have Xna := Xnan
    clear Xnan
    clear hk
    go_wp2
    go_ret
    exact ⟨rfl, T.out.k⟩
end Go.Proofs.Yteljjkghjbofnaa

set_option maxRecDepth 100000
namespace Go.Proofs.Yteljjkghjbofnaa
open Go Go.ChangeShapes Go.WideShapes Go.ChangeAt Go.RowKit Go.Joins

theorem orderJoins_lifted (os : Os) (started : os.Started) (H : Type) (enc : TypeId × Value → H) :
    ReturnsInHanded {} Try.checked os 20 .any (Rows.orderJoinsSpec.pre6 enc Try.prog Try.f20 Rows.orderJoinsRow.domain false) (Rows.orderJoinsSpec.post enc Try.prog Try.f20 false true false false) := by
  refine returnsInHanded_of_change (C := Try.checked) try_own started (by kernel_rfl) Try.func20
    (ChangeSpec.witness6 (enc := enc) (C := Try.checked) false ⟨#[], #[.agg #[.int .i64 0, .slice none 0 0, .slice none 0 0], .agg #[.int .i64 0, .slice none 0 0, .slice none 0 0], .slice none 0 0], []⟩ 8 (by kernel_rfl) (by kernel_rfl) (by kernel_rfl) (by kernel_rfl)) ?_
  intro W base args ds gs before hval0 hW hcnd _
  have hval : ∀ (j : Nat) t v, Try.f20.params[j]? = some t → args[j]? = some v → Value.okWide Try.prog W .any base t v := hval0
  have hW' := hW
  obtain ⟨p, q, hA0, hV, rfl, hfz, hnd⟩ := hW
  have hA : DataW.TrodAll enc Try.prog W 0 (fun _ => true) true Try.f20.params.toList args.toList ds p := hA0
  rw [Try.params20] at hA hval
  obtain ⟨v0, v1, v2, d0, d1, d2, p0, p1, p2, rfl, rfl, rfl, h0, h1, h2⟩ := trodAll_three hA
  obtain ⟨o0, ao0, bo0, ca0, cb0, rfl, hpa0, hpb0, hna0, hnb0⟩ := open_probNN (hval 0 24 v0 rfl rfl) h0
  obtain ⟨o1, ao1, bo1, ca1, cb1, rfl, hpa1, hpb1, hna1, hnb1⟩ := open_probNN (hval 1 24 v1 rfl rfl) h1
  obtain ⟨l2, lo2, c2, rfl, hl2, hc2, hn2⟩ := open_seqN (hval 2 31 v2 rfl rfl) h2
  refine (OrderJoins_any o0 o1 ao0 bo0 ao1 bo1 ca0 cb0 ca1 cb1 l2 lo2 c2 W hpa0 hpb0 hpa1 hpb1 hl2 hna0 hnb0 hna1 hnb1 hc2).mono fun e W' ⟨he, hk⟩ => ⟨_, he, ?_⟩
  refine law_post hW' rfl ?_ (by kernel_rfl) ?_ ?_ ?_ hk
  · rw [Try.params20]
    intro t ht
    simp only [List.mem_cons, List.not_mem_nil, or_false] at ht
    rcases ht with rfl | rfl | rfl
    all_goals exact ⟨by kernel_rfl, of_decide_eq_true (by kernel_rfl)⟩
  all_goals
    obtain ⟨rfl, rfl⟩ := trodVars_none hV
    rfl

theorem orderJoins_wf : Rows.orderJoinsRow.wf (OpenSpec.ofChange Rows.orderJoinsSpec) = true := by kernel_rfl
theorem orderJoins_inPlace : (Rows.orderJoinsRow.inPlace == Try.prog.inPlace 20) = true := by kernel_rfl
theorem orderJoins_unfollowed : (Rows.orderJoinsRow.unfollowed == Try.prog.unfollowed 20) = true := by kernel_rfl
theorem orderJoins_recurses : (Rows.orderJoinsRow.recurses == Try.prog.recurses 20) = true := by kernel_rfl
theorem orderJoins_named : (Rows.orderJoinsRow.named == Try.prog.varsNamed 20) = true := by kernel_rfl
theorem orderJoins_closed : joinedFacts Try.prog 20 Try.f20 Rows.orderJoinsSpec Rows.orderJoinsRow = true := by
  unfold joinedFacts
  simp only [Bool.and_eq_true]
  exact ⟨⟨⟨⟨⟨⟨⟨⟨⟨⟨⟨⟨⟨⟨⟨⟨⟨⟨⟨⟨⟨⟨⟨⟨⟨⟨⟨⟨⟨⟨⟨orderJoins_wf, try_laidOut⟩, pf_rowed⟩, by kernel_rfl⟩, by kernel_rfl⟩, by kernel_rfl⟩, pf_stops⟩, by kernel_rfl⟩, pf_knobs⟩, orderJoins_inPlace⟩, orderJoins_unfollowed⟩, orderJoins_recurses⟩, orderJoins_named⟩, by kernel_rfl⟩, by kernel_rfl⟩, by kernel_rfl⟩, by kernel_rfl⟩, by kernel_rfl⟩, by kernel_rfl⟩, by kernel_rfl⟩, by kernel_rfl⟩, by kernel_rfl⟩, pf_keys⟩, by kernel_rfl⟩, pf_heard⟩, pf_enter⟩, pf_lifts⟩, pf_make⟩, by kernel_rfl⟩, by kernel_rfl⟩, by kernel_rfl⟩, by kernel_rfl⟩
theorem orderJoins_inst : Try.f20.isInstance Try.prog Rows.orderJoinsRow.origin Rows.orderJoinsRow.targs := of_decide_eq_true (by kernel_rfl)
theorem orderJoins_wrap : Try.f20.isWrapper Try.prog Rows.orderJoinsRow.wrapper Rows.orderJoinsRow.mainSum := by
  unfold Func.isWrapper; rw [if_neg (by decide +kernel)]; exact ⟨rfl, rfl⟩
theorem orderJoins_func : Try.prog.funcNamed Rows.orderJoinsRow.func = some 20 := by kernel_rfl
theorem orderJoins_holds : Rows.OrderJoinsSaid :=
  OpenClaim.holds_of_wide (p := Try.pinned) (s := Rows.orderJoinsSpec) (c := Rows.orderJoinsRow) 20 Try.f20 rfl rfl rfl rfl rfl rfl rfl ⟨rfl, rfl, rfl, rfl, rfl⟩ rfl rfl rfl rfl rfl orderJoins_func Try.func20
    orderJoins_closed orderJoins_inst orderJoins_wrap
    (fun os started H enc _ => orderJoins_lifted os started H enc)
#print axioms orderJoins_holds
end Go.Proofs.Yteljjkghjbofnaa
