/- CopyPlays: the walk. -/
import Derived.Test.YthkaaheeblehhaaGreatDoorCpRef
import Derived.Test.YthkaaheeblehhaaGreatDoorRcAll
import Derived.WalkKit
import Derived.WalkLawsBesides
import Derived.WalkSpells
import Derived.RegionTactic
import Derived.Deep.RegionHeld3
import Derived.Deep.QuietTactic
import Derived.BigQuiet
import Derived.Outline
namespace Go.Proofs.YthkaaheeblehhaaGreatDoor.copyPlays
open Go.ChangeShapes Go.WideShapes Go.ChangeAt Go.RowKit Go.Joins Go.Deep
set_option linter.unusedVariables false

theorem same_errW (n : Int) (W : World) (h : HG W) : Calls Tryz.prog 8 #[errV n, .int .i64 n] W fun e w' => e = .returned (.bool true) ∧ Below W.heap.size W w' :=
  (same_err n W W (DG.refl h)).mono fun e w' ⟨h1, h2⟩ => ⟨h1, h2.2⟩
theorem same_eW (n : Int) (W : World) (h : HG W) : Calls Tryz.prog 8 #[eV n, .int .i64 n] W fun e w' => e = .returned (.bool true) ∧ Below W.heap.size W w' :=
  (same_eV n W W (DG.refl h)).mono fun e w' ⟨h1, h2⟩ => ⟨h1, h2.2⟩
theorem same_nilW (W : World) : Calls Tryz.prog 8 #[.nilIface, .int .i64 0] W fun e w' => e = .returned (.bool true) ∧ Below W.heap.size W w' :=
  (same_nil W).mono fun e w' ⟨h1, h2⟩ => ⟨h1, h2 ▸ Below.refl _ _⟩
theorem doC_n (R : List Ru) (s : Cs) (a : Ak) : (doC R s a).n ≤ s.n + 1 := by
  unfold doC; split
  · omega
  · exact Nat.le_refl _
theorem same_ts (L : List (List Va)) (hL : L.length ≤ 20) (A B : Option Addr) (c d : Nat) (W : World) (hA : Many Vals W A L) (hB : Many Vals W B L) :
    Calls Tryz.prog 14 #[.slice A L.length c, .slice B L.length d] W fun e w' => e = .returned (.bool true) ∧ Below W.heap.size W w' :=
  (same_tuples A B c d L L W hA hB (by unfold maxLen; omega)).mono fun e w' ⟨h1, h2⟩ => ⟨by rw [h1, decide_eq_true rfl], h2⟩
/-- the reference's list, read -/
theorem RCp.list {w : World} {base p q : Nat} {g h : Option Nat} {R : List Ru} {s : Cs} (j : RCp w base p q g h R s) : ∃ E n, w.cell? ⟨p, 1, none⟩ = some (.pointer (some ⟨q, 0, none⟩)) ∧ w.cell? ⟨q, 0, none⟩ = some (.slice E s.L.length n) ∧ Many Vals w E s.L ∧ p < w.heap.size ∧ q < w.heap.size := by
  obtain ⟨RA, rc, A, c, D, h1, _⟩ := j.there
  obtain ⟨E, n, q1, q2, q3⟩ := j.spc.there
  exact ⟨E, n, h1.cell rfl, q1.cell rfl, q3.many, h1.lt, q1.lt⟩
set_option maxHeartbeats 6400000 in
set_option maxRecDepth 100000 in
theorem walk (w : World) (hgt : HG w ∧ TT w) (RA : Option Addr) (rc : Nat) (R : List Ru) (hn1 : R.length ≤ rc) (hm1 : rc ≤ maxLen) (hR : Rls w RA R) (hokr : okR R)
    (A : Option Addr) (c : Nat) (l : List Ak) (hn2 : l.length ≤ c) (hm2 : c ≤ maxLen) (hA : Aks w A l) (hok : okA l) :
    Calls Tryz.prog 3 #[.slice RA R.length rc, .slice A l.length c] w fun e w' => e = .returned (.bool true) ∧ Below w.heap.size w w' := by
  obtain ⟨hg, ht⟩ := hgt
  have hrin := RIn.of_arg hR
  have hmR : R.length ≤ maxLen := Nat.le_trans hn1 hm1
  have csr := srules_any RA rc R hmR hokr w hR
  obtain ⟨X, rfl, hX⟩ := RX.of_arg hR (Nat.le_refl w.heap.size)
  rw [List.length_map] at csr ⊢
  have htt : ∀ W, Below w.heap.size w W → TT W := fun W h => tab_stays (g := 2) (by kernel_rfl) ht h (Nat.le_refl _)
  have HR := Lib.hid hR; have HOKR := Lib.hid hokr; have HA := Lib.hid hA; have HOK := Lib.hid hok; have HTT := Lib.hid htt; have HX := Lib.hid hX; have HG0 := Lib.hid hg; have HRIN := Lib.hid hrin; have HMR := Lib.hid hmR
  clear hR hokr hA hok htt ht hX hg hrin hmR
  by_cases er : rulE (X.map (·.1)) = 0
  · rw [er] at csr
    have cn := fun (W : World) (hW : Below w.heap.size w W) => cpnew_ok (w := W) (base := w.heap.size) hW.size RA rc X (HX.out.below (Nat.le_refl _) hW) er HOKR.out
    have cr := fun (W : World) (hW : Below w.heap.size w W) => rcnew_any (w := W) (base := w.heap.size) hW.size RA rc (X.map (·.1)) (HRIN.out.later hW) er HOKR.out
    simp only [List.length_map] at cr
    have CSR := Lib.hid csr; have CN := Lib.hid cn; have CR := Lib.hid cr
    clear csr cn cr er
    go_enter Tryz.func3, Tryz.ntmps3
    go_wp2_with (first
      | (go_at_call 6; refine CSR.out.mono ?_; rintro e w1 ⟨rfl, hb1⟩; have HB1 := Lib.hid hb1; clear hb1)
      | (go_at_call 7; refine (CN.out _ HB1.out).mono ?_; rintro e w2 ⟨p, q, m, rfl, hC1, hb2, _, _, _⟩; have HC1 := Lib.hid hC1; have HB2 := Lib.hid (bcl HB1.out hb2); clear hC1 hb2)
      | (go_at_call 8; refine (same_nilW _).mono ?_; rintro e w3 ⟨rfl, hb3⟩; have HC3 := Lib.hid (HC1.out.keep hb3); have HB3 := Lib.hid (bcl HB2.out hb3); clear hb3)
      | (go_at_call 9; refine (CR.out _ HB3.out).mono ?_; rintro e w4 ⟨p2, q2, rfl, hR4, hb4, h1, h2⟩; have HJ0 : Hid (CJ w w4 p q none m (X.map (·.1)) Cs.zero p2 q2 none none Cs.zero) := Lib.hid ⟨HG0.out, bcl HB3.out hb4, HC3.out.keep hb4, hR4, fun b hb h => by have := HC3.out.lts b hb; rcases h with h | h | h | h <;> first | (cases h; done) | omega⟩; clear hR4 hb4 h1 h2))
    clear HC1 HB1 HB2 HC3 HB3 CN CR CSR
    go_loopw [8, 10, 11, 12, 13, 14, 15, 16, 17, 18] (fun _ s10 _ _ _ _ _ _ _ _ wr => ∃ (k : Nat) (g g2 h2 : Option Nat) (s : Cs), k ≤ l.length ∧ k ≤ 60 ∧ s.n ≤ k ∧ s10 = .int .i64 k ∧ Hid (CJ w wr p q g m (X.map (·.1)) s p2 q2 g2 h2 s)) (fun _ s10 _ _ _ _ _ _ _ _ _ => 61 - (intOf s10).toNat)
    case atStart => exact ⟨0, none, none, none, Cs.zero, Nat.zero_le _, by omega, Nat.le_refl _, rfl, HJ0⟩
    case round =>
      clear HJ0
      obtain ⟨k, g, g2, h2, s, hkl, hk60, hsn, rfl, HJ⟩ := hrel
      by_cases t1 : k < l.length
      · by_cases t2 : k < 60
        · obtain ⟨ba, oa, B, C, rfl, hbl, c0, c1', c2, c3, hv, hb1, hb2⟩ := HA.out.at_ t1
          obtain ⟨hokt, w1, w2, w3⟩ := HOK.out k t1
          have i0 : (0 : Int) ≤ (k : Int) := by omega
          have i1 : (k : Int) < (l.length : Nat) := by omega
          have cells := fun (W : World) (hW : Below w.heap.size w W) => And.intro ((hW.cell (p := ⟨ba, oa + k * 4, none⟩) hbl).trans c0) (And.intro ((hW.cell (p := ⟨ba, oa + k * 4 + 1, none⟩) hbl).trans c1') (And.intro ((hW.cell (p := ⟨ba, oa + k * 4 + 2, none⟩) hbl).trans c2) ((hW.cell (p := ⟨ba, oa + k * 4 + 3, none⟩) hbl).trans c3)))
          have ns := doC_n (X.map (·.1)) s (ak l k)
          generalize ak l k = a at *
          have hvin := fun (W : World) (hW : Below w.heap.size w W) => (Vin.of_arg hv (Nat.le_refl _)).below hW (Nat.le_refl _) (Nat.le_refl _)
          have crd := rcdo_any HJ.out.r (by omega) a B C hb1 hb2 hokt w2 (hvin wr HJ.out.b)
          have cd := fun (W : World) (g2 h2 : Option Nat) (s2 : Cs) (j : CJ w W p q g m (X.map (·.1)) s p2 q2 g2 h2 s2) => cpdo_any j.c (fun W' h => HTT.out W' (j.b.trans h)) (by omega) a B C (Nat.le_trans hb1 hb2) hokt w2 (hv.below j.b (Nat.le_refl _))
          have cm := fun (W : World) (g g2 h2 : Option Nat) (s2 : Cs) (j : CJ w W p q g m (X.map (·.1)) (doC (X.map (·.1)) s a) p2 q2 g2 h2 s2) => cpmark_any j.c (fun W' h => HTT.out W' (j.b.trans h))
          have crm := fun (W : World) (g g2 h2 : Option Nat) (s1 : Cs) (j : CJ w W p q g m (X.map (·.1)) s1 p2 q2 g2 h2 (doC (X.map (·.1)) s a)) => rcmark_any j.r
          have HCELL := Lib.hid cells; have CRD := Lib.hid crd; have CD := Lib.hid cd; have CM_ := Lib.hid cm; have CRM := Lib.hid crm
          have NS := Lib.hid ns
          obtain ⟨d0, d1, d2, d3⟩ := cells wr HJ.out.b
          clear crd cd cm crm ns c0 c1' c2 c3 hv hokt w1 w2 w3 cells hvin hb1 hb2
          obtain ⟨x, q', d, t⟩ := a
          simp only [akv] at *
          generalize hS' : doC (X.map (·.1)) s ⟨x, q', d, t⟩ = s' at *
          generalize doS (X.map (·.1)) s ⟨x, q', d, t⟩ = S at *
          generalize doE (X.map (·.1)) s ⟨x, q', d, t⟩ = E at *
          have qS := str_same S
          have vv : (mkV s' == mkV s') = true := beq_self_eq_true _
          have nn : (((s'.n : Nat) : Int) == ((s'.n : Nat) : Int)) = true := beq_self_eq_true _
          generalize mkV s' = V at *
          clear hS'
          go_wp2_with fail
          refine CRD.out.mono ?_
          rintro e wa ⟨rfl, ga, ha, hca, hka, hna, hma⟩
          have HJa := Lib.hid (HJ.out.ref hca hka hna hma)
          clear hca hka hna hma d0 d1 d2 d3
          obtain ⟨d0, d1, d2, d3⟩ := HCELL.out wa HJa.out.b
          go_wp2_with fail
          refine (CD.out wa ga ha _ HJa.out).mono ?_
          rintro e wb ⟨rfl, gb, hcb, hkb, hnb⟩
          have HJb := Lib.hid (HJa.out.copy hcb hkb hnb)
          clear hcb hkb hnb d0 d1 d2 d3 HJa
          go_wp2_with (first
            | (go_at_call 12; refine (CM_.out wb gb ga ha _ HJb.out).mono ?_; rintro e wd ⟨rfl, hbd⟩; have HJd := Lib.hid (HJb.out.keep hbd); clear hbd)
            | (go_at_call 13; refine (CRM.out wd gb ga ha _ HJd.out).mono ?_; rintro e we ⟨rfl, hbe⟩; have HJe := Lib.hid (HJd.out.keep hbe); clear hbe))
          obtain ⟨E9, n9, y1, y2, y3, y4, y5⟩ := RCp.list HJe.out.r
          have HY3 := Lib.hid y3
          have hl20 := HJe.out.c.ok.l20
          have hgE := HJe.out.hg.below (bdr (Below.refl _ _))
          have cse := same_eW E we.drew hgE
          have CSE := Lib.hid cse
          clear y3 hgE cse
          go_region_held3 (fun w' => w'.cell? ⟨p2, 1, none⟩ = some (.pointer (some ⟨q2, 0, none⟩)) ∧ w'.cell? ⟨q2, 0, none⟩ = some (.slice E9 s'.L.length n9)) (first | go_keep | exact z1 | exact z2 | exact z3) ((first
            | (go_at_call 8; refine CSE.out.mono ?_; rintro e w10 ⟨rfl, hb10⟩; have z1 := And.intro ((hb10.cell (p := ⟨p2, 1, none⟩) y4).trans y1) ((hb10.cell (p := ⟨q2, 0, none⟩) y5).trans y2); have HJ10 := Lib.hid (HJe.out.keep (bcl (bdr (Below.refl _ _)) hb10)); have HY10 := Lib.hid (many_below HY3.out (bcl (bdr (Below.refl _ _)) hb10)); have hz4 := Nat.lt_of_lt_of_le y4 hb10.size; have hz5 := Nat.lt_of_lt_of_le y5 hb10.size; clear hb10)
            | (go_at_call 15; refine (cpspace_any HJ10.out.c).mono ?_; rintro e w11 ⟨A11, c11, rfl, hm11, hb11⟩; have HM11 := Lib.hid hm11.many; have z2 := And.intro ((hb11.cell (p := ⟨p2, 1, none⟩) hz4).trans z1.1) ((hb11.cell (p := ⟨q2, 0, none⟩) hz5).trans z1.2); have HJ11 := Lib.hid (HJ10.out.keep hb11); have HY11 := Lib.hid (many_below HY10.out hb11); have hy4 := Nat.lt_of_lt_of_le hz4 hb11.size; have hy5 := Nat.lt_of_lt_of_le hz5 hb11.size; clear hm11 hb11)
            | (go_at_call 14; refine (same_ts s'.L hl20 _ _ _ _ _ HM11.out HY11.out).mono ?_; rintro e w12 ⟨rfl, hb12⟩; have z3 := And.intro ((hb12.cell (p := ⟨p2, 1, none⟩) hy4).trans z2.1) ((hb12.cell (p := ⟨q2, 0, none⟩) hy5).trans z2.2))))
          go_wp2_with fail
          go_roundw
          case rel => exact ⟨k + 1, gb, ga, ha, s', by omega, by omega, Nat.le_trans NS.out (by omega), by go_num, Lib.hid (HJ11.out.keep hb12)⟩
          case measure => simp [intOf]; omega
        · have hf : decide ((k : Int) < 60) = false := by simp; omega
          go_wp2_with fail
          go_ret
          exact ⟨rfl, HJ.out.b⟩
      · have hf : decide ((k : Int) < (l.length : Nat)) = false := by simp; omega
        go_wp2_with fail
        go_ret
        exact ⟨rfl, HJ.out.b⟩
  · have cn := fun (W : World) (hW : Below w.heap.size w W) => cpnew_no (w := W) RA rc (X.map (·.1)) HMR.out (HX.out.below (Nat.le_refl _) hW).rls er HOKR.out
    simp only [List.length_map] at cn
    have q1 : (rulE (X.map (·.1)) != 0) = true := bne_iff_ne.2 er
    have CSR := Lib.hid csr; have CN := Lib.hid cn
    clear csr cn er
    generalize rulE (X.map (·.1)) = E at *
    go_enter Tryz.func3, Tryz.ntmps3
    go_wp2_with (first
      | (go_at_call 6; refine CSR.out.mono ?_; rintro e w1 ⟨rfl, hb1⟩; have HB1 := Lib.hid hb1; clear hb1)
      | (go_at_call 7; refine (CN.out _ HB1.out).mono ?_; rintro e w2 ⟨rfl, hb2⟩; have HB2 := Lib.hid (bcl HB1.out hb2); clear hb2)
      | (go_at_call 8; refine (same_errW E _ (HG0.out.below HB2.out)).mono ?_; rintro e w3 ⟨rfl, hb3⟩; have HB3 := Lib.hid (bcl HB2.out hb3); clear hb3))
    go_ret
    exact ⟨rfl, HB3.out⟩
end Go.Proofs.YthkaaheeblehhaaGreatDoor.copyPlays
