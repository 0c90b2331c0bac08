/- TupleTells: the walk. -/
import Derived.Test.YtamndgeeibfmhaaGreatDoorTpLaw
import Derived.Test.YtamndgeeibfmhaaGreatDoorRRT2
import Derived.Test.YtamndgeeibfmhaaGreatDoorDoorPH
import Derived.WalkKit
import Derived.WalkLawsBesides
import Derived.WalkSpells
import Derived.RegionTactic
import Derived.Deep.CutBlock
import Derived.Deep.DeepCutAuto
import Derived.Outline
namespace Go.Proofs.YtamndgeeibfmhaaGreatDoor.tupleTells
open Go.ChangeShapes Go.WideShapes Go.ChangeAt Go.RowKit Go.Joins
set_option linter.unusedVariables false

theorem same_eW (n : Int) (W : World) (h : HG W) : Calls Tryz.prog 5 #[eV n, .int .i64 n] W fun e w' => e = .returned (.bool true) ∧ Below W.heap.size W w' :=
  (same_eV n W W (DG.refl h)).mono fun e w' ⟨h1, h2⟩ => ⟨h1, h2.2⟩
set_option maxHeartbeats 6400000 in
set_option maxRecDepth 100000 in
theorem walk (w : World) (hg : HG w ∧ TT w ∧ EE w) (A : Option Addr) (c : Nat) (a : List Va) (hc : a.length ≤ c) (hm : c ≤ maxLen) (hA : Vals w A a) (hok : okL a) (B : Option Addr) (d : Nat) (t : List Va) (hd : t.length ≤ d) (hmd : d ≤ maxLen) (hB : Vals w B t) (hokt : okL t)
    (s : ByteArray) (hs : s.size ≤ maxLen) (hup : s.size ≤ 1048576) :
    Calls Tryz.prog 3 #[.slice A a.length c, .slice B t.length d, .string s] w fun e w' => e = .returned (.bool true) ∧ Below w.heap.size w w' := by
  have hma : a.length ≤ maxLen := by omega
  have hmt : t.length ≤ maxLen := by omega
  have hpl := pcsB_len s 44
  have hrl : (tpR s).length ≤ maxLen := by
    rw [tpR]; split
    · rw [List.length_map]; unfold maxLen; omega
    · exact Nat.zero_le _
  obtain ⟨hh, ht, he⟩ := hg
  have HT := Lib.hid (fun (W : World) (h : Below w.heap.size w W) => (show TT W from tab_stays (g := 6) (by kernel_rfl) ht h (Nat.le_refl _)))
  have HE := Lib.hid (fun (W : World) (h : Below w.heap.size w W) => he.below h (Nat.le_refl _))
  have HGK := Lib.hid (fun (W : World) (h : Below w.heap.size w W) => hh.below h)
  have HAK := Lib.hid (fun (W : World) (h : Below w.heap.size w W) => hA.below h (Nat.le_refl _))
  have HBK := Lib.hid (fun (W : World) (h : Below w.heap.size w W) => hB.below h (Nat.le_refl _))
  obtain ⟨E0, hE0⟩ : ∃ E0, E0 = liE a := ⟨_, rfl⟩
  obtain ⟨F0, hF0⟩ : ∃ F0, F0 = tuE t := ⟨_, rfl⟩
  obtain ⟨E1, hE1⟩ : ∃ E1, E1 = tfE a t := ⟨_, rfl⟩
  obtain ⟨tx, htx⟩ : ∃ tx, tx = if E0 = 0 then lin a else ⟨#[]⟩ := ⟨_, rfl⟩
  obtain ⟨fb, hfb⟩ : ∃ fb, fb = (decide (E1 = 0) && fitB a t) := ⟨_, rfl⟩
  obtain ⟨R, hR⟩ : ∃ R, R = tpR s := ⟨_, rfl⟩
  obtain ⟨E2, hE2⟩ : ∃ E2, E2 = tpE s := ⟨_, rfl⟩
  have hE10 : E0 = 0 → E1 = F0 := fun h => by rw [hE1, tfE, if_neg (by rw [← hE0]; simp [h]), hF0]
  have hE11 : E0 ≠ 0 → E1 = E0 := fun h => by rw [hE1, tfE, if_pos (by rw [← hE0]; exact h), hE0]
  have crl := fun (W : World) (h : Below w.heap.size w W) => rlike_any A c a hma hok W (HAK.out W h)
  have ctl := fun (W : World) (h : Below w.heap.size w W) => tlike_any A c a hma hok W (HAK.out W h)
  have crt := fun (W : World) (h : Below w.heap.size w W) => rtuple_any B d t hmt hokt W (HBK.out W h)
  have ctc := fun (W : World) (h : Below w.heap.size w W) => tcheck_any B d t hmt hokt W (HBK.out W h)
  have ctp := fun (W : World) (h : Below w.heap.size w W) => tprint_any A c a hma hok W (HAK.out W h) (HT.out W h)
  have crf := fun (W : World) (h : Below w.heap.size w W) => rfits_any A c a B d t hma W (HAK.out W h) (HBK.out W h)
  have ctf := fun (W : World) (h : Below w.heap.size w W) => tfits_any A c a B d t hma hmt hok hokt W (HAK.out W h) (HBK.out W h)
  have crd := fun (W : World) => rreadt_any s (by omega) W
  have cps := fun (W : World) (h : Below w.heap.size w W) => tparse_any s (by omega) (by omega) W (HT.out W h) (HE.out W h)
  have csm := fun (W : World) (C D : Option Addr) (cc cd : Nat) (hC : Vals W C R) (hD : Vals W D R) => same_tuple C D cc cd R R W hC hD (by rw [hR]; exact hrl)
  rw [decide_eq_true (rfl : R = R)] at csm
  have cln : E0 = 0 → ∀ W : World, Below w.heap.size w W → Calls Tryz.prog 9 #[.slice A a.length c] W fun e w' => e = .returned (.string tx) ∧ Below W.heap.size W w' := fun h W hb => by
    obtain ⟨_, h5, hr⟩ := rgt_of (hE0.symm.trans h)
    rw [htx, if_pos h]
    exact rline_any A c a (by omega) hr W (HAK.out W hb)
  have htn : E0 ≠ 0 → tx = ⟨#[]⟩ := fun h => by rw [htx, if_neg h]
  rw [← hE0] at crl ctl ctp
  rw [← htx] at ctp
  rw [← hF0] at crt ctc
  rw [← hE1, ← hfb] at ctf
  rw [← hR, ← hE2] at crd cps
  have hfb1 : E1 = 0 → fitB a t = fb := fun h => by rw [hfb, decide_eq_true h]; simp
  have hfb0 : E1 ≠ 0 → fb = false := fun h => by rw [hfb, decide_eq_false h]; simp
  have HF1 := Lib.hid hfb1; have HF0 := Lib.hid hfb0; have HE10 := Lib.hid hE10; have HE11 := Lib.hid hE11; have HTN := Lib.hid htn
  have CRL := Lib.hid crl; have CTL := Lib.hid ctl; have CRT := Lib.hid crt; have CTC := Lib.hid ctc; have CTP := Lib.hid ctp; have CRF := Lib.hid crf; have CTF := Lib.hid ctf; have CRD := Lib.hid crd; have CPS := Lib.hid cps; have CSM := Lib.hid csm; have CLN := Lib.hid cln
  clear crl ctl crt ctc ctp crf ctf crd cps csm cln hfb1 hfb0 hE10 hE11 htn hE0 hF0 hE1 htx hfb hR hE2 hrl hpl hh ht he hA hB hok hokt
  go_enter Tryz.func3, Tryz.ntmps3
  have HB0 := Lib.hid (Below.refl w.heap.size w)
  go_upto_if 34 with (first
    | (go_at_call 4; refine (CRL.out _ HB0.out).mono ?_; rintro e w1 ⟨rfl, hb1⟩; have HB1 := Lib.hid (bcl HB0.out hb1); clear hb1)
    | (go_at_call 6; refine (CTL.out _ HB1.out).mono ?_; rintro e w2 ⟨rfl, hb2⟩; have HB2 := Lib.hid (bcl HB1.out hb2); clear hb2)
    | (go_at_call 5; (with_reducible refine (same_eW _ _ (HGK.out _ HB4.out)).mono ?_); rintro e w6 ⟨rfl, hb6⟩; have HB6 := Lib.hid (bcl HB4.out hb6); clear hb6)
    | (go_at_call 5; refine (same_eW _ _ (HGK.out _ HB2.out)).mono ?_; rintro e w3 ⟨rfl, hb3⟩; have HB3 := Lib.hid (bcl HB2.out hb3); clear hb3)
    | (go_at_call 7; refine (CRT.out _ HB3.out).mono ?_; rintro e w5 ⟨rfl, hb5⟩; have HB5 := Lib.hid (bcl HB3.out hb5); clear hb5)
    | (go_at_call 8; refine (CTC.out _ HB5.out).mono ?_; rintro e w4 ⟨rfl, hb4⟩; have HB4 := Lib.hid (bcl HB5.out hb4); clear hb4))
  go_cut [11] (fun s11 wx => s11 = .string tx ∧ Hid (Below w.heap.size w wx))
  case first =>
    by_cases h : E0 = 0
    · have q : (E0 == 0) = true := beq_iff_eq.2 h
      have cw := CLN.out h
      have CW := Lib.hid cw
      clear h cw
      go_wp2_with (go_at_call 9; refine (CW.out _ HB6.out).mono ?_; rintro e w7 ⟨rfl, hb7⟩)
      go_meet
      case rel => exact ⟨rfl, Lib.hid (bcl HB6.out hb7)⟩
    · have q : (E0 == 0) = false := beq_eq_false_iff_ne.2 h
      have hta := HTN.out h
      have HTA := Lib.hid hta
      clear h hta
      go_wp2_with fail
      go_meet
      case rel => exact ⟨by rw [HTA.out], HB6⟩
  case rest =>
  clear HB0 HB1 HB2 HB3 HB4 HB5 HB6
  obtain ⟨rfl, HB7⟩ := hcut
  obtain ⟨W7, hw⟩ : ∃ W7 : World, W7 = wc := ⟨_, rfl⟩
  subst hw
  have qs := str_same tx
  go_upto_if 51 with (first
    | (go_at_call 10; refine (CTP.out _ HB7.out).mono ?_; rintro e w8 ⟨rfl, hb8⟩; have HB8 := Lib.hid (bcl HB7.out hb8); clear hb8)
    | (go_at_call 5; refine (same_eW _ _ (HGK.out _ HB8.out)).mono ?_; rintro e W9 ⟨rfl, hb9⟩; have HB9 := Lib.hid (bcl HB8.out hb9); clear hb9))
  clear qs
  go_cut [7] (fun s7 wx => s7 = .int .i64 E1 ∧ wx = W9)
  case first =>
    by_cases h : E0 = 0
    · have q : (E0 == 0) = true := beq_iff_eq.2 h
      have he := HE10.out h
      have HV := Lib.hid he
      clear h he
      go_wp2_with fail
      go_meet
      case rel => exact ⟨by rw [HV.out], by first | rfl | trivial⟩
    · have q : (E0 == 0) = false := beq_eq_false_iff_ne.2 h
      have he := HE11.out h
      have HV := Lib.hid he
      clear h he
      go_wp2_with fail
      go_meet
      case rel => exact ⟨by rw [HV.out], by first | rfl | trivial⟩
  case rest =>
  obtain ⟨rfl, rfl⟩ := hcut
  obtain ⟨W10, hw⟩ : ∃ W10 : World, W10 = wc := ⟨_, rfl⟩
  subst hw
  go_upto_region 12 with fail
  go_cut [15, 54, 55, 56, 57, 58, 59] (fun s15 _ _ _ _ _ _ wx => s15 = .bool fb ∧ Hid (Below w.heap.size w wx))
  case first =>
    by_cases h : E1 = 0
    · have q : (E1 == 0) = true := beq_iff_eq.2 h
      have hf := HF1.out h
      have cw := CRF.out
      rw [hf] at cw
      have CW := Lib.hid cw
      clear h cw hf
      cases fb with
      | true =>
        go_wp2_with (go_at_call 11; refine (CW.out _ HB9.out).mono ?_; rintro e w11 ⟨rfl, hb11⟩)
        go_meet
        case rel => exact ⟨rfl, Lib.hid (bcl HB9.out hb11)⟩
      | false =>
        go_wp2_with (go_at_call 11; refine (CW.out _ HB9.out).mono ?_; rintro e w11 ⟨rfl, hb11⟩)
        go_meet
        case rel => exact ⟨rfl, Lib.hid (bcl HB9.out hb11)⟩
    · have q : (E1 == 0) = false := beq_eq_false_iff_ne.2 h
      obtain rfl := HF0.out h
      clear h
      go_wp2_with fail
      go_meet
      case rel => exact ⟨rfl, HB9⟩
  case rest =>
  clear HB7 HB8 HB9
  obtain ⟨rfl, HB10⟩ := hcut
  obtain ⟨W11, hw⟩ : ∃ W11 : World, W11 = wc := ⟨_, rfl⟩
  subst hw
  have qf : (fb == fb) = true := by simp
  go_wp2_with (first
    | (go_at_call 12; refine (CTF.out _ HB10.out).mono ?_; rintro e w12 ⟨rfl, hb12⟩; have HB12 := Lib.hid (bcl HB10.out hb12); clear hb12)
    | (go_at_call 13; refine (CRD.out _).mono ?_; rintro e w14 ⟨⟨C, cc, rfl, hC⟩, hb14⟩; have HC := Lib.hid hC.vals; have HB14 := Lib.hid (bcl HB13.out hb14); clear hb14 hC)
    | (go_at_call 14; refine (CPS.out _ HB14.out).mono ?_; rintro e w15 ⟨⟨D, cd, rfl, hD⟩, hb15⟩; have HC2 := Lib.hid (HC.out.below hb15 (Nat.le_refl _)); have HD := Lib.hid hD.vals; have HB15 := Lib.hid (bcl HB14.out hb15); clear hb15 hD)
    | (go_at_call 5; (with_reducible refine (same_eW _ _ (HGK.out _ HB15.out)).mono ?_); rintro e w16 ⟨rfl, hb16⟩; have HC3 := Lib.hid (HC2.out.below hb16 (Nat.le_refl _)); have HD3 := Lib.hid (HD.out.below hb16 (Nat.le_refl _)); have HB16 := Lib.hid (bcl HB15.out hb16); clear hb16)
    | (go_at_call 5; refine (same_eW _ _ (HGK.out _ HB12.out)).mono ?_; rintro e w13 ⟨rfl, hb13⟩; have HB13 := Lib.hid (bcl HB12.out hb13); clear hb13)
    | (go_at_call 15; refine (CSM.out _ _ _ _ _ HD3.out HC3.out).mono ?_; rintro e w17 ⟨rfl, hb17⟩; have HB17 := Lib.hid (bcl HB16.out hb17); clear hb17))
  go_ret
  exact ⟨ret_true (by first | rfl | (simp; done) | (simp; omega)), HB17.out⟩
end Go.Proofs.YtamndgeeibfmhaaGreatDoor.tupleTells
