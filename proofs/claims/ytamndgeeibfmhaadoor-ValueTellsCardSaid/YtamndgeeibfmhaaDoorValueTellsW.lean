/- ValueTells: the walk. -/
import Derived.Test.YtamndgeeibfmhaaDoorRdLaw
import Derived.Test.YtamndgeeibfmhaaDoorRRd2
import Derived.Test.YtamndgeeibfmhaaDoorDoorE
import Derived.WalkKit
import Derived.WalkLawsBesides
import Derived.WalkSpells
import Derived.RegionTactic
import Derived.Deep.CutBlock
import Derived.Deep.DeepCutAuto
import Derived.Outline
namespace Go.Proofs.YtamndgeeibfmhaaDoor.valueTells
open Go.ChangeShapes Go.WideShapes Go.ChangeAt Go.RowKit Go.Joins
set_option linter.unusedVariables false

theorem same_eW (n : Int) (W : World) (h : HG W) : Calls Tryd.prog 11 #[eV n, .int .i64 n] W fun e w' => e = .returned (.bool true) ∧ Below W.heap.size W w' :=
  (same_eV n W W (DG.refl h)).mono fun e w' ⟨h1, h2⟩ => ⟨h1, h2.2⟩
/-- a box of a value -/
abbrev bx (k n : Int) (s : ByteArray) : Array Value := #[.int .i64 k, .int .i64 n, .string s]
structure Bx (W : World) (b : Nat) (k n : Int) (s : ByteArray) : Prop where
  c0 : W.cell? ⟨b, 0, none⟩ = some (.int .i64 k)
  c1 : W.cell? ⟨b, 1, none⟩ = some (.int .i64 n)
  c2 : W.cell? ⟨b, 2, none⟩ = some (.string s)
theorem Bx.of {W : World} {b : Nat} {k n : Int} {s : ByteArray} (h : AtB W b (bx k n s) 23) : Bx W b k n s := ⟨h.cell (i := 0) rfl, h.cell (i := 1) rfl, h.cell (i := 2) rfl⟩
set_option maxHeartbeats 6400000 in
set_option maxRecDepth 100000 in
theorem walk (w : World) (hg : HG w ∧ TT w ∧ EE w) (ak an : Int) (sa : ByteArray) (_ : I64 ak) (_ : I64 an) (hsa : sa.size ≤ maxLen) (bk bn : Int) (sb : ByteArray) (_ : I64 bk) (_ : I64 bn) (hsb : sb.size ≤ maxLen)
    (s : ByteArray) (hs : s.size ≤ maxLen) (hr : s.size ≤ 140737488351232) :
    Calls Tryd.prog 4 #[.agg #[.int .i64 ak, .int .i64 an, .string sa], .agg #[.int .i64 bk, .int .i64 bn, .string sb], .string s] w fun e w' => e = .returned (.bool true) ∧ Below w.heap.size w w' := by
  obtain ⟨hh, ht, he⟩ := hg
  obtain ⟨W0, hW0⟩ : ∃ W0, W0 = (w.alloc (.cells (bx ak an sa) 23)).alloc (.cells (bx bk bn sb) 23) := ⟨_, rfl⟩
  have hb0 : Below w.heap.size w W0 := by rw [hW0]; exact bal (bal1 _ _) _
  have ha0 : AtB W0 w.heap.size (bx ak an sa) 23 := by rw [hW0]; exact (AtB.new w _ _).alloc _
  have hbb0 : AtB W0 (w.heap.size + 1) (bx bk bn sb) 23 := by
    rw [hW0]; have := AtB.new (w.alloc (.cells (bx ak an sa) 23)) (bx bk bn sb) 23; rw [World.size_alloc] at this; exact this
  have HB0 := Lib.hid hb0
  have BXA := Lib.hid (fun (W : World) (h : Below W0.heap.size W0 W) => Bx.of (ha0.below h ha0.lt))
  have BXB := Lib.hid (fun (W : World) (h : Below W0.heap.size W0 W) => Bx.of (hbb0.below h hbb0.lt))
  have HW := Lib.hid (fun (W : World) (h : Below W0.heap.size W0 W) => bcl hb0 h)
  have HT := Lib.hid (fun (W : World) (h : Below W0.heap.size W0 W) => tab_stays (g := 6) (by kernel_rfl) ht (HW.out W h) (Nat.le_refl _))
  have HE := Lib.hid (fun (W : World) (h : Below W0.heap.size W0 W) => he.below (HW.out W h) (Nat.le_refl _))
  have HGK := Lib.hid (fun (W : World) (h : Below W0.heap.size W0 W) => hh.below (HW.out W h))
  -- the numbers
  obtain ⟨ea, hea⟩ : ∃ ea, ea = vaE ⟨ak, an, sa⟩ := ⟨_, rfl⟩
  obtain ⟨ta, hta⟩ : ∃ ta, ta = if ea = 0 then wrd ⟨ak, an, sa⟩ else ⟨#[]⟩ := ⟨_, rfl⟩
  obtain ⟨two, htwo⟩ : ∃ two, two = twoE ⟨ak, an, sa⟩ ⟨bk, bn, sb⟩ := ⟨_, rfl⟩
  obtain ⟨o, ho⟩ : ∃ o, o = if two = 0 then ordI ⟨ak, an, sa⟩ ⟨bk, bn, sb⟩ else 0 := ⟨_, rfl⟩
  obtain ⟨fe, hfe⟩ : ∃ fe, fe = fitE ⟨ak, an, sa⟩ ⟨bk, bn, sb⟩ := ⟨_, rfl⟩
  obtain ⟨ib, hib⟩ : ∃ ib, ib = (decide (fe = 0) && likB ⟨ak, an, sa⟩ ⟨bk, bn, sb⟩) := ⟨_, rfl⟩
  obtain ⟨E, hE⟩ : ∃ E, E = rdE s := ⟨_, rfl⟩
  obtain ⟨R, hR⟩ : ∃ R, R = rdR s := ⟨_, rfl⟩
  -- what is called
  have crv := fun (W : World) => rvalue_any ak an sa hsa W
  have cvc := fun (W : World) => vcheck_any ak an sa hsa W
  have cpr := fun (W : World) (h : Below W0.heap.size W0 W) => vprint_any ⟨ak, an, sa⟩ hsa W (HT.out W h)
  have crb := fun (W : World) => rvalue_any bk bn sb hsb W
  have cro := fun (W : World) => rorder_any ak an sa bk bn sb hsa hsb W
  have cvo := fun (W : World) => order_any ak an sa bk bn sb hsa hsb W
  have cvf := fun (W : World) => vfits_any ak an sa bk bn sb hsa hsb W
  have crr := fun (W : World) => rread_any s hr W
  have cvp := fun (W : World) (h : Below W0.heap.size W0 W) => vparse_any s hr W (HT.out W h) (HE.out W h)
  rw [← hea] at crv cvc cpr
  rw [← hta] at cpr
  rw [← htwo, ← ho] at cvo
  rw [← hfe, ← hib] at cvf
  rw [← hE, ← hR] at crr cvp
  have HEA := Lib.hid hea; have HTA := Lib.hid hta; have HTWO := Lib.hid htwo; have HO := Lib.hid ho; have HFE := Lib.hid hfe; have HIB := Lib.hid hib
  have CRV := Lib.hid crv; have CVC := Lib.hid cvc; have CPR := Lib.hid cpr; have CRB := Lib.hid crb; have CRO := Lib.hid cro; have CVO := Lib.hid cvo; have CVF := Lib.hid cvf; have CRR := Lib.hid crr; have CVP := Lib.hid cvp
  clear crv cvc cpr crb cro cvo cvf crr cvp hea hta htwo ho hfe hib hE hR hb0 ha0 hbb0 ht he hh
  go_enter Tryd.func4, Tryd.ntmps4
  go_upto_region 1 with fail
  rw [← hW0]
  clear hW0
  have ya := BXA.out W0 (Below.refl _ _); have a0 := ya.c0; have a1 := ya.c1; have a2 := ya.c2; clear ya
  go_upto_if 28 with (first
    | (go_at_call 10; refine (CRV.out _).mono ?_; rintro e w1 ⟨rfl, hb1⟩; have HB1 := Lib.hid hb1; clear hb1; have ya := BXA.out w1 HB1.out; have a0 := ya.c0; have a1 := ya.c1; have a2 := ya.c2; clear ya)
    | (go_at_call 12; refine (CVC.out _).mono ?_; rintro e w2 ⟨rfl, hb2⟩; have HB2 := Lib.hid (bcl HB1.out hb2); clear hb2)
    | (go_at_call 11; refine (same_eW _ _ (HGK.out _ HB2.out)).mono ?_; rintro e W3 ⟨rfl, hb3⟩; have HB3 := Lib.hid (bcl HB2.out hb3); clear hb3; have ya := BXA.out W3 HB3.out; have a0 := ya.c0; have a1 := ya.c1; have a2 := ya.c2; clear ya))
  go_cut [9] (fun s9 wx => s9 = .string ta ∧ Hid (Below W0.heap.size W0 wx))
  case first =>
    by_cases h : ea = 0
    · have q : (ea == 0) = true := beq_iff_eq.2 h
      have h0 : vaE ⟨ak, an, sa⟩ = 0 := HEA.out ▸ h
      obtain ⟨k0, k2, kn, ks⟩ := vaE_kind h0
      have cw := fun W => rword_any ak an sa (by show sa.size ≤ _; have : sa.size ≤ 12 := ks; omega) ⟨k0, k2⟩ kn W
      have hta := HTA.out
      rw [if_pos h] at hta
      rw [← hta] at cw
      have CW := Lib.hid cw
      clear h h0 k0 k2 kn ks cw hta
      go_wp2_with (go_at_call 13; refine (CW.out _).mono ?_; rintro e w4 ⟨rfl, hb4⟩)
      go_meet
      case rel => exact ⟨rfl, Lib.hid (bcl HB3.out hb4)⟩
    · have q : (ea == 0) = false := beq_eq_false_iff_ne.2 h
      have hta := HTA.out
      rw [if_neg h] at hta
      have HTN := Lib.hid hta
      clear h hta
      go_wp2_with fail
      go_meet
      case rel => exact ⟨by rw [HTN.out], HB3⟩
  case rest =>
  clear HB1 HB2 HB3 a0 a1 a2
  obtain ⟨rfl, HB4⟩ := hcut
  obtain ⟨W4, hw⟩ : ∃ W4 : World, W4 = wc := ⟨_, rfl⟩
  subst hw
  have ya := BXA.out W4 HB4.out; have a0 := ya.c0; have a1 := ya.c1; have a2 := ya.c2; clear ya
  have qs := str_same ta
  go_upto_if 45 with (first
    | (go_at_call 8; refine (CPR.out _ HB4.out).mono ?_; rintro e w5 ⟨rfl, hb5⟩; have HB5 := Lib.hid (bcl HB4.out hb5); clear hb5)
    | (go_at_call 11; refine (same_eW _ _ (HGK.out _ HB5.out)).mono ?_; rintro e W6 ⟨rfl, hb6⟩; have HB6 := Lib.hid (bcl HB5.out hb6); clear hb6))
  clear a0 a1 a2 qs
  go_cut [7] (fun s7 wx => s7 = .int .i64 two ∧ Hid (Below W0.heap.size W0 wx))
  case first =>
    by_cases h : ea = 0
    · have q : (ea == 0) = true := beq_iff_eq.2 h
      have ht := HTWO.out
      rw [twoE_of, if_neg (by rw [← HEA.out]; simp [h])] at ht
      have HTB := Lib.hid ht
      have yb := BXB.out W6 HB6.out; have b0 := yb.c0; have b1 := yb.c1; have b2 := yb.c2; clear yb
      clear h ht
      go_wp2_with (go_at_call 10; refine (CRB.out _).mono ?_; rintro e w7 ⟨rfl, hb7⟩)
      go_meet
      case rel => exact ⟨by rw [HTB.out], Lib.hid (bcl HB6.out hb7)⟩
    · have q : (ea == 0) = false := beq_eq_false_iff_ne.2 h
      have ht := HTWO.out
      rw [twoE_of, if_pos (by rw [← HEA.out]; exact h), ← HEA.out] at ht
      have HTB := Lib.hid ht
      clear h ht
      go_wp2_with fail
      go_meet
      case rel => exact ⟨by rw [HTB.out], HB6⟩
  case rest =>
  clear HB4 HB5 HB6
  obtain ⟨rfl, HB7⟩ := hcut
  obtain ⟨W7, hw⟩ : ∃ W7 : World, W7 = wc := ⟨_, rfl⟩
  subst hw
  go_upto_if 49 with fail
  go_cut [13] (fun s13 wx => s13 = .int .i64 o ∧ Hid (Below W0.heap.size W0 wx))
  case first =>
    by_cases h : two = 0
    · have q : (two == 0) = true := beq_iff_eq.2 h
      have ho := HO.out
      rw [if_pos h] at ho
      have HO1 := Lib.hid ho
      have ya := BXA.out W7 HB7.out; have a0 := ya.c0; have a1 := ya.c1; have a2 := ya.c2; clear ya
      have yb := BXB.out W7 HB7.out; have b0 := yb.c0; have b1 := yb.c1; have b2 := yb.c2; clear yb
      clear h ho
      go_wp2_with (go_at_call 14; refine (CRO.out _).mono ?_; rintro e w8 ⟨rfl, hb8⟩)
      go_meet
      case rel => exact ⟨by rw [HO1.out], Lib.hid (bcl HB7.out hb8)⟩
    · have q : (two == 0) = false := beq_eq_false_iff_ne.2 h
      have ho := HO.out
      rw [if_neg h] at ho
      have HO1 := Lib.hid ho
      clear h ho
      go_wp2_with fail
      go_meet
      case rel => exact ⟨by rw [HO1.out], HB7⟩
  case rest =>
  clear HB7
  obtain ⟨rfl, HB8⟩ := hcut
  obtain ⟨W8, hw⟩ : ∃ W8 : World, W8 = wc := ⟨_, rfl⟩
  subst hw
  have ya := BXA.out W8 HB8.out; have a0 := ya.c0; have a1 := ya.c1; have a2 := ya.c2; clear ya
  have yb := BXB.out W8 HB8.out; have b0 := yb.c0; have b1 := yb.c1; have b2 := yb.c2; clear yb
  have qo : (o == o) = true := by simp
  go_upto_region 15 with (first
    | (go_at_call 9; refine (CVO.out _).mono ?_; rintro e w9 ⟨rfl, hb9⟩; have HB9 := Lib.hid (bcl HB8.out hb9); clear hb9)
    | (go_at_call 11; refine (same_eW _ _ (HGK.out _ HB9.out)).mono ?_; rintro e W10 ⟨rfl, hb10⟩; have HB10 := Lib.hid (bcl HB9.out hb10); clear hb10))
  clear a0 a1 a2 b0 b1 b2 qo
  have yb := BXB.out W10 HB10.out; have b0 := yb.c0; have b1 := yb.c1; have b2 := yb.c2; clear yb
  obtain ⟨tb, htb⟩ : ∃ tb, tb = (decide (two = 0) && decide (bk = 2)) := ⟨_, rfl⟩
  have HTB := Lib.hid htb
  clear htb
  go_cut [73] (fun s73 wx => s73 = .bool tb ∧ wx = W10)
  case first =>
    by_cases h : two = 0
    · have q : (two == 0) = true := beq_iff_eq.2 h
      by_cases h2 : bk = 2
      · have q2 : (bk == 2) = true := beq_iff_eq.2 h2
        have HV := Lib.hid (show tb = true by rw [HTB.out, decide_eq_true h, decide_eq_true h2]; rfl)
        clear h h2
        go_wp2_with fail
        go_meet
        case rel => exact ⟨by rw [HV.out], by first | rfl | trivial⟩
      · have q2 : (bk == 2) = false := beq_eq_false_iff_ne.2 h2
        have HV := Lib.hid (show tb = false by rw [HTB.out, decide_eq_true h, decide_eq_false h2]; rfl)
        clear h h2
        go_wp2_with fail
        go_meet
        case rel => exact ⟨by rw [HV.out], by first | rfl | trivial⟩
    · have q : (two == 0) = false := beq_eq_false_iff_ne.2 h
      have HV := Lib.hid (show tb = false by rw [HTB.out, decide_eq_false h]; rfl)
      clear h
      go_wp2_with fail
      go_meet
      case rel => exact ⟨by rw [HV.out], by first | rfl | trivial⟩
  case rest =>
  clear HB8 HB9 b0 b1 b2
  obtain ⟨rfl, rfl⟩ := hcut
  obtain ⟨W11, hw⟩ : ∃ W11 : World, W11 = wc := ⟨_, rfl⟩
  subst hw
  go_upto_if 73 with fail
  go_cut [7, 73] (fun s7 _ wx => s7 = .int .i64 fe ∧ wx = W11)
  case first =>
    cases tb with
    | true =>
      have HV := Lib.hid (show fe = 3 by
        have h := HTB.out.symm
        rw [Bool.and_eq_true, decide_eq_true_eq, decide_eq_true_eq] at h
        rw [HFE.out, fitE, if_neg (by rw [← HTWO.out]; simp [h.1]), if_pos h.2])
      go_wp2_with fail
      go_meet
      case rel => exact ⟨by rw [HV.out], by first | rfl | trivial⟩
    | false =>
      have HV := Lib.hid (show fe = two by
        have h := HTB.out.symm
        rw [HFE.out, fitE, ← HTWO.out]
        by_cases h2 : two = 0
        · rw [if_neg (by simp [h2]), if_neg (fun e => by rw [decide_eq_true h2, decide_eq_true e] at h; cases h), h2]
        · rw [if_pos h2])
      go_wp2_with fail
      go_meet
      case rel => exact ⟨by rw [HV.out], by first | rfl | trivial⟩
  case rest =>
  obtain ⟨rfl, rfl⟩ := hcut
  obtain ⟨W12, hw⟩ : ∃ W12 : World, W12 = wc := ⟨_, rfl⟩
  subst hw
  have ya := BXA.out W12 HB10.out; have a0 := ya.c0; have a1 := ya.c1; have a2 := ya.c2; clear ya
  have yb := BXB.out W12 HB10.out; have b0 := yb.c0; have b1 := yb.c1; have b2 := yb.c2; clear yb
  go_upto_region 18 with (go_at_call 15; refine (CVF.out _).mono ?_; rintro e W13 ⟨rfl, hb13⟩; have HB13 := Lib.hid (bcl HB10.out hb13); clear hb13)
  clear a0 a1 a2 b0 b1 b2
  go_cut [16, 17, 74, 77, 78] (fun _ s17 _ _ _ wx => s17 = .bool true ∧ Hid (Below W0.heap.size W0 wx))
  case first =>
    by_cases h : fe = 0
    · have q : (fe == 0) = true := beq_iff_eq.2 h
      by_cases e0 : ak = 2
      · have qk : (ak == 2) = true := beq_iff_eq.2 e0
        obtain rfl : ib = true := by rw [HIB.out, decide_eq_true h, likB_2 e0]; rfl
        clear h e0
        go_wp2_with (go_at_call 11; refine (same_eW _ _ (HGK.out _ HB13.out)).mono ?_; rintro e w14 ⟨rfl, hb14⟩; have HB14 := Lib.hid (bcl HB13.out hb14); clear hb14; have ya := BXA.out w14 HB14.out; have a0 := ya.c0; have a1 := ya.c1; have a2 := ya.c2; clear ya; have yb := BXB.out w14 HB14.out; have b0 := yb.c0; have b1 := yb.c1; have b2 := yb.c2; clear yb)
        go_meet
        case rel => exact ⟨rfl, HB14⟩
      · have qk : (ak == 2) = false := beq_eq_false_iff_ne.2 e0
        have hl := likB_ne (a := ⟨ak, an, sa⟩) (b := ⟨bk, bn, sb⟩) e0
        by_cases e1 : ak = bk
        · by_cases e2 : an = bn
          · by_cases e3 : sa = sb
            · subst e1 e2 e3
              obtain rfl : ib = true := by rw [HIB.out, decide_eq_true h, hl]; simp
              have qs := str_same sa
              clear h e0 hl
              go_wp2_with (go_at_call 11; refine (same_eW _ _ (HGK.out _ HB13.out)).mono ?_; rintro e w14 ⟨rfl, hb14⟩; have HB14 := Lib.hid (bcl HB13.out hb14); clear hb14; have ya := BXA.out w14 HB14.out; have a0 := ya.c0; have a1 := ya.c1; have a2 := ya.c2; clear ya; have yb := BXB.out w14 HB14.out; have b0 := yb.c0; have b1 := yb.c1; have b2 := yb.c2; clear yb)
              go_meet
              case rel => exact ⟨rfl, HB14⟩
            · obtain rfl : ib = false := by rw [HIB.out, hl, decide_eq_false (fun e => e3 (congrArg Va.s e))]; simp
              have q1 : (ak == bk) = true := beq_iff_eq.2 e1
              have q2 : (an == bn) = true := beq_iff_eq.2 e2
              have qs := str_other e3
              clear h e0 hl e1 e2 e3
              go_wp2_with (go_at_call 11; refine (same_eW _ _ (HGK.out _ HB13.out)).mono ?_; rintro e w14 ⟨rfl, hb14⟩; have HB14 := Lib.hid (bcl HB13.out hb14); clear hb14; have ya := BXA.out w14 HB14.out; have a0 := ya.c0; have a1 := ya.c1; have a2 := ya.c2; clear ya; have yb := BXB.out w14 HB14.out; have b0 := yb.c0; have b1 := yb.c1; have b2 := yb.c2; clear yb)
              go_meet
              case rel => exact ⟨rfl, HB14⟩
          · obtain rfl : ib = false := by rw [HIB.out, hl, decide_eq_false (fun e => e2 (congrArg Va.n e))]; simp
            have q1 : (ak == bk) = true := beq_iff_eq.2 e1
            have q2 : (an == bn) = false := beq_eq_false_iff_ne.2 e2
            clear h e0 hl e1 e2
            go_wp2_with (go_at_call 11; refine (same_eW _ _ (HGK.out _ HB13.out)).mono ?_; rintro e w14 ⟨rfl, hb14⟩; have HB14 := Lib.hid (bcl HB13.out hb14); clear hb14; have ya := BXA.out w14 HB14.out; have a0 := ya.c0; have a1 := ya.c1; have a2 := ya.c2; clear ya; have yb := BXB.out w14 HB14.out; have b0 := yb.c0; have b1 := yb.c1; have b2 := yb.c2; clear yb)
            go_meet
            case rel => exact ⟨rfl, HB14⟩
        · obtain rfl : ib = false := by rw [HIB.out, hl, decide_eq_false (fun e => e1 (congrArg Va.k e))]; simp
          have q1 : (ak == bk) = false := beq_eq_false_iff_ne.2 e1
          clear h e0 hl e1
          go_wp2_with (go_at_call 11; refine (same_eW _ _ (HGK.out _ HB13.out)).mono ?_; rintro e w14 ⟨rfl, hb14⟩; have HB14 := Lib.hid (bcl HB13.out hb14); clear hb14; have ya := BXA.out w14 HB14.out; have a0 := ya.c0; have a1 := ya.c1; have a2 := ya.c2; clear ya; have yb := BXB.out w14 HB14.out; have b0 := yb.c0; have b1 := yb.c1; have b2 := yb.c2; clear yb)
          go_meet
          case rel => exact ⟨rfl, HB14⟩
    · have q : (fe == 0) = false := beq_eq_false_iff_ne.2 h
      obtain rfl : ib = false := by rw [HIB.out, decide_eq_false h]; rfl
      clear h
      go_wp2_with (go_at_call 11; refine (same_eW _ _ (HGK.out _ HB13.out)).mono ?_; rintro e w14 ⟨rfl, hb14⟩; have HB14 := Lib.hid (bcl HB13.out hb14); clear hb14; have ya := BXA.out w14 HB14.out; have a0 := ya.c0; have a1 := ya.c1; have a2 := ya.c2; clear ya; have yb := BXB.out w14 HB14.out; have b0 := yb.c0; have b1 := yb.c1; have b2 := yb.c2; clear yb)
      go_meet
      case rel => exact ⟨rfl, HB14⟩
  case rest =>
  clear HB10 HB13
  obtain ⟨rfl, HB14⟩ := hcut
  obtain ⟨W14, hw⟩ : ∃ W14 : World, W14 = wc := ⟨_, rfl⟩
  subst hw
  have qs := str_same R.s
  go_wp2_with (first
    | (go_at_call 16; refine (CRR.out _).mono ?_; rintro e w15 ⟨rfl, hb15⟩; have HB15 := Lib.hid (bal (bcl HB14.out hb15) (.cells #[.int .i64 R.k, .int .i64 R.n, .string R.s] 23)); have BR := Lib.hid (AtB.new w15 #[.int .i64 R.k, .int .i64 R.n, .string R.s] 23); clear hb15)
    | (go_at_call 7; refine (CVP.out _ HB15.out).mono ?_; rintro e w16 ⟨rfl, hb16⟩; have HB16 := Lib.hid (bal (bcl HB15.out hb16) (.cells #[.int .i64 R.k, .int .i64 R.n, .string R.s] 23)); have BR2 := Lib.hid ((BR.out.below hb16 BR.out.lt).alloc (.cells #[.int .i64 R.k, .int .i64 R.n, .string R.s] 23)); have BP := Lib.hid (AtB.new w16 #[.int .i64 R.k, .int .i64 R.n, .string R.s] 23); clear hb16)
    | (go_at_call 11; refine (same_eW _ _ (HGK.out _ HB16.out)).mono ?_; rintro e w17 ⟨rfl, hb17⟩; have HB17 := Lib.hid (bcl HB16.out hb17); have y := Bx.of (BR2.out.below hb17 BR2.out.lt); have r0 := y.c0; have r1 := y.c1; have r2 := y.c2; clear y; have y := Bx.of (BP.out.below hb17 BP.out.lt); have p0 := y.c0; have p1 := y.c1; have p2 := y.c2; clear y hb17))
  go_ret
  exact ⟨ret_true (by first | rfl | (simp; done) | (simp; omega)), HW.out _ HB17.out⟩
end Go.Proofs.YtamndgeeibfmhaaDoor.valueTells
