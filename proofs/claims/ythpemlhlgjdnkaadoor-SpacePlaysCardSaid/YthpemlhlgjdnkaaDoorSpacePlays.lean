/- SpacePlaysCardSaid: anything that is put, read, taken and counted. -/
import Derived.Test.YthpemlhlgjdnkaaDoorSpJoin
import Derived.Test.YthpemlhlgjdnkaaDoorVArg
import Derived.Test.YthpemlhlgjdnkaaDoorDoor
import Derived.Test.YthpemlhlgjdnkaaDoorTie
import Derived.Test.YthpemlhlgjdnkaaDoorCards
import Derived.WalkKit
import Derived.ProofKit
import Derived.OpenShut
import Derived.ShutString
import Derived.ChangeOld
import Derived.WalkLawsBesides
import Derived.WalkSpells
import Derived.RegionTactic
import Derived.ChangeAlike
import Derived.SevenTiedAt
import Derived.Deep.DeepCutAuto
import Derived.Outline
namespace Go.Proofs.YthpemlhlgjdnkaaDoor.spacePlays
open Go.ChangeShapes Go.WideShapes Go.ChangeAt Go.RowKit
set_option linter.unusedVariables false

theorem Jo.rt {w0 w : World} {p p2 : Nat} {g g2 : Option Nat} {L L2 : List (List Va)} (j : Jo w0 w p g p2 g2 L L2) (a : List Va) : (rT a L).length ≤ maxLen := by
  by_cases h : finE a L = 0
  · obtain ⟨k, hk, _, h1, _⟩ := fin_at h
    have hmem : gg L k ∈ L := by simp only [gg, List.getD_eq_getElem?_getD, List.getElem?_eq_getElem hk, Option.getD_some]; exact List.getElem_mem hk
    have := (tu_len (j.s.ok _ hmem).2).2
    rw [h1]; unfold maxLen; omega
  · rw [rT, if_neg h]; unfold maxLen; simp
theorem same_e (n : Int) (W : World) (h : HG W) : Calls Tryd.prog 24 #[eV n, .int .i64 n] W fun e w' => e = .returned (.bool true) ∧ Below W.heap.size W w' :=
  (same_eV n W W (DG.refl h)).mono fun e w' ⟨h1, h2⟩ => ⟨h1, h2.2⟩
theorem same_t (A B : Option Addr) (c d : Nat) (a : List Va) (W : World) (hA : Vals W A a) (hB : Vals W B a) (hm : a.length ≤ maxLen) :
    Calls Tryd.prog 27 #[.slice A a.length c, .slice B a.length d] W fun e w' => e = .returned (.bool true) ∧ Below W.heap.size W w' :=
  (same_tuple A B c d a a W hA hB hm).mono fun e w' ⟨h1, h2⟩ => ⟨by rw [h1]; simp, h2⟩
theorem same_ts (A B : Option Addr) (c d : Nat) (a : List (List Va)) (W : World) (hA : Many Vals W A a) (hB : Many Vals W B a) (hm : a.length ≤ 20) :
    Calls Tryd.prog 55 #[.slice A a.length c, .slice B a.length d] W fun e w' => e = .returned (.bool true) ∧ Below W.heap.size W w' :=
  (same_tuples A B c d a a W hA hB (by unfold maxLen; omega)).mono fun e w' ⟨h1, h2⟩ => ⟨by rw [h1]; simp, h2⟩
set_option maxHeartbeats 3200000 in
set_option maxRecDepth 100000 in
theorem walk (w : World) (hg : HG w) (A : Option Addr) (c : Nat) (ds : List Int) (_ : ds.length ≤ c) (hcm : c ≤ maxLen) (hA : Ints w A ds) (_ : ∀ i, i < ds.length → I64 (gi ds i))
    (B : Option Addr) (d : Nat) (l : List (List Va)) (_ : l.length ≤ d) (hdm : d ≤ maxLen) (hB : Many Vals w B l) (hok : ∀ i, i < l.length → okL (gg l i)) :
    Calls Tryd.prog 13 #[.slice A ds.length c, .slice B l.length d] w fun e w' => e = .returned (.bool true) ∧ Below w.heap.size w w' := by
  obtain ⟨W1, hW1⟩ : ∃ W1, W1 = w.alloc (.cells #[.slice none 0 0] 106) := ⟨_, rfl⟩
  obtain ⟨W2, hW2⟩ : ∃ W2, W2 = W1.alloc (.cells #[.slice none 0 0] 78) := ⟨_, rfl⟩
  have hb1 : Below w.heap.size w W1 := by rw [hW1]; exact bal1 _ _
  have hb2 : Below W1.heap.size W1 W2 := by rw [hW2]; exact bal1 _ _
  have hs0 : Spc W1 w.heap.size w.heap.size none [] := by rw [hW1]; exact Spc.new w (Nat.le_refl _)
  have hr0 : RSp W2 w.heap.size W1.heap.size none [] := by rw [hW2]; exact RSp.new W1 hb1.size
  have hj0 : Jo w W2 w.heap.size none W1.heap.size none [] [] := ⟨hg, hs0.keep hb2, hr0, bcl hb1 hb2, fun b hb => by simp at hb⟩
  have hz1 : W1.heap.size = w.heap.size + 1 := by rw [hW1]; exact Array.size_push _
  rw [hz1] at hj0
  have HJ0 := Lib.hid hj0; have HA := Lib.hid hA; have HB := Lib.hid hB; have HOK := Lib.hid hok; have HBB2 := Lib.hid hb2; have HBB1 := Lib.hid hb1
  have HG0 := Lib.hid hg
  clear hz1 hs0 hr0 hj0 hA hB hok hb2 hb1 hg
  go_enter Tryd.func13, Tryd.ntmps13
  go_wp2_with (go_at_call 29; refine (spnew _).mono ?_; rintro e w' ⟨rfl, rfl⟩)
  rw [← hW1, ← hW2]
  generalize w.heap.size + 1 = p2 at *
  clear hW1 hW2
  go_loopw [7] (fun i wr => ∃ (k : Nat) (g g2 : Option Nat) (L : List (List Va)), k ≤ 80 ∧ i = .int .i64 k ∧ Hid (Jo w wr w.heap.size g p2 g2 L L)) (fun i _ => 80 - (intOf i).toNat)
  case atStart => exact ⟨0, none, none, [], by omega, rfl, HJ0⟩
  case round =>
    obtain ⟨k, g, g2, L, hk, rfl, HJ⟩ := hrel
    by_cases t1 : k < ds.length
    · by_cases t2 : k < l.length
      · by_cases t3 : k < 80
        · obtain ⟨bd, od, rfl, hdl, hd0⟩ := HA.out.at_ t1
          obtain ⟨bb, ob, Bk, Ck, rfl, hbl, y, hAk, hC1, hC2⟩ := HB.out.vat t2
          have hokk := HOK.out k t2
          have x0 := (HJ.out.b.cell (p := ⟨bd, od + k, none⟩) hdl).trans hd0
          have y0 := (HJ.out.b.cell (p := ⟨bb, ob + k, none⟩) hbl).trans y
          have hml : (gg l k).length ≤ maxLen := by omega
          generalize gi ds k = dv at *
          have HY := Lib.hid y; have HAK := Lib.hid hAk; have HOKK := Lib.hid hokk; have HML := Lib.hid hml
          have HK1 := Lib.hid hC1; have HK2 := Lib.hid hC2
          clear y hAk hokk hml hC1 hC2 hd0
          by_cases e1 : dv = 1
          · subst e1
            go_wp2_with (first | (go_at_call 50; refine (jget_r _ _ _ HML.out HOKK.out HAK.out false HJ.out).mono ?_; rintro e w3 ⟨B3, C3, rfl, hv3, g3, hj3⟩; have HV3 := Lib.hid hv3; have HJ3 := Lib.hid hj3; clear hv3 hj3; have y3 := (HJ3.out.b.cell (p := ⟨bb, ob + k, none⟩) hbl).trans HY.out; have hg3 := HJ3.out.h0.below HJ3.out.b; have HG3 := Lib.hid hg3; clear hg3) | (go_at_call 51; refine (jread_s _ _ _ HML.out HOKK.out HAK.out HJ3.out).mono ?_; rintro e w4 ⟨B4, C4, rfl, hv4, hb4⟩; have HV4 := Lib.hid hv4; clear hv4; have HJ4 := Lib.hid (HJ3.out.keep hb4); have y4 := (HJ4.out.b.cell (p := ⟨bb, ob + k, none⟩) hbl).trans HY.out; have hg4 := HJ4.out.h0.below HJ4.out.b; have HG4 := Lib.hid hg4; clear hg4) | (go_at_call 24; refine (same_e _ _ HG4.out).mono ?_; rintro e w5 ⟨rfl, hb5⟩; have HJ5 := Lib.hid (HJ4.out.keep hb5)) | (go_at_call 27; refine (same_t _ _ _ _ _ _ (HV4.out.below hb5 (Nat.le_refl _)) (HV3.out.1.below (bcl hb4 hb5) (Nat.le_refl _)) (Jo.rt HJ3.out _)).mono ?_; rintro e w9 ⟨rfl, hb9⟩; have HJ9 := Lib.hid (HJ5.out.keep hb9)))
            have HJ10 := Lib.hid (HJ9.out.keep (bdr (Below.refl _ _)))
            obtain ⟨E9, n9, q1, q2, q3, q4⟩ := HJ9.out.list
            have HQ2 := Lib.hid q2; have HQ3 := Lib.hid q3
            clear q2 q3
            go_upto_region 24 with fail
            go_region_held3 (fun w' => w'.cell? ⟨p2, 0, none⟩ = some (.slice E9 (L).length n9)) (first | go_keep | exact (hb10.cell (p := ⟨p2, 0, none⟩) q4).trans q1 | exact (hb11.cell (p := ⟨p2, 0, none⟩) (Nat.lt_of_lt_of_le q4 hb10.size)).trans ((hb10.cell (p := ⟨p2, 0, none⟩) q4).trans q1)) ((first | (go_at_call 30; refine (jall_s HJ10.out).mono ?_; rintro e w10 ⟨A10, c10, rfl, hm10, hb10⟩; have HM10 := Lib.hid hm10; clear hm10) | (go_at_call 55; refine (same_ts _ _ _ _ _ _ HM10.out (many_below HQ2.out (bcl (bdr (Below.refl _ _)) hb10)) HQ3.out).mono ?_; rintro e w11 ⟨rfl, hb11⟩)))
            go_wp2_with fail
            go_roundw
            case rel => exact ⟨k + 1, _, _, _, by omega, by go_num, Lib.hid ((HJ10.out.keep hb10).keep hb11)⟩
            case measure => simp [intOf]; omega
          · by_cases e2 : dv = 2
            · subst e2
              go_wp2_with (first | (go_at_call 50; refine (jget_r _ _ _ HML.out HOKK.out HAK.out true HJ.out).mono ?_; rintro e w3 ⟨B3, C3, rfl, hv3, g3, hj3⟩; have HV3 := Lib.hid hv3; have HJ3 := Lib.hid hj3; clear hv3 hj3; have y3 := (HJ3.out.b.cell (p := ⟨bb, ob + k, none⟩) hbl).trans HY.out; have hg3 := HJ3.out.h0.below HJ3.out.b; have HG3 := Lib.hid hg3; clear hg3) | (go_at_call 52; refine (jtake_s _ _ _ HML.out HOKK.out HAK.out HJ3.out).mono ?_; rintro e w4 ⟨B4, C4, rfl, hv4, hx4, hj4⟩; have HV4 := Lib.hid hv4; have HX := Lib.hid (HV3.out.chg HJ3.out.s hx4); have HJ4 := Lib.hid hj4; clear hv4 hx4 hj4; have y4 := (HJ4.out.b.cell (p := ⟨bb, ob + k, none⟩) hbl).trans HY.out; have hg4 := HJ4.out.h0.below HJ4.out.b; have HG4 := Lib.hid hg4; clear hg4) | (go_at_call 24; refine (same_e _ _ HG4.out).mono ?_; rintro e w5 ⟨rfl, hb5⟩; have HJ5 := Lib.hid (HJ4.out.keep hb5)) | (go_at_call 27; refine (same_t _ _ _ _ _ _ (HV4.out.below hb5 (Nat.le_refl _)) (HX.out.1.below hb5 (Nat.le_refl _)) (Jo.rt HJ.out _)).mono ?_; rintro e w9 ⟨rfl, hb9⟩; have HJ9 := Lib.hid (HJ5.out.keep hb9)))
              have HJ10 := Lib.hid (HJ9.out.keep (bdr (Below.refl _ _)))
              obtain ⟨E9, n9, q1, q2, q3, q4⟩ := HJ9.out.list
              have HQ2 := Lib.hid q2; have HQ3 := Lib.hid q3
              clear q2 q3
              go_upto_region 24 with fail
              go_region_held3 (fun w' => w'.cell? ⟨p2, 0, none⟩ = some (.slice E9 (rL (gg l k) L).length n9)) (first | go_keep | exact (hb10.cell (p := ⟨p2, 0, none⟩) q4).trans q1 | exact (hb11.cell (p := ⟨p2, 0, none⟩) (Nat.lt_of_lt_of_le q4 hb10.size)).trans ((hb10.cell (p := ⟨p2, 0, none⟩) q4).trans q1)) ((first | (go_at_call 30; refine (jall_s HJ10.out).mono ?_; rintro e w10 ⟨A10, c10, rfl, hm10, hb10⟩; have HM10 := Lib.hid hm10; clear hm10) | (go_at_call 55; refine (same_ts _ _ _ _ _ _ HM10.out (many_below HQ2.out (bcl (bdr (Below.refl _ _)) hb10)) HQ3.out).mono ?_; rintro e w11 ⟨rfl, hb11⟩)))
              go_wp2_with fail
              go_roundw
              case rel => exact ⟨k + 1, _, _, _, by omega, by go_num, Lib.hid ((HJ10.out.keep hb10).keep hb11)⟩
              case measure => simp [intOf]; omega
            · by_cases e3 : dv = 3
              · subst e3
                have crl := fun (W : World) (j : Jo w W w.heap.size g p2 g2 L L) => rlike_any Bk Ck (gg l k) HML.out HOKK.out W (j.vals HAK.out)
                have ccs := fun (W : World) (j : Jo w W w.heap.size g p2 g2 L L) => jcount_s Bk Ck (gg l k) HML.out HOKK.out HAK.out j
                by_cases hl : liE (gg l k) = 0
                · rw [hl] at crl
                  simp only [hl, if_true] at ccs
                  have CRL := Lib.hid crl; have CCS := Lib.hid ccs
                  clear crl ccs hl
                  go_wp2_with (first | (go_at_call 48; refine (CRL.out _ HJ.out).mono ?_; rintro e w3 ⟨rfl, hb3⟩; have HJ3 := Lib.hid (HJ.out.keep hb3); have y3 := (HJ3.out.b.cell (p := ⟨bb, ob + k, none⟩) hbl).trans HY.out; have hg3 := HJ3.out.h0.below HJ3.out.b; have HG3 := Lib.hid hg3; clear hg3) | (go_at_call 53; refine (jcount_r _ _ _ HML.out HAK.out HJ3.out).mono ?_; rintro e w4 ⟨rfl, hb4⟩; have HJ4 := Lib.hid (HJ3.out.keep hb4); have y4 := (HJ4.out.b.cell (p := ⟨bb, ob + k, none⟩) hbl).trans HY.out; have hg4 := HJ4.out.h0.below HJ4.out.b; have HG4 := Lib.hid hg4; clear hg4) | (go_at_call 32; refine (CCS.out _ HJ4.out).mono ?_; rintro e w6 ⟨rfl, hb6⟩; have HJ6 := Lib.hid (HJ4.out.keep hb6); have y6 := (HJ6.out.b.cell (p := ⟨bb, ob + k, none⟩) hbl).trans HY.out; have hg6 := HJ6.out.h0.below HJ6.out.b; have HG6 := Lib.hid hg6; clear hg6) | (go_at_call 24; refine (same_e _ _ HG6.out).mono ?_; rintro e w9 ⟨rfl, hb9⟩; have HJ9 := Lib.hid (HJ6.out.keep hb9)))
                  have HJ10 := Lib.hid (HJ9.out.keep (bdr (Below.refl _ _)))
                  obtain ⟨E9, n9, q1, q2, q3, q4⟩ := HJ9.out.list
                  have HQ2 := Lib.hid q2; have HQ3 := Lib.hid q3
                  clear q2 q3
                  go_upto_region 24 with fail
                  go_region_held3 (fun w' => w'.cell? ⟨p2, 0, none⟩ = some (.slice E9 (L).length n9)) (first | go_keep | exact (hb10.cell (p := ⟨p2, 0, none⟩) q4).trans q1 | exact (hb11.cell (p := ⟨p2, 0, none⟩) (Nat.lt_of_lt_of_le q4 hb10.size)).trans ((hb10.cell (p := ⟨p2, 0, none⟩) q4).trans q1)) ((first | (go_at_call 30; refine (jall_s HJ10.out).mono ?_; rintro e w10 ⟨A10, c10, rfl, hm10, hb10⟩; have HM10 := Lib.hid hm10; clear hm10) | (go_at_call 55; refine (same_ts _ _ _ _ _ _ HM10.out (many_below HQ2.out (bcl (bdr (Below.refl _ _)) hb10)) HQ3.out).mono ?_; rintro e w11 ⟨rfl, hb11⟩)))
                  go_wp2_with fail
                  go_roundw
                  case rel => exact ⟨k + 1, _, _, _, by omega, by go_num, Lib.hid ((HJ10.out.keep hb10).keep hb11)⟩
                  case measure => simp [intOf]; omega

                · simp only [if_neg hl] at ccs
                  have hq : (liE (gg l k) == 0) = false := beq_eq_false_iff_ne.2 hl
                  clear hl
                  generalize liE (gg l k) = E at *
                  have CRL := Lib.hid crl; have CCS := Lib.hid ccs
                  clear crl ccs
                  go_wp2_with (first | (go_at_call 48; refine (CRL.out _ HJ.out).mono ?_; rintro e w3 ⟨rfl, hb3⟩; have HJ3 := Lib.hid (HJ.out.keep hb3); have y3 := (HJ3.out.b.cell (p := ⟨bb, ob + k, none⟩) hbl).trans HY.out; have hg3 := HJ3.out.h0.below HJ3.out.b; have HG3 := Lib.hid hg3; clear hg3) | (go_at_call 32; refine (CCS.out _ HJ3.out).mono ?_; rintro e w6 ⟨rfl, hb6⟩; have HJ6 := Lib.hid (HJ3.out.keep hb6); have y6 := (HJ6.out.b.cell (p := ⟨bb, ob + k, none⟩) hbl).trans HY.out; have hg6 := HJ6.out.h0.below HJ6.out.b; have HG6 := Lib.hid hg6; clear hg6) | (go_at_call 24; refine (same_e _ _ HG6.out).mono ?_; rintro e w9 ⟨rfl, hb9⟩; have HJ9 := Lib.hid (HJ6.out.keep hb9)))
                  have HJ10 := Lib.hid (HJ9.out.keep (bdr (Below.refl _ _)))
                  obtain ⟨E9, n9, q1, q2, q3, q4⟩ := HJ9.out.list
                  have HQ2 := Lib.hid q2; have HQ3 := Lib.hid q3
                  clear q2 q3
                  go_upto_region 24 with fail
                  go_region_held3 (fun w' => w'.cell? ⟨p2, 0, none⟩ = some (.slice E9 (L).length n9)) (first | go_keep | exact (hb10.cell (p := ⟨p2, 0, none⟩) q4).trans q1 | exact (hb11.cell (p := ⟨p2, 0, none⟩) (Nat.lt_of_lt_of_le q4 hb10.size)).trans ((hb10.cell (p := ⟨p2, 0, none⟩) q4).trans q1)) ((first | (go_at_call 30; refine (jall_s HJ10.out).mono ?_; rintro e w10 ⟨A10, c10, rfl, hm10, hb10⟩; have HM10 := Lib.hid hm10; clear hm10) | (go_at_call 55; refine (same_ts _ _ _ _ _ _ HM10.out (many_below HQ2.out (bcl (bdr (Below.refl _ _)) hb10)) HQ3.out).mono ?_; rintro e w11 ⟨rfl, hb11⟩)))
                  go_wp2_with fail
                  go_roundw
                  case rel => exact ⟨k + 1, _, _, _, by omega, by go_num, Lib.hid ((HJ10.out.keep hb10).keep hb11)⟩
                  case measure => simp [intOf]; omega
              · have hq1 : (dv == 1) = false := beq_eq_false_iff_ne.2 e1
                have hq2 : (dv == 2) = false := beq_eq_false_iff_ne.2 e2
                have hq3 : (dv == 3) = false := beq_eq_false_iff_ne.2 e3
                go_upto_region 8 with fail
                have HJ2 := Lib.hid (HJ.out.keep (bdr (Below.refl _ _)))
                go_region_held3 (fun w' => w'.cell? ⟨bb, ob + k, none⟩ = some (.slice Bk (gg l k).length Ck)) (first | go_keep | exact y5 | exact y4 | exact y3) ((first | (go_at_call 31; refine (jput_s _ _ _ HML.out HOKK.out HAK.out HJ2.out).mono ?_; rintro e w3 ⟨rfl, g3, hj3⟩; have HJ3 := Lib.hid hj3; clear hj3; have y3 := (HJ3.out.b.cell (p := ⟨bb, ob + k, none⟩) hbl).trans HY.out; have hg3 := HJ3.out.h0.below HJ3.out.b; have HG3 := Lib.hid hg3; clear hg3) | (go_at_call 54; refine (jput_r _ _ _ HK1.out HK2.out HOKK.out HAK.out HJ3.out).mono ?_; rintro e w4 ⟨rfl, g4, hj4⟩; have HJ4 := Lib.hid hj4; clear hj4; have y4 := (HJ4.out.b.cell (p := ⟨bb, ob + k, none⟩) hbl).trans HY.out; have hg4 := HJ4.out.h0.below HJ4.out.b; have HG4 := Lib.hid hg4; clear hg4) | (go_at_call 24; refine (same_e _ _ HG4.out).mono ?_; rintro e w5 ⟨rfl, hb5⟩; have HJ9 := Lib.hid (HJ4.out.keep hb5); have y5 := (HJ9.out.b.cell (p := ⟨bb, ob + k, none⟩) hbl).trans HY.out)))
                have HJ10 := Lib.hid (HJ9.out.keep (bdr (Below.refl _ _)))
                obtain ⟨E9, n9, q1, q2, q3, q4⟩ := HJ9.out.list
                have HQ2 := Lib.hid q2; have HQ3 := Lib.hid q3
                clear q2 q3
                go_upto_region 24 with fail
                go_region_held3 (fun w' => w'.cell? ⟨p2, 0, none⟩ = some (.slice E9 (putL L (gg l k)).length n9)) (first | go_keep | exact (hb10.cell (p := ⟨p2, 0, none⟩) q4).trans q1 | exact (hb11.cell (p := ⟨p2, 0, none⟩) (Nat.lt_of_lt_of_le q4 hb10.size)).trans ((hb10.cell (p := ⟨p2, 0, none⟩) q4).trans q1)) ((first | (go_at_call 30; refine (jall_s HJ10.out).mono ?_; rintro e w10 ⟨A10, c10, rfl, hm10, hb10⟩; have HM10 := Lib.hid hm10; clear hm10) | (go_at_call 55; refine (same_ts _ _ _ _ _ _ HM10.out (many_below HQ2.out (bcl (bdr (Below.refl _ _)) hb10)) HQ3.out).mono ?_; rintro e w11 ⟨rfl, hb11⟩)))
                go_wp2_with fail
                go_roundw
                case rel => exact ⟨k + 1, _, _, _, by omega, by go_num, Lib.hid ((HJ10.out.keep hb10).keep hb11)⟩
                case measure => simp [intOf]; omega

        · have t4 : decide ((k : Int) < 80) = false := by simp; omega
          go_wp2_with fail
          go_ret
          exact ⟨ret_true (by first | rfl | (simp; done) | (simp; omega)), HJ.out.b⟩
      · have t4 : decide ((k : Int) < (l.length : Nat)) = false := by simp; omega
        go_wp2_with fail
        go_ret
        exact ⟨ret_true (by first | rfl | (simp; done) | (simp; omega)), HJ.out.b⟩
    · have t4 : decide ((k : Int) < (ds.length : Nat)) = false := by simp; omega
      go_wp2_with fail
      go_ret
      exact ⟨ret_true (by first | rfl | (simp; done) | (simp; omega)), HJ.out.b⟩

/-! ### the card's frame -/
set_option maxRecDepth 100000 in
theorem lifted (os : Os) (started : os.Started) (H : Type) (enc : TypeId × Value → H) :
    ReturnsInHanded {} Tryd.checked os 13 .any (fun w args => (Rows.spacePlaysSpec.pre enc Tryd.prog Tryd.f13 [] false w args ∧ laidMetH Tryd.prog laidL w) ∧ sizedMet enc Tryd.prog Tryd.f13 (OpenSpec.ofChange Rows.spacePlaysSpec) false w args) (Rows.spacePlaysSpec.post enc Tryd.prog Tryd.f13 false true false false) := by
  refine returnsInHanded_of_change_and (C := Tryd.checked) (X := fun w _ => laidMetH Tryd.prog laidL w) (fun _ _ _ hh h => h.of_heap hh) door.own started (by kernel_rfl) Tryd.func13
    (ChangeSpec.witness_at (enc := enc) (C := Tryd.checked) (os := os) (X := fun w _ => laidMetH Tryd.prog laidL w) false (laidWorld os) #[.slice none 0 0, .slice none 0 0] 8 rfl (by kernel_rfl) (by kernel_rfl) (by kernel_rfl) (by kernel_rfl) (by kernel_rfl) (laidWorld_met os _)) ?_
  intro W base args ds gs before hval0 hW _ hsz hL _
  have hg := handle_of_laid hL
  have hval : ∀ (j : Nat) t v, Tryd.f13.params[j]? = some t → args[j]? = some v → Value.okWide Tryd.prog W .any base t v := hval0
  have hW' := hW
  obtain ⟨p, q, hT0, hV, rfl, hfz, hnd⟩ := hW
  have hA : DataW.TrodAll enc Tryd.prog W 0 (fun _ => true) true Tryd.f13.params.toList args.toList ds p := hT0
  rw [Tryd.params13] at hA hval
  obtain ⟨v0, vs0, d0, ds0, p0, q0, hargs, rfl, rfl, h0, r0⟩ := trodAll_cons hA
  obtain ⟨v1, vs1, d1, ds1, p1, q1, rfl, rfl, rfl, h1, r1⟩ := trodAll_cons r0
  obtain ⟨rfl, rfl, rfl⟩ := trodAll_nil r1
  obtain rfl : args = #[v0, v1] := by cases args; simp_all
  obtain ⟨rfl, rfl⟩ := trodVars_none hV
  have k0 := h0
  have lt0 : ∀ x ∈ p0, x.block < W.heap.size := by obtain ⟨m, hm⟩ := k0; exact DataW.trod_lt m _ _ _ hm
  obtain ⟨A0, c0, x0, rfl, hc0, hm0, hA0, w0⟩ := arg_Ints Tryd.underlying42 Tryd.underlying3 (by kernel_rfl) (hval 0 42 v0 rfl rfl) h0
  have k1 := h1
  have lt1 : ∀ x ∈ p1, x.block < W.heap.size := by obtain ⟨m, hm⟩ := k1; exact DataW.trod_lt m _ _ _ hm
  obtain ⟨A1, c1, x1, rfl, hc1, hm1, hA1, w1⟩ := arg_Many (Q := Vals) (R := okL) Tryd.underlying47 (by kernel_rfl) (fun _ _ _ h => open_Vals Tryd.underlying29 Tryd.underlying28 (by kernel_rfl) (by kernel_rfl) Tryd.underlying3 Tryd.underlying3 Tryd.underlying9 h) (hval 1 47 v1 rfl rfl) h1
  clear hT0 hval0
  refine (walk W hg A0 c0 x0 hc0 hm0 hA0 w0 A1 c1 x1 hc1 hm1 hA1 w1).mono fun e W' ⟨he, bel⟩ => ?_
  subst he
  exact ⟨_, rfl, _, _, _, [], _, [], hW', trodAll_mk1 (shut_bool Tryd.underlying4 _), (trodAll_cons_mk (Below.trod door.laidOut (by kernel_rfl) (of_decide_eq_true (by kernel_rfl)) k0 bel lt0) (trodAll_cons_mk (Below.trod door.laidOut (by kernel_rfl) (of_decide_eq_true (by kernel_rfl)) k1 bel lt1) trodAll_mk0)), rfl, bel.frame _, fun h => by cases h⟩

theorem fr.fn : Tryd.prog.funcNamed Rows.spacePlaysRow.func = some 13 := by kernel_rfl
theorem fr.cl : joinedFacts Tryd.prog 13 Tryd.f13 Rows.spacePlaysSpec Rows.spacePlaysRow = true := by kernel_rfl
theorem fr.is : Tryd.f13.isInstance Tryd.prog Rows.spacePlaysRow.origin Rows.spacePlaysRow.targs := of_decide_eq_true (by kernel_rfl)
theorem fr.wr : Tryd.f13.isWrapper Tryd.prog Rows.spacePlaysRow.wrapper Rows.spacePlaysRow.mainSum := by
  unfold Func.isWrapper; first | (rw [if_pos (by decide +kernel)]; kernel_rfl) | (rw [if_neg (by decide +kernel)]; exact ⟨rfl, rfl⟩)
theorem over : Rows.SpacePlaysSaid :=
  OpenClaim.holds_of_wide 13 Tryd.f13 rfl rfl rfl rfl rfl rfl rfl ⟨rfl, rfl, rfl, rfl, rfl⟩ rfl rfl rfl rfl rfl fr.fn Tryd.func13 fr.cl fr.is fr.wr
    (fun os started H enc _ => lifted os started H enc)

theorem fr.hw : Rows.spacePlaysRow.wfByText (OpenSpec.ofChange Rows.spacePlaysSpec) = true := by kernel_rfl
theorem fr.hm : Tryd.pinned.checked.prog.mainIs = some (Rows.spacePlaysCard.stood.harness.1, Rows.spacePlaysCard.stood.harness.2.toList) := by kernel_rfl
theorem fr.lk : true = Tryd.prog.looks [] := by kernel_rfl
theorem fr.ws : ([42, 47].all fun u => !Tryd.prog.wantsStandIn u) = true := by kernel_rfl
theorem fr.go : false = Rows.spacePlaysRow.goesBy Tryd.pinned.checked.prog := by kernel_rfl
theorem proved : Rows.SpacePlaysCardSaid :=
  Claim7.holds_tied_plain_at .later [] [.handle] true Rows.spacePlaysCard.stood.harness true over (fun _ h => by cases h) fr.hw (fun _ h => by cases h) spacePlays_row_tie rfl ⟨rfl, rfl⟩ fr.hm rfl
    (fun f fn hf hfn => by
      obtain rfl : f = 13 := Option.some.inj (fr.fn.symm.trans hf) |>.symm
      obtain rfl : fn = Tryd.f13 := (Option.some.inj (Tryd.func13.symm.trans hfn)).symm
      exact ⟨fr.lk, fun j t ht => by
        rw [Tryd.params13] at ht
        have hm : t ∈ [42, 47] := by simpa using Array.mem_of_getElem? ht
        exact (show Tryd.prog.wantsStandIn t = false by simpa using List.all_eq_true.1 fr.ws t hm)⟩)
    fr.go
#print axioms proved

end Go.Proofs.YthpemlhlgjdnkaaDoor.spacePlays
