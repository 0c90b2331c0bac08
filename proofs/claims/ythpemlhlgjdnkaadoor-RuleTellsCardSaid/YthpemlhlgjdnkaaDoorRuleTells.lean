/- RuleTellsCardSaid: what is wrong with any rules, which one goes, and whether it may be done, are the reference's: for every rules, two ints and tuple. -/
import Derived.Test.YthpemlhlgjdnkaaDoorRuleRef
import Derived.Test.YthpemlhlgjdnkaaDoorDoor
import Derived.Test.YthpemlhlgjdnkaaDoorTie
import Derived.Test.YthpemlhlgjdnkaaDoorCards
import Derived.WalkKit
import Derived.ProofKit
import Derived.OpenShut
import Derived.ShutString
import Derived.ChangeOld
import Derived.WalkLawsBesides
import Derived.WalkSpells
import Derived.RegionTactic
import Derived.ChangeAlike
import Derived.SevenTiedAt
import Derived.Deep.DeepCutAuto
import Derived.Outline
namespace Go.Proofs.YthpemlhlgjdnkaaDoor.ruleTells
open Go.ChangeShapes Go.WideShapes Go.ChangeAt Go.RowKit
set_option linter.unusedVariables false

set_option maxHeartbeats 1600000 in
set_option maxRecDepth 100000 in
theorem walk (w : World) (hg : HG w) (A : Option Addr) (c : Nat) (l : List Ru) (hc : l.length ≤ c) (hm : c ≤ maxLen) (hA : Rls w A l) (hok : okR l) (who : Int) (hwho : I64 who) (deed : Int) (hdeed : I64 deed)
    (T : Option Addr) (d : Nat) (t : List Va) (hc2 : t.length ≤ d) (hm2 : d ≤ maxLen) (hT : Vals w T t) (hokt : okL t) :
    Calls Tryd.prog 9 #[.slice A l.length c, .int .i64 who, .int .i64 deed, .slice T t.length d] w fun e w' => e = .returned (.bool true) ∧ Below w.heap.size w w' := by
  have hd0 : DG w w := DG.refl hg
  have hml : l.length ≤ maxLen := by omega
  have hmt : t.length ≤ maxLen := by omega
  have a : ∀ W, Below w.heap.size w W → Rls W A l := fun W hb => hA.below hb (Nat.le_refl _)
  have b : ∀ W, Below w.heap.size w W → Vals W T t := fun W hb => hT.below hb (Nat.le_refl _)
  have csr := fun W hb => srules_any A c l hml hok W (a W hb)
  have crc := fun W hb => rucheck_any A c l hml hok W (a W hb)
  have crt := fun W hb => rtuple_any T d t hmt hokt W (b W hb)
  have csm := fun hO W hb => smay_any A c l hml hO who deed T d t W (a W hb) (b W hb)
  have crm := fun W hb => may_any A c l hml hok who deed T d t hmt hokt W (a W hb) (b W hb)
  have csf := fun hO W hb => sfirst_any A c l hml hO who deed T d t W (a W hb) (b W hb)
  have crf := fun W hb => first_any A c l hml hok who deed T d t hmt hokt W (a W hb) (b W hb)
  clear a b hA hT hok hokt hc hm hc2 hm2 hml hmt hg hwho hdeed
  by_cases h0 : rulE l = 0
  · have hO := okO_of h0
    have csm := csm hO
    have csf := csf hO
    rw [h0] at csr crc
    rw [eV_zero] at crc
    have CSR := Lib.hid csr; have CRC := Lib.hid crc; clear csr crc
    cases h1 : (whoB who && deedB deed) with
    | false =>
      have hv : rbE l who deed t = 1 := by rw [rbE, if_neg (by rw [h0]; decide), if_pos h1]
      have hv2 : rfE l who deed t = 1 := by rw [rfE, hv, if_pos (by decide)]
      rw [hv] at crm
      rw [rfV, hv2] at crf
      rw [show eV 1 = errV 1 from rfl] at crm crf
      rw [decide_eq_false (by decide), Bool.false_and] at crm
      rw [if_neg (by decide)] at crf
      have CRM := Lib.hid crm; have CRF := Lib.hid crf; clear crm crf csm csf crt hv hv2 h0 hO
      have hx : decide (who < 0) = true ∨ (decide (who < 0) = false ∧ decide (1000000 < who) = true) ∨ (decide (who < 0) = false ∧ decide (1000000 < who) = false ∧ decide (deed < 0) = true) ∨ (decide (who < 0) = false ∧ decide (1000000 < who) = false ∧ decide (deed < 0) = false ∧ decide (2 < deed) = true) := by
        simp only [decide_eq_true_eq, decide_eq_false_iff_not]
        rw [Bool.and_eq_false_iff, ← Bool.not_eq_true, ← Bool.not_eq_true, whoB_true, deedB_true] at h1
        omega
      clear h1
      rcases hx with x1 | ⟨x1, x2⟩ | ⟨x1, x2, x3⟩ | ⟨x1, x2, x3, x4⟩
      all_goals
        go_enter Tryd.func9, Tryd.ntmps9
        go_wp2_with (first
      | (go_at_call 36; refine (CSR.out _ (DG.b (by assumption))).mono ?_; rintro e w1 ⟨rfl, hb1⟩; have hd1 := DG.below (w0 := w) (by assumption) hb1; clear hb1)
      | (go_at_call 37; refine (CRC.out _ (DG.b (by assumption))).mono ?_; rintro e w2 ⟨rfl, hb2⟩; have hd2 := DG.below (w0 := w) (by assumption) hb2; clear hb2)
      | (go_at_call 38; refine (CRT.out _ (DG.b (by assumption))).mono ?_; rintro e w3 ⟨rfl, hb3⟩; have hd3 := DG.below (w0 := w) (by assumption) hb3; clear hb3)
      | (go_at_call 39; refine (CSM.out _ (DG.b (by assumption))).mono ?_; rintro e w4 ⟨rfl, hb4⟩; have hd4 := DG.below (w0 := w) (by assumption) hb4; clear hb4)
      | (go_at_call 34; refine (CRM.out _ (DG.b (by assumption))).mono ?_; rintro e w5 ⟨rfl, hb5⟩; have hd5 := DG.below (w0 := w) (by assumption) hb5; clear hb5)
      | (go_at_call 40; refine (CSF.out _ (DG.b (by assumption))).mono ?_; rintro e w6 ⟨rfl, hb6⟩; have hd6 := DG.below (w0 := w) (by assumption) hb6; clear hb6)
      | (go_at_call 35; refine (CRF.out _ (DG.b (by assumption))).mono ?_; rintro e w7 ⟨rfl, hb7⟩; have hd7 := DG.below (w0 := w) (by assumption) hb7; clear hb7)
      | (go_at_call 24; (with_reducible refine (same_nil _).mono ?_); rintro e w' ⟨rfl, rfl⟩)
      | (go_at_call 24; (with_reducible refine (same_err _ w _ (by assumption)).mono ?_); rintro e w8 ⟨rfl, hd8⟩))
        go_ret
        exact ⟨ret_true (by first | rfl | (simp; done) | (simp; omega)), DG.b (by assumption)⟩
    | true =>
      have y := h1
      rw [Bool.and_eq_true, whoB_true, deedB_true] at y
      have x1 : decide (who < 0) = false := decide_eq_false (by omega)
      have x2 : decide (1000000 < who) = false := decide_eq_false (by omega)
      have x3 : decide (deed < 0) = false := decide_eq_false (by omega)
      have x4 : decide (2 < deed) = false := decide_eq_false (by omega)
      have hv : rbE l who deed t = tuE t := by rw [rbE, if_neg (by rw [h0]; decide), if_neg (by rw [h1]; decide)]
      rw [hv] at crm
      by_cases h2 : tuE t = 0
      · rw [h2] at crt
        rw [h2, eV_zero, decide_eq_true rfl, Bool.true_and] at crm
        generalize letR l who deed t = L at *
        have CRM := Lib.hid crm; have CRT := Lib.hid crt; have CSM := Lib.hid csm; clear crm crt csm y h1
        by_cases h3 : plcR l who deed t < 0
        · have hv2 : rfE l who deed t = 5 := by rw [rfE, hv, h2, if_neg (by decide), if_pos h3]
          rw [rfV, hv2, if_neg (by decide), show eV 5 = errV 5 from rfl] at crf
          have hq := decide_eq_true h3
          generalize plcR l who deed t = z at *
          have CRF := Lib.hid crf; have CSF := Lib.hid csf; clear crf csf hv hv2 h0 h2 h3 hO
          go_enter Tryd.func9, Tryd.ntmps9
          go_wp2_with (first
      | (go_at_call 36; refine (CSR.out _ (DG.b (by assumption))).mono ?_; rintro e w1 ⟨rfl, hb1⟩; have hd1 := DG.below (w0 := w) (by assumption) hb1; clear hb1)
      | (go_at_call 37; refine (CRC.out _ (DG.b (by assumption))).mono ?_; rintro e w2 ⟨rfl, hb2⟩; have hd2 := DG.below (w0 := w) (by assumption) hb2; clear hb2)
      | (go_at_call 38; refine (CRT.out _ (DG.b (by assumption))).mono ?_; rintro e w3 ⟨rfl, hb3⟩; have hd3 := DG.below (w0 := w) (by assumption) hb3; clear hb3)
      | (go_at_call 39; refine (CSM.out _ (DG.b (by assumption))).mono ?_; rintro e w4 ⟨rfl, hb4⟩; have hd4 := DG.below (w0 := w) (by assumption) hb4; clear hb4)
      | (go_at_call 34; refine (CRM.out _ (DG.b (by assumption))).mono ?_; rintro e w5 ⟨rfl, hb5⟩; have hd5 := DG.below (w0 := w) (by assumption) hb5; clear hb5)
      | (go_at_call 40; refine (CSF.out _ (DG.b (by assumption))).mono ?_; rintro e w6 ⟨rfl, hb6⟩; have hd6 := DG.below (w0 := w) (by assumption) hb6; clear hb6)
      | (go_at_call 35; refine (CRF.out _ (DG.b (by assumption))).mono ?_; rintro e w7 ⟨rfl, hb7⟩; have hd7 := DG.below (w0 := w) (by assumption) hb7; clear hb7)
      | (go_at_call 24; (with_reducible refine (same_nil _).mono ?_); rintro e w' ⟨rfl, rfl⟩)
      | (go_at_call 24; (with_reducible refine (same_err _ w _ (by assumption)).mono ?_); rintro e w8 ⟨rfl, hd8⟩))
          go_ret
          exact ⟨ret_true (by first | rfl | (simp; done) | (simp; omega)), DG.b (by assumption)⟩
        · have hv2 : rfE l who deed t = 0 := by rw [rfE, hv, h2, if_neg (by decide), if_neg h3]
          rw [rfV, hv2, if_pos rfl, eV_zero] at crf
          have hq := decide_eq_false h3
          generalize plcR l who deed t = z at *
          have CRF := Lib.hid crf; have CSF := Lib.hid csf; clear crf csf hv hv2 h0 h2 h3 hO
          go_enter Tryd.func9, Tryd.ntmps9
          go_wp2_with (first
      | (go_at_call 36; refine (CSR.out _ (DG.b (by assumption))).mono ?_; rintro e w1 ⟨rfl, hb1⟩; have hd1 := DG.below (w0 := w) (by assumption) hb1; clear hb1)
      | (go_at_call 37; refine (CRC.out _ (DG.b (by assumption))).mono ?_; rintro e w2 ⟨rfl, hb2⟩; have hd2 := DG.below (w0 := w) (by assumption) hb2; clear hb2)
      | (go_at_call 38; refine (CRT.out _ (DG.b (by assumption))).mono ?_; rintro e w3 ⟨rfl, hb3⟩; have hd3 := DG.below (w0 := w) (by assumption) hb3; clear hb3)
      | (go_at_call 39; refine (CSM.out _ (DG.b (by assumption))).mono ?_; rintro e w4 ⟨rfl, hb4⟩; have hd4 := DG.below (w0 := w) (by assumption) hb4; clear hb4)
      | (go_at_call 34; refine (CRM.out _ (DG.b (by assumption))).mono ?_; rintro e w5 ⟨rfl, hb5⟩; have hd5 := DG.below (w0 := w) (by assumption) hb5; clear hb5)
      | (go_at_call 40; refine (CSF.out _ (DG.b (by assumption))).mono ?_; rintro e w6 ⟨rfl, hb6⟩; have hd6 := DG.below (w0 := w) (by assumption) hb6; clear hb6)
      | (go_at_call 35; refine (CRF.out _ (DG.b (by assumption))).mono ?_; rintro e w7 ⟨rfl, hb7⟩; have hd7 := DG.below (w0 := w) (by assumption) hb7; clear hb7)
      | (go_at_call 24; (with_reducible refine (same_nil _).mono ?_); rintro e w' ⟨rfl, rfl⟩)
      | (go_at_call 24; (with_reducible refine (same_err _ w _ (by assumption)).mono ?_); rintro e w8 ⟨rfl, hd8⟩))
          go_ret
          exact ⟨ret_true (by first | rfl | (simp; done) | (simp; omega)), DG.b (by assumption)⟩
      · have hv2 : rfE l who deed t = tuE t := by rw [rfE, hv, if_pos h2]
        rw [decide_eq_false h2, Bool.false_and, eV_of h2] at crm
        rw [rfV, hv2, if_neg h2, eV_of h2] at crf
        have hq : (tuE t == 0) = false := beq_eq_false_iff_ne.2 h2
        generalize tuE t = E at *
        have CRM := Lib.hid crm; have CRF := Lib.hid crf; have CRT := Lib.hid crt; clear crm crf csm csf crt hv hv2 h0 h2 hO y h1
        go_enter Tryd.func9, Tryd.ntmps9
        go_wp2_with (first
      | (go_at_call 36; refine (CSR.out _ (DG.b (by assumption))).mono ?_; rintro e w1 ⟨rfl, hb1⟩; have hd1 := DG.below (w0 := w) (by assumption) hb1; clear hb1)
      | (go_at_call 37; refine (CRC.out _ (DG.b (by assumption))).mono ?_; rintro e w2 ⟨rfl, hb2⟩; have hd2 := DG.below (w0 := w) (by assumption) hb2; clear hb2)
      | (go_at_call 38; refine (CRT.out _ (DG.b (by assumption))).mono ?_; rintro e w3 ⟨rfl, hb3⟩; have hd3 := DG.below (w0 := w) (by assumption) hb3; clear hb3)
      | (go_at_call 39; refine (CSM.out _ (DG.b (by assumption))).mono ?_; rintro e w4 ⟨rfl, hb4⟩; have hd4 := DG.below (w0 := w) (by assumption) hb4; clear hb4)
      | (go_at_call 34; refine (CRM.out _ (DG.b (by assumption))).mono ?_; rintro e w5 ⟨rfl, hb5⟩; have hd5 := DG.below (w0 := w) (by assumption) hb5; clear hb5)
      | (go_at_call 40; refine (CSF.out _ (DG.b (by assumption))).mono ?_; rintro e w6 ⟨rfl, hb6⟩; have hd6 := DG.below (w0 := w) (by assumption) hb6; clear hb6)
      | (go_at_call 35; refine (CRF.out _ (DG.b (by assumption))).mono ?_; rintro e w7 ⟨rfl, hb7⟩; have hd7 := DG.below (w0 := w) (by assumption) hb7; clear hb7)
      | (go_at_call 24; (with_reducible refine (same_nil _).mono ?_); rintro e w' ⟨rfl, rfl⟩)
      | (go_at_call 24; (with_reducible refine (same_err _ w _ (by assumption)).mono ?_); rintro e w8 ⟨rfl, hd8⟩))
        go_ret
        exact ⟨ret_true (by first | rfl | (simp; done) | (simp; omega)), DG.b (by assumption)⟩
  · have hv : rbE l who deed t = rulE l := by rw [rbE, if_pos h0]
    have hv2 : rfE l who deed t = rulE l := by rw [rfE, hv, if_pos h0]
    rw [hv, decide_eq_false h0, Bool.false_and, eV_of h0] at crm
    rw [rfV, hv2, if_neg h0, eV_of h0] at crf
    rw [eV_of h0] at crc
    have hq : (rulE l == 0) = false := beq_eq_false_iff_ne.2 h0
    generalize rulE l = E at *
    have CSR := Lib.hid csr; have CRC := Lib.hid crc; have CRM := Lib.hid crm; have CRF := Lib.hid crf; clear csr crc crm crf csm csf crt hv hv2 h0
    go_enter Tryd.func9, Tryd.ntmps9
    go_wp2_with (first
      | (go_at_call 36; refine (CSR.out _ (DG.b (by assumption))).mono ?_; rintro e w1 ⟨rfl, hb1⟩; have hd1 := DG.below (w0 := w) (by assumption) hb1; clear hb1)
      | (go_at_call 37; refine (CRC.out _ (DG.b (by assumption))).mono ?_; rintro e w2 ⟨rfl, hb2⟩; have hd2 := DG.below (w0 := w) (by assumption) hb2; clear hb2)
      | (go_at_call 38; refine (CRT.out _ (DG.b (by assumption))).mono ?_; rintro e w3 ⟨rfl, hb3⟩; have hd3 := DG.below (w0 := w) (by assumption) hb3; clear hb3)
      | (go_at_call 39; refine (CSM.out _ (DG.b (by assumption))).mono ?_; rintro e w4 ⟨rfl, hb4⟩; have hd4 := DG.below (w0 := w) (by assumption) hb4; clear hb4)
      | (go_at_call 34; refine (CRM.out _ (DG.b (by assumption))).mono ?_; rintro e w5 ⟨rfl, hb5⟩; have hd5 := DG.below (w0 := w) (by assumption) hb5; clear hb5)
      | (go_at_call 40; refine (CSF.out _ (DG.b (by assumption))).mono ?_; rintro e w6 ⟨rfl, hb6⟩; have hd6 := DG.below (w0 := w) (by assumption) hb6; clear hb6)
      | (go_at_call 35; refine (CRF.out _ (DG.b (by assumption))).mono ?_; rintro e w7 ⟨rfl, hb7⟩; have hd7 := DG.below (w0 := w) (by assumption) hb7; clear hb7)
      | (go_at_call 24; (with_reducible refine (same_nil _).mono ?_); rintro e w' ⟨rfl, rfl⟩)
      | (go_at_call 24; (with_reducible refine (same_err _ w _ (by assumption)).mono ?_); rintro e w8 ⟨rfl, hd8⟩))
    go_ret
    exact ⟨ret_true (by first | rfl | (simp; done) | (simp; omega)), DG.b (by assumption)⟩

/-! ### the card's frame -/
set_option maxRecDepth 100000 in
theorem lifted (os : Os) (started : os.Started) (H : Type) (enc : TypeId × Value → H) :
    ReturnsInHanded {} Tryd.checked os 9 .any (fun w args => (Rows.ruleTellsSpec.pre enc Tryd.prog Tryd.f9 [] false w args ∧ laidMetH Tryd.prog laidL w) ∧ sizedMet enc Tryd.prog Tryd.f9 (OpenSpec.ofChange Rows.ruleTellsSpec) false w args) (Rows.ruleTellsSpec.post enc Tryd.prog Tryd.f9 false true false false) := by
  refine returnsInHanded_of_change_and (C := Tryd.checked) (X := fun w _ => laidMetH Tryd.prog laidL w) (fun _ _ _ hh h => h.of_heap hh) door.own started (by kernel_rfl) Tryd.func9
    (ChangeSpec.witness_at (enc := enc) (C := Tryd.checked) (os := os) (X := fun w _ => laidMetH Tryd.prog laidL w) false (laidWorld os) #[.slice none 0 0, .int .i64 0, .int .i64 0, .slice none 0 0] 8 rfl (by kernel_rfl) (by kernel_rfl) (by kernel_rfl) (by kernel_rfl) (by kernel_rfl) (laidWorld_met os _)) ?_
  intro W base args ds gs before hval0 hW _ _ hL _
  have hg := handle_of_laid hL
  have hval : ∀ (j : Nat) t v, Tryd.f9.params[j]? = some t → args[j]? = some v → Value.okWide Tryd.prog W .any base t v := hval0
  have hW' := hW
  obtain ⟨p, q, hT0, hV, rfl, hfz, hnd⟩ := hW
  have hA : DataW.TrodAll enc Tryd.prog W 0 (fun _ => true) true Tryd.f9.params.toList args.toList ds p := hT0
  rw [Tryd.params9] at hA hval
  obtain ⟨v0, vs0, d0, ds0, p0, q0, hargs, rfl, rfl, h0, r0⟩ := trodAll_cons hA
  obtain ⟨v1, vs1, d1, ds1, p1, q1, rfl, rfl, rfl, h1, r1⟩ := trodAll_cons r0
  obtain ⟨v2, vs2, d2, ds2, p2, q2, rfl, rfl, rfl, h2, r2⟩ := trodAll_cons r1
  obtain ⟨v3, vs3, d3, ds3, p3, q3, rfl, rfl, rfl, h3, r3⟩ := trodAll_cons r2
  obtain ⟨rfl, rfl, rfl⟩ := trodAll_nil r3
  obtain rfl : args = #[v0, v1, v2, v3] := by cases args; simp_all
  obtain ⟨rfl, rfl⟩ := trodVars_none hV
  have k0 := h0
  have lt0 : ∀ x ∈ p0, x.block < W.heap.size := by obtain ⟨m, hm⟩ := k0; exact DataW.trod_lt m _ _ _ hm
  obtain ⟨A0, c0, x0, rfl, hc0, hm0, hA0, w0⟩ := arg_Rls Tryd.underlying57 Tryd.underlying64 (by kernel_rfl) (by kernel_rfl) Tryd.underlying3 Tryd.underlying3 Tryd.underlying29 Tryd.underlying4 Tryd.underlying28 (by kernel_rfl) (by kernel_rfl) Tryd.underlying3 Tryd.underlying3 Tryd.underlying9 (hval 0 57 v0 rfl rfl) h0
  have k1 := h1
  have lt1 : ∀ x ∈ p1, x.block < W.heap.size := by obtain ⟨m, hm⟩ := k1; exact DataW.trod_lt m _ _ _ hm
  obtain ⟨x1, rfl, w1⟩ := arg_int Tryd.underlying3 (hval 1 3 v1 rfl rfl) h1
  have k2 := h2
  have lt2 : ∀ x ∈ p2, x.block < W.heap.size := by obtain ⟨m, hm⟩ := k2; exact DataW.trod_lt m _ _ _ hm
  obtain ⟨x2, rfl, w2⟩ := arg_int Tryd.underlying3 (hval 2 3 v2 rfl rfl) h2
  have k3 := h3
  have lt3 : ∀ x ∈ p3, x.block < W.heap.size := by obtain ⟨m, hm⟩ := k3; exact DataW.trod_lt m _ _ _ hm
  obtain ⟨A3, c3, x3, rfl, hc3, hm3, hA3, w3⟩ := arg_Vals Tryd.underlying29 Tryd.underlying28 (by kernel_rfl) (by kernel_rfl) Tryd.underlying3 Tryd.underlying3 Tryd.underlying9 (hval 3 29 v3 rfl rfl) h3
  clear hT0 hval0
  refine (walk W hg A0 c0 x0 hc0 hm0 hA0 w0 x1 w1 x2 w2 A3 c3 x3 hc3 hm3 hA3 w3).mono fun e W' ⟨he, bel⟩ => ?_
  subst he
  exact ⟨_, rfl, _, _, _, [], _, [], hW', trodAll_mk1 (shut_bool Tryd.underlying4 _), (trodAll_cons_mk (Below.trod door.laidOut (by kernel_rfl) (of_decide_eq_true (by kernel_rfl)) k0 bel lt0) (trodAll_cons_mk (Below.trod door.laidOut (by kernel_rfl) (of_decide_eq_true (by kernel_rfl)) k1 bel lt1) (trodAll_cons_mk (Below.trod door.laidOut (by kernel_rfl) (of_decide_eq_true (by kernel_rfl)) k2 bel lt2) (trodAll_cons_mk (Below.trod door.laidOut (by kernel_rfl) (of_decide_eq_true (by kernel_rfl)) k3 bel lt3) trodAll_mk0)))), rfl, bel.frame _, fun h => by cases h⟩

theorem fr.fn : Tryd.prog.funcNamed Rows.ruleTellsRow.func = some 9 := by kernel_rfl
theorem fr.cl : joinedFacts Tryd.prog 9 Tryd.f9 Rows.ruleTellsSpec Rows.ruleTellsRow = true := by kernel_rfl
theorem fr.is : Tryd.f9.isInstance Tryd.prog Rows.ruleTellsRow.origin Rows.ruleTellsRow.targs := of_decide_eq_true (by kernel_rfl)
theorem fr.wr : Tryd.f9.isWrapper Tryd.prog Rows.ruleTellsRow.wrapper Rows.ruleTellsRow.mainSum := by
  unfold Func.isWrapper; first | (rw [if_pos (by decide +kernel)]; kernel_rfl) | (rw [if_neg (by decide +kernel)]; exact ⟨rfl, rfl⟩)
theorem over : Rows.RuleTellsSaid :=
  OpenClaim.holds_of_wide 9 Tryd.f9 rfl rfl rfl rfl rfl rfl rfl ⟨rfl, rfl, rfl, rfl, rfl⟩ rfl rfl rfl rfl rfl fr.fn Tryd.func9 fr.cl fr.is fr.wr
    (fun os started H enc _ => lifted os started H enc)

theorem fr.hw : Rows.ruleTellsRow.wfByText (OpenSpec.ofChange Rows.ruleTellsSpec) = true := by kernel_rfl
theorem fr.hm : Tryd.pinned.checked.prog.mainIs = some (Rows.ruleTellsCard.stood.harness.1, Rows.ruleTellsCard.stood.harness.2.toList) := by kernel_rfl
theorem fr.lk : true = Tryd.prog.looks [] := by kernel_rfl
theorem fr.ws : ([57, 3, 3, 29].all fun u => !Tryd.prog.wantsStandIn u) = true := by kernel_rfl
theorem fr.go : false = Rows.ruleTellsRow.goesBy Tryd.pinned.checked.prog := by kernel_rfl
theorem proved : Rows.RuleTellsCardSaid :=
  Claim7.holds_tied_plain_at .later [] [.handle] true Rows.ruleTellsCard.stood.harness true over (fun _ h => by cases h) fr.hw (fun _ h => by cases h) ruleTells_row_tie rfl ⟨rfl, rfl⟩ fr.hm rfl
    (fun f fn hf hfn => by
      obtain rfl : f = 9 := Option.some.inj (fr.fn.symm.trans hf) |>.symm
      obtain rfl : fn = Tryd.f9 := (Option.some.inj (Tryd.func9.symm.trans hfn)).symm
      exact ⟨fr.lk, fun j t ht => by
        rw [Tryd.params9] at ht
        have hm : t ∈ [57, 3, 3, 29] := by simpa using Array.mem_of_getElem? ht
        exact (show Tryd.prog.wantsStandIn t = false by simpa using List.all_eq_true.1 fr.ws t hm)⟩)
    fr.go
#print axioms proved

end Go.Proofs.YthpemlhlgjdnkaaDoor.ruleTells
