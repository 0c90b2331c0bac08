/- CoverTellsCardSaid: any tuple as it is seen, and what is asked for, are the reference's: for every two tuples and ints. -/
import Derived.Test.YthpemlhlgjdnkaaDoorCoverFn
import Derived.Test.YthpemlhlgjdnkaaDoorDoorT
import Derived.Test.YthpemlhlgjdnkaaDoorDoor
import Derived.Test.YthpemlhlgjdnkaaDoorTie
import Derived.Test.YthpemlhlgjdnkaaDoorCards
import Derived.WalkKit
import Derived.ProofKit
import Derived.OpenShut
import Derived.ShutString
import Derived.ChangeOld
import Derived.WalkLawsBesides
import Derived.WalkSpells
import Derived.RegionTactic
import Derived.ChangeAlike
import Derived.SevenTiedAt
import Derived.Deep.DeepCutAuto
import Derived.Outline
namespace Go.Proofs.YthpemlhlgjdnkaaDoor.coverTells
open Go.ChangeShapes Go.WideShapes Go.ChangeAt Go.RowKit Go.Joins
set_option linter.unusedVariables false

theorem same_self (A B : Option Addr) (c d n : Nat) (a : List Va) (hn : a.length = n) (hm : n ≤ maxLen) (w : World) (hA : Vals w A a) (hB : Vals w B a) :
    Calls Tryd.prog 27 #[.slice A n c, .slice B n d] w fun e w' => e = .returned (.bool true) ∧ Below w.heap.size w w' := by
  subst hn
  exact (same_tuple A B c d a a w hA hB hm).mono fun e w' ⟨h1, h2⟩ => ⟨by rw [h1]; simp, h2⟩
set_option maxHeartbeats 4000000 in
set_option maxRecDepth 100000 in
theorem walk (w : World) (hg : HG w ∧ TT w) (A : Option Addr) (c : Nat) (t : List Va) (hc : t.length ≤ c) (hm : c ≤ maxLen) (hA : Vals w A t) (hok : okL t) (B : Option Addr) (c2 : Nat) (l : List Va) (hc2 : l.length ≤ c2) (hm2 : c2 ≤ maxLen) (hB : Vals w B l) (hokl : okL l)
    (S : Option Addr) (d : Nat) (s : List Int) (hc3 : s.length ≤ d) (hm3 : d ≤ maxLen) (hS : Ints w S s) (hsi : ∀ i, i < s.length → I64 (gi s i)) :
    Calls Tryd.prog 19 #[.slice A t.length c, .slice B l.length c2, .slice S s.length d] w fun e w' => e = .returned (.bool true) ∧ Below w.heap.size w w' := by
  have hd0 : DG w w := DG.refl hg.1
  have ht := hg.2
  have m1 : t.length ≤ maxLen := by omega
  have m2 : l.length ≤ maxLen := by omega
  have m3 : s.length ≤ maxLen := by omega
  have a : ∀ W, Below w.heap.size w W → Vals W A t := fun W hb => hA.below hb (Nat.le_refl _)
  have b : ∀ W, Below w.heap.size w W → Vals W B l := fun W hb => hB.below hb (Nat.le_refl _)
  have i : ∀ W, Below w.heap.size w W → Ints W S s := fun W hb => hS.below hb (Nat.le_refl _)
  have tt : ∀ W, Below w.heap.size w W → TT W := fun W hb => tab_stays (g := 1) (by kernel_rfl) ht hb (Nat.le_refl _)
  have crt := fun W hb => rtuple_any A c t m1 hok W (a W hb)
  have crl := fun W hb => rlike_any B c2 l m2 hokl W (b W hb)
  have csa := fun W hb => sshows_any t.length m1 S d s W (i W hb)
  have csb := fun W hb => sshows_any l.length m2 S d s W (i W hb)
  have cca := fun cl h5 hsl hv W hb => scover_any A c t S d s cl h5 hsl hv W (a W hb) (i W hb)
  have ccb := fun cl h5 hsl hv W hb => scover_any B c2 l S d s cl h5 hsl hv W (b W hb) (i W hb)
  have ctn := fun h W hb => cotuple_no A c t S d s m1 m3 hok W (a W hb) (i W hb) h
  have cto := fun h W hb => cotuple_ok A c t S d s m1 m3 hok W (tt W hb) (a W hb) (i W hb) h
  have cln := fun h W hb => colike_no B c2 l S d s m2 m3 hokl W (b W hb) (i W hb) h
  have clo := fun h W hb => colike_ok B c2 l S d s m2 m3 hokl W (tt W hb) (b W hb) (i W hb) h
  have cn : ∀ W, Calls Tryd.prog 27 #[.slice none 0 0, .slice none 0 0] W fun e w' => e = .returned (.bool true) ∧ Below W.heap.size W w' := fun W => same_self none none 0 0 0 [] rfl (by decide) W Vals.nil Vals.nil
  have csat := fun (h : t.length ≤ maxLen) X Y c d W hX hY => same_self X Y c d t.length (covL t s Va.zero) (covL_length _ _ _) h W hX hY
  have csbt := fun (h : l.length ≤ maxLen) X Y c d W hX hY => same_self X Y c d l.length (covL l s ⟨2, 0, ⟨#[]⟩⟩) (covL_length _ _ _) h W hX hY
  have CN := Lib.hid cn; have CSAT := Lib.hid (csat m1); have CSBT := Lib.hid (csbt m2)
  clear a b i tt hA hB hS hok hokl hc hm hc2 hm2 hc3 hm3 ht hg hsi cn csat csbt
  have hE1 : (tuE t ≠ 0) ∨ (tuE t = 0 ∧ shE' t.length s ≠ 0) ∨ (tuE t = 0 ∧ shE' t.length s = 0) := by
    by_cases e : tuE t = 0
    · by_cases e2 : shE' t.length s = 0
      · exact .inr (.inr ⟨e, e2⟩)
      · exact .inr (.inl ⟨e, e2⟩)
    · exact .inl e
  have hE2 : (liE l ≠ 0) ∨ (liE l = 0 ∧ shE' l.length s ≠ 0) ∨ (liE l = 0 ∧ shE' l.length s = 0) := by
    by_cases e : liE l = 0
    · by_cases e2 : shE' l.length s = 0
      · exact .inr (.inr ⟨e, e2⟩)
      · exact .inr (.inl ⟨e, e2⟩)
    · exact .inl e
  rcases hE1 with e1 | e1 | e1
  · have h1 : ctE t s = tuE t := by rw [ctE, if_pos e1]
    have ctn := ctn (by rw [h1]; exact e1)
    rw [h1] at ctn
    have qa : (tuE t == 0) = false := beq_eq_false_iff_ne.2 e1
    generalize tuE t = E at *
    have CRT := Lib.hid crt; have CTN := Lib.hid ctn
    clear crt ctn cto h1 e1 csa cca
    rcases hE2 with e2 | e2 | e2
    · have h2 : clE l s = liE l := by rw [clE, if_pos e2]
      have cln := cln (by rw [h2]; exact e2)
      rw [h2] at cln
      have qb : (liE l == 0) = false := beq_eq_false_iff_ne.2 e2
      generalize liE l = E2 at *
      have CRL := Lib.hid crl; have CLN := Lib.hid cln
      clear crl cln clo h2 e2 csb ccb
      go_enter Tryd.func19, Tryd.ntmps19
      go_wp2_with fail
      refine (CRT.out _ (DG.b (by assumption))).mono ?_
      rintro e w1 ⟨rfl, hb1⟩
      have hd1 := DG.below (w0 := w) (by assumption) hb1
      clear hb1
      go_wp2_with fail
      refine (CTN.out _ (DG.b (by assumption))).mono ?_
      rintro e w1 ⟨rfl, hb1⟩
      have hd1 := DG.below (w0 := w) (by assumption) hb1
      clear hb1
      go_wp2_with fail
      refine (same_err _ w _ (by assumption)).mono ?_
      rintro e w1 ⟨rfl, hd1⟩
      go_wp2_with fail
      refine (CN.out _).mono ?_
      rintro e w1 ⟨rfl, hb1⟩
      have hd1 := DG.below (w0 := w) (by assumption) hb1
      clear hb1
      go_wp2_with fail
      refine (CRL.out _ (DG.b (by assumption))).mono ?_
      rintro e w1 ⟨rfl, hb1⟩
      have hd1 := DG.below (w0 := w) (by assumption) hb1
      clear hb1
      go_wp2_with fail
      refine (CLN.out _ (DG.b (by assumption))).mono ?_
      rintro e w1 ⟨rfl, hb1⟩
      have hd1 := DG.below (w0 := w) (by assumption) hb1
      clear hb1
      go_wp2_with fail
      refine (same_err _ w _ (by assumption)).mono ?_
      rintro e w1 ⟨rfl, hd1⟩
      go_wp2_with fail
      refine (CN.out _).mono ?_
      rintro e w1 ⟨rfl, hb1⟩
      have hd1 := DG.below (w0 := w) (by assumption) hb1
      clear hb1
      go_wp2_with fail
      go_ret
      exact ⟨ret_true (by first | rfl | (simp; done) | (simp; omega)), DG.b (by assumption)⟩
    · obtain ⟨e2, f2⟩ := e2
      have h2 : clE l s = shE' l.length s := by rw [clE, if_neg (by simp [e2])]
      have cln := cln (by rw [h2]; exact f2)
      rw [h2] at cln
      rw [e2] at crl
      have qb : (shE' l.length s == 0) = false := beq_eq_false_iff_ne.2 f2
      generalize shE' l.length s = E2 at *
      have CRL := Lib.hid crl; have CLN := Lib.hid cln; have CSB := Lib.hid csb
      clear crl cln clo h2 e2 f2 csb ccb
      go_enter Tryd.func19, Tryd.ntmps19
      go_wp2_with fail
      refine (CRT.out _ (DG.b (by assumption))).mono ?_
      rintro e w1 ⟨rfl, hb1⟩
      have hd1 := DG.below (w0 := w) (by assumption) hb1
      clear hb1
      go_wp2_with fail
      refine (CTN.out _ (DG.b (by assumption))).mono ?_
      rintro e w1 ⟨rfl, hb1⟩
      have hd1 := DG.below (w0 := w) (by assumption) hb1
      clear hb1
      go_wp2_with fail
      refine (same_err _ w _ (by assumption)).mono ?_
      rintro e w1 ⟨rfl, hd1⟩
      go_wp2_with fail
      refine (CN.out _).mono ?_
      rintro e w1 ⟨rfl, hb1⟩
      have hd1 := DG.below (w0 := w) (by assumption) hb1
      clear hb1
      go_wp2_with fail
      refine (CRL.out _ (DG.b (by assumption))).mono ?_
      rintro e w1 ⟨rfl, hb1⟩
      have hd1 := DG.below (w0 := w) (by assumption) hb1
      clear hb1
      go_wp2_with fail
      refine (CSB.out _ (DG.b (by assumption))).mono ?_
      rintro e w1 ⟨rfl, rfl⟩
      go_wp2_with fail
      refine (CLN.out _ (DG.b (by assumption))).mono ?_
      rintro e w1 ⟨rfl, hb1⟩
      have hd1 := DG.below (w0 := w) (by assumption) hb1
      clear hb1
      go_wp2_with fail
      refine (same_err _ w _ (by assumption)).mono ?_
      rintro e w1 ⟨rfl, hd1⟩
      go_wp2_with fail
      refine (CN.out _).mono ?_
      rintro e w1 ⟨rfl, hb1⟩
      have hd1 := DG.below (w0 := w) (by assumption) hb1
      clear hb1
      go_wp2_with fail
      go_ret
      exact ⟨ret_true (by first | rfl | (simp; done) | (simp; omega)), DG.b (by assumption)⟩
    · obtain ⟨e2, f2⟩ := e2
      have h2 : clE l s = 0 := by rw [clE, if_neg (by simp [e2]), f2]
      have clo := clo h2
      obtain ⟨l0, l5, lv⟩ := tu_vaE e2
      have ccb := ccb ⟨2, 0, ⟨#[]⟩⟩ l5 (shE'_zero f2).1 lv
      rw [e2] at crl
      rw [f2] at csb
      have CRL := Lib.hid crl; have CLO := Lib.hid clo; have CSB := Lib.hid csb; have CCB := Lib.hid ccb
      clear crl cln clo h2 e2 f2 csb ccb l0 l5 lv
      go_enter Tryd.func19, Tryd.ntmps19
      go_wp2_with fail
      refine (CRT.out _ (DG.b (by assumption))).mono ?_
      rintro e w1 ⟨rfl, hb1⟩
      have hd1 := DG.below (w0 := w) (by assumption) hb1
      clear hb1
      go_wp2_with fail
      refine (CTN.out _ (DG.b (by assumption))).mono ?_
      rintro e w1 ⟨rfl, hb1⟩
      have hd1 := DG.below (w0 := w) (by assumption) hb1
      clear hb1
      go_wp2_with fail
      refine (same_err _ w _ (by assumption)).mono ?_
      rintro e w1 ⟨rfl, hd1⟩
      go_wp2_with fail
      refine (CN.out _).mono ?_
      rintro e w1 ⟨rfl, hb1⟩
      have hd1 := DG.below (w0 := w) (by assumption) hb1
      clear hb1
      go_wp2_with fail
      refine (CRL.out _ (DG.b (by assumption))).mono ?_
      rintro e w1 ⟨rfl, hb1⟩
      have hd1 := DG.below (w0 := w) (by assumption) hb1
      clear hb1
      go_wp2_with fail
      refine (CSB.out _ (DG.b (by assumption))).mono ?_
      rintro e w1 ⟨rfl, rfl⟩
      go_wp2_with fail
      refine (CCB.out _ (DG.b (by assumption))).mono ?_
      rintro e w1 ⟨Ab, kb, rfl, hob, hb1⟩
      have HOb := Lib.hid hob
      clear hob
      have hd1 := DG.below (w0 := w) (by assumption) hb1
      clear hb1
      go_wp2_with fail
      refine (CLO.out _ (DG.b (by assumption))).mono ?_
      rintro e w1 ⟨Bb, jb, rfl, hpb, hb1⟩
      have HOb := Lib.hid (HOb.out.keep hb1)
      have HPb := Lib.hid hpb
      clear hpb
      have hd1 := DG.below (w0 := w) (by assumption) hb1
      clear hb1
      go_wp2_with fail
      refine (same_nil _).mono ?_
      rintro e w1 ⟨rfl, rfl⟩
      go_wp2_with fail
      refine (CSBT.out _ _ _ _ _ HPb.out.vals HOb.out.vals).mono ?_
      rintro e w1 ⟨rfl, hb1⟩
      have hd1 := DG.below (w0 := w) (by assumption) hb1
      clear hb1
      go_wp2_with fail
      go_ret
      exact ⟨ret_true (by first | rfl | (simp; done) | (simp; omega)), DG.b (by assumption)⟩
  · obtain ⟨e1, f1⟩ := e1
    have h1 : ctE t s = shE' t.length s := by rw [ctE, if_neg (by simp [e1])]
    have ctn := ctn (by rw [h1]; exact f1)
    rw [h1] at ctn
    rw [e1] at crt
    have qa : (shE' t.length s == 0) = false := beq_eq_false_iff_ne.2 f1
    generalize shE' t.length s = E at *
    have CRT := Lib.hid crt; have CTN := Lib.hid ctn; have CSA := Lib.hid csa
    clear crt ctn cto h1 e1 f1 csa cca
    rcases hE2 with e2 | e2 | e2
    · have h2 : clE l s = liE l := by rw [clE, if_pos e2]
      have cln := cln (by rw [h2]; exact e2)
      rw [h2] at cln
      have qb : (liE l == 0) = false := beq_eq_false_iff_ne.2 e2
      generalize liE l = E2 at *
      have CRL := Lib.hid crl; have CLN := Lib.hid cln
      clear crl cln clo h2 e2 csb ccb
      go_enter Tryd.func19, Tryd.ntmps19
      go_wp2_with fail
      refine (CRT.out _ (DG.b (by assumption))).mono ?_
      rintro e w1 ⟨rfl, hb1⟩
      have hd1 := DG.below (w0 := w) (by assumption) hb1
      clear hb1
      go_wp2_with fail
      refine (CSA.out _ (DG.b (by assumption))).mono ?_
      rintro e w1 ⟨rfl, rfl⟩
      go_wp2_with fail
      refine (CTN.out _ (DG.b (by assumption))).mono ?_
      rintro e w1 ⟨rfl, hb1⟩
      have hd1 := DG.below (w0 := w) (by assumption) hb1
      clear hb1
      go_wp2_with fail
      refine (same_err _ w _ (by assumption)).mono ?_
      rintro e w1 ⟨rfl, hd1⟩
      go_wp2_with fail
      refine (CN.out _).mono ?_
      rintro e w1 ⟨rfl, hb1⟩
      have hd1 := DG.below (w0 := w) (by assumption) hb1
      clear hb1
      go_wp2_with fail
      refine (CRL.out _ (DG.b (by assumption))).mono ?_
      rintro e w1 ⟨rfl, hb1⟩
      have hd1 := DG.below (w0 := w) (by assumption) hb1
      clear hb1
      go_wp2_with fail
      refine (CLN.out _ (DG.b (by assumption))).mono ?_
      rintro e w1 ⟨rfl, hb1⟩
      have hd1 := DG.below (w0 := w) (by assumption) hb1
      clear hb1
      go_wp2_with fail
      refine (same_err _ w _ (by assumption)).mono ?_
      rintro e w1 ⟨rfl, hd1⟩
      go_wp2_with fail
      refine (CN.out _).mono ?_
      rintro e w1 ⟨rfl, hb1⟩
      have hd1 := DG.below (w0 := w) (by assumption) hb1
      clear hb1
      go_wp2_with fail
      go_ret
      exact ⟨ret_true (by first | rfl | (simp; done) | (simp; omega)), DG.b (by assumption)⟩
    · obtain ⟨e2, f2⟩ := e2
      have h2 : clE l s = shE' l.length s := by rw [clE, if_neg (by simp [e2])]
      have cln := cln (by rw [h2]; exact f2)
      rw [h2] at cln
      rw [e2] at crl
      have qb : (shE' l.length s == 0) = false := beq_eq_false_iff_ne.2 f2
      generalize shE' l.length s = E2 at *
      have CRL := Lib.hid crl; have CLN := Lib.hid cln; have CSB := Lib.hid csb
      clear crl cln clo h2 e2 f2 csb ccb
      go_enter Tryd.func19, Tryd.ntmps19
      go_wp2_with fail
      refine (CRT.out _ (DG.b (by assumption))).mono ?_
      rintro e w1 ⟨rfl, hb1⟩
      have hd1 := DG.below (w0 := w) (by assumption) hb1
      clear hb1
      go_wp2_with fail
      refine (CSA.out _ (DG.b (by assumption))).mono ?_
      rintro e w1 ⟨rfl, rfl⟩
      go_wp2_with fail
      refine (CTN.out _ (DG.b (by assumption))).mono ?_
      rintro e w1 ⟨rfl, hb1⟩
      have hd1 := DG.below (w0 := w) (by assumption) hb1
      clear hb1
      go_wp2_with fail
      refine (same_err _ w _ (by assumption)).mono ?_
      rintro e w1 ⟨rfl, hd1⟩
      go_wp2_with fail
      refine (CN.out _).mono ?_
      rintro e w1 ⟨rfl, hb1⟩
      have hd1 := DG.below (w0 := w) (by assumption) hb1
      clear hb1
      go_wp2_with fail
      refine (CRL.out _ (DG.b (by assumption))).mono ?_
      rintro e w1 ⟨rfl, hb1⟩
      have hd1 := DG.below (w0 := w) (by assumption) hb1
      clear hb1
      go_wp2_with fail
      refine (CSB.out _ (DG.b (by assumption))).mono ?_
      rintro e w1 ⟨rfl, rfl⟩
      go_wp2_with fail
      refine (CLN.out _ (DG.b (by assumption))).mono ?_
      rintro e w1 ⟨rfl, hb1⟩
      have hd1 := DG.below (w0 := w) (by assumption) hb1
      clear hb1
      go_wp2_with fail
      refine (same_err _ w _ (by assumption)).mono ?_
      rintro e w1 ⟨rfl, hd1⟩
      go_wp2_with fail
      refine (CN.out _).mono ?_
      rintro e w1 ⟨rfl, hb1⟩
      have hd1 := DG.below (w0 := w) (by assumption) hb1
      clear hb1
      go_wp2_with fail
      go_ret
      exact ⟨ret_true (by first | rfl | (simp; done) | (simp; omega)), DG.b (by assumption)⟩
    · obtain ⟨e2, f2⟩ := e2
      have h2 : clE l s = 0 := by rw [clE, if_neg (by simp [e2]), f2]
      have clo := clo h2
      obtain ⟨l0, l5, lv⟩ := tu_vaE e2
      have ccb := ccb ⟨2, 0, ⟨#[]⟩⟩ l5 (shE'_zero f2).1 lv
      rw [e2] at crl
      rw [f2] at csb
      have CRL := Lib.hid crl; have CLO := Lib.hid clo; have CSB := Lib.hid csb; have CCB := Lib.hid ccb
      clear crl cln clo h2 e2 f2 csb ccb l0 l5 lv
      go_enter Tryd.func19, Tryd.ntmps19
      go_wp2_with fail
      refine (CRT.out _ (DG.b (by assumption))).mono ?_
      rintro e w1 ⟨rfl, hb1⟩
      have hd1 := DG.below (w0 := w) (by assumption) hb1
      clear hb1
      go_wp2_with fail
      refine (CSA.out _ (DG.b (by assumption))).mono ?_
      rintro e w1 ⟨rfl, rfl⟩
      go_wp2_with fail
      refine (CTN.out _ (DG.b (by assumption))).mono ?_
      rintro e w1 ⟨rfl, hb1⟩
      have hd1 := DG.below (w0 := w) (by assumption) hb1
      clear hb1
      go_wp2_with fail
      refine (same_err _ w _ (by assumption)).mono ?_
      rintro e w1 ⟨rfl, hd1⟩
      go_wp2_with fail
      refine (CN.out _).mono ?_
      rintro e w1 ⟨rfl, hb1⟩
      have hd1 := DG.below (w0 := w) (by assumption) hb1
      clear hb1
      go_wp2_with fail
      refine (CRL.out _ (DG.b (by assumption))).mono ?_
      rintro e w1 ⟨rfl, hb1⟩
      have hd1 := DG.below (w0 := w) (by assumption) hb1
      clear hb1
      go_wp2_with fail
      refine (CSB.out _ (DG.b (by assumption))).mono ?_
      rintro e w1 ⟨rfl, rfl⟩
      go_wp2_with fail
      refine (CCB.out _ (DG.b (by assumption))).mono ?_
      rintro e w1 ⟨Ab, kb, rfl, hob, hb1⟩
      have HOb := Lib.hid hob
      clear hob
      have hd1 := DG.below (w0 := w) (by assumption) hb1
      clear hb1
      go_wp2_with fail
      refine (CLO.out _ (DG.b (by assumption))).mono ?_
      rintro e w1 ⟨Bb, jb, rfl, hpb, hb1⟩
      have HOb := Lib.hid (HOb.out.keep hb1)
      have HPb := Lib.hid hpb
      clear hpb
      have hd1 := DG.below (w0 := w) (by assumption) hb1
      clear hb1
      go_wp2_with fail
      refine (same_nil _).mono ?_
      rintro e w1 ⟨rfl, rfl⟩
      go_wp2_with fail
      refine (CSBT.out _ _ _ _ _ HPb.out.vals HOb.out.vals).mono ?_
      rintro e w1 ⟨rfl, hb1⟩
      have hd1 := DG.below (w0 := w) (by assumption) hb1
      clear hb1
      go_wp2_with fail
      go_ret
      exact ⟨ret_true (by first | rfl | (simp; done) | (simp; omega)), DG.b (by assumption)⟩
  · obtain ⟨e1, f1⟩ := e1
    have h1 : ctE t s = 0 := by rw [ctE, if_neg (by simp [e1]), f1]
    have cto := cto h1
    obtain ⟨t0, t5, tv⟩ := tu_vaE (tuE_zero e1).1
    have cca := cca Va.zero t5 (shE'_zero f1).1 tv
    rw [e1] at crt
    rw [f1] at csa
    have CRT := Lib.hid crt; have CTO := Lib.hid cto; have CSA := Lib.hid csa; have CCA := Lib.hid cca
    clear crt ctn cto h1 e1 f1 csa cca t0 t5 tv
    rcases hE2 with e2 | e2 | e2
    · have h2 : clE l s = liE l := by rw [clE, if_pos e2]
      have cln := cln (by rw [h2]; exact e2)
      rw [h2] at cln
      have qb : (liE l == 0) = false := beq_eq_false_iff_ne.2 e2
      generalize liE l = E2 at *
      have CRL := Lib.hid crl; have CLN := Lib.hid cln
      clear crl cln clo h2 e2 csb ccb
      go_enter Tryd.func19, Tryd.ntmps19
      go_wp2_with fail
      refine (CRT.out _ (DG.b (by assumption))).mono ?_
      rintro e w1 ⟨rfl, hb1⟩
      have hd1 := DG.below (w0 := w) (by assumption) hb1
      clear hb1
      go_wp2_with fail
      refine (CSA.out _ (DG.b (by assumption))).mono ?_
      rintro e w1 ⟨rfl, rfl⟩
      go_wp2_with fail
      refine (CCA.out _ (DG.b (by assumption))).mono ?_
      rintro e w1 ⟨Aa, ka, rfl, hoa, hb1⟩
      have HOa := Lib.hid hoa
      clear hoa
      have hd1 := DG.below (w0 := w) (by assumption) hb1
      clear hb1
      go_wp2_with fail
      refine (CTO.out _ (DG.b (by assumption))).mono ?_
      rintro e w1 ⟨Ba, ja, rfl, hpa, hb1⟩
      have HOa := Lib.hid (HOa.out.keep hb1)
      have HPa := Lib.hid hpa
      clear hpa
      have hd1 := DG.below (w0 := w) (by assumption) hb1
      clear hb1
      go_wp2_with fail
      refine (same_nil _).mono ?_
      rintro e w1 ⟨rfl, rfl⟩
      go_wp2_with fail
      refine (CSAT.out _ _ _ _ _ HPa.out.vals HOa.out.vals).mono ?_
      rintro e w1 ⟨rfl, hb1⟩
      have hd1 := DG.below (w0 := w) (by assumption) hb1
      clear hb1
      go_wp2_with fail
      refine (CRL.out _ (DG.b (by assumption))).mono ?_
      rintro e w1 ⟨rfl, hb1⟩
      have hd1 := DG.below (w0 := w) (by assumption) hb1
      clear hb1
      go_wp2_with fail
      refine (CLN.out _ (DG.b (by assumption))).mono ?_
      rintro e w1 ⟨rfl, hb1⟩
      have hd1 := DG.below (w0 := w) (by assumption) hb1
      clear hb1
      go_wp2_with fail
      refine (same_err _ w _ (by assumption)).mono ?_
      rintro e w1 ⟨rfl, hd1⟩
      go_wp2_with fail
      refine (CN.out _).mono ?_
      rintro e w1 ⟨rfl, hb1⟩
      have hd1 := DG.below (w0 := w) (by assumption) hb1
      clear hb1
      go_wp2_with fail
      go_ret
      exact ⟨ret_true (by first | rfl | (simp; done) | (simp; omega)), DG.b (by assumption)⟩
    · obtain ⟨e2, f2⟩ := e2
      have h2 : clE l s = shE' l.length s := by rw [clE, if_neg (by simp [e2])]
      have cln := cln (by rw [h2]; exact f2)
      rw [h2] at cln
      rw [e2] at crl
      have qb : (shE' l.length s == 0) = false := beq_eq_false_iff_ne.2 f2
      generalize shE' l.length s = E2 at *
      have CRL := Lib.hid crl; have CLN := Lib.hid cln; have CSB := Lib.hid csb
      clear crl cln clo h2 e2 f2 csb ccb
      go_enter Tryd.func19, Tryd.ntmps19
      go_wp2_with fail
      refine (CRT.out _ (DG.b (by assumption))).mono ?_
      rintro e w1 ⟨rfl, hb1⟩
      have hd1 := DG.below (w0 := w) (by assumption) hb1
      clear hb1
      go_wp2_with fail
      refine (CSA.out _ (DG.b (by assumption))).mono ?_
      rintro e w1 ⟨rfl, rfl⟩
      go_wp2_with fail
      refine (CCA.out _ (DG.b (by assumption))).mono ?_
      rintro e w1 ⟨Aa, ka, rfl, hoa, hb1⟩
      have HOa := Lib.hid hoa
      clear hoa
      have hd1 := DG.below (w0 := w) (by assumption) hb1
      clear hb1
      go_wp2_with fail
      refine (CTO.out _ (DG.b (by assumption))).mono ?_
      rintro e w1 ⟨Ba, ja, rfl, hpa, hb1⟩
      have HOa := Lib.hid (HOa.out.keep hb1)
      have HPa := Lib.hid hpa
      clear hpa
      have hd1 := DG.below (w0 := w) (by assumption) hb1
      clear hb1
      go_wp2_with fail
      refine (same_nil _).mono ?_
      rintro e w1 ⟨rfl, rfl⟩
      go_wp2_with fail
      refine (CSAT.out _ _ _ _ _ HPa.out.vals HOa.out.vals).mono ?_
      rintro e w1 ⟨rfl, hb1⟩
      have hd1 := DG.below (w0 := w) (by assumption) hb1
      clear hb1
      go_wp2_with fail
      refine (CRL.out _ (DG.b (by assumption))).mono ?_
      rintro e w1 ⟨rfl, hb1⟩
      have hd1 := DG.below (w0 := w) (by assumption) hb1
      clear hb1
      go_wp2_with fail
      refine (CSB.out _ (DG.b (by assumption))).mono ?_
      rintro e w1 ⟨rfl, rfl⟩
      go_wp2_with fail
      refine (CLN.out _ (DG.b (by assumption))).mono ?_
      rintro e w1 ⟨rfl, hb1⟩
      have hd1 := DG.below (w0 := w) (by assumption) hb1
      clear hb1
      go_wp2_with fail
      refine (same_err _ w _ (by assumption)).mono ?_
      rintro e w1 ⟨rfl, hd1⟩
      go_wp2_with fail
      refine (CN.out _).mono ?_
      rintro e w1 ⟨rfl, hb1⟩
      have hd1 := DG.below (w0 := w) (by assumption) hb1
      clear hb1
      go_wp2_with fail
      go_ret
      exact ⟨ret_true (by first | rfl | (simp; done) | (simp; omega)), DG.b (by assumption)⟩
    · obtain ⟨e2, f2⟩ := e2
      have h2 : clE l s = 0 := by rw [clE, if_neg (by simp [e2]), f2]
      have clo := clo h2
      obtain ⟨l0, l5, lv⟩ := tu_vaE e2
      have ccb := ccb ⟨2, 0, ⟨#[]⟩⟩ l5 (shE'_zero f2).1 lv
      rw [e2] at crl
      rw [f2] at csb
      have CRL := Lib.hid crl; have CLO := Lib.hid clo; have CSB := Lib.hid csb; have CCB := Lib.hid ccb
      clear crl cln clo h2 e2 f2 csb ccb l0 l5 lv
      go_enter Tryd.func19, Tryd.ntmps19
      go_wp2_with fail
      refine (CRT.out _ (DG.b (by assumption))).mono ?_
      rintro e w1 ⟨rfl, hb1⟩
      have hd1 := DG.below (w0 := w) (by assumption) hb1
      clear hb1
      go_wp2_with fail
      refine (CSA.out _ (DG.b (by assumption))).mono ?_
      rintro e w1 ⟨rfl, rfl⟩
      go_wp2_with fail
      refine (CCA.out _ (DG.b (by assumption))).mono ?_
      rintro e w1 ⟨Aa, ka, rfl, hoa, hb1⟩
      have HOa := Lib.hid hoa
      clear hoa
      have hd1 := DG.below (w0 := w) (by assumption) hb1
      clear hb1
      go_wp2_with fail
      refine (CTO.out _ (DG.b (by assumption))).mono ?_
      rintro e w1 ⟨Ba, ja, rfl, hpa, hb1⟩
      have HOa := Lib.hid (HOa.out.keep hb1)
      have HPa := Lib.hid hpa
      clear hpa
      have hd1 := DG.below (w0 := w) (by assumption) hb1
      clear hb1
      go_wp2_with fail
      refine (same_nil _).mono ?_
      rintro e w1 ⟨rfl, rfl⟩
      go_wp2_with fail
      refine (CSAT.out _ _ _ _ _ HPa.out.vals HOa.out.vals).mono ?_
      rintro e w1 ⟨rfl, hb1⟩
      have hd1 := DG.below (w0 := w) (by assumption) hb1
      clear hb1
      go_wp2_with fail
      refine (CRL.out _ (DG.b (by assumption))).mono ?_
      rintro e w1 ⟨rfl, hb1⟩
      have hd1 := DG.below (w0 := w) (by assumption) hb1
      clear hb1
      go_wp2_with fail
      refine (CSB.out _ (DG.b (by assumption))).mono ?_
      rintro e w1 ⟨rfl, rfl⟩
      go_wp2_with fail
      refine (CCB.out _ (DG.b (by assumption))).mono ?_
      rintro e w1 ⟨Ab, kb, rfl, hob, hb1⟩
      have HOb := Lib.hid hob
      clear hob
      have hd1 := DG.below (w0 := w) (by assumption) hb1
      clear hb1
      go_wp2_with fail
      refine (CLO.out _ (DG.b (by assumption))).mono ?_
      rintro e w1 ⟨Bb, jb, rfl, hpb, hb1⟩
      have HOb := Lib.hid (HOb.out.keep hb1)
      have HPb := Lib.hid hpb
      clear hpb
      have hd1 := DG.below (w0 := w) (by assumption) hb1
      clear hb1
      go_wp2_with fail
      refine (same_nil _).mono ?_
      rintro e w1 ⟨rfl, rfl⟩
      go_wp2_with fail
      refine (CSBT.out _ _ _ _ _ HPb.out.vals HOb.out.vals).mono ?_
      rintro e w1 ⟨rfl, hb1⟩
      have hd1 := DG.below (w0 := w) (by assumption) hb1
      clear hb1
      go_wp2_with fail
      go_ret
      exact ⟨ret_true (by first | rfl | (simp; done) | (simp; omega)), DG.b (by assumption)⟩

/-! ### the card's frame -/
set_option maxRecDepth 100000 in
theorem lifted (os : Os) (started : os.Started) (H : Type) (enc : TypeId × Value → H) :
    ReturnsInHanded {} Tryd.checked os 19 .any (fun w args => (Rows.coverTellsSpec.pre enc Tryd.prog Tryd.f19 [] false w args ∧ laidMetH Tryd.prog laidTH w) ∧ sizedMet enc Tryd.prog Tryd.f19 (OpenSpec.ofChange Rows.coverTellsSpec) false w args) (Rows.coverTellsSpec.post enc Tryd.prog Tryd.f19 false true false false) := by
  refine returnsInHanded_of_change_and (C := Tryd.checked) (X := fun w _ => laidMetH Tryd.prog laidTH w) (fun _ _ _ hh h => h.of_heap hh) door.own started (by kernel_rfl) Tryd.func19
    (ChangeSpec.witness_at (enc := enc) (C := Tryd.checked) (os := os) (X := fun w _ => laidMetH Tryd.prog laidTH w) false (laidWorldTH os) #[.slice none 0 0, .slice none 0 0, .slice none 0 0] 8 rfl (by kernel_rfl) (by kernel_rfl) (by kernel_rfl) (by kernel_rfl) (by kernel_rfl) (laidWorldTH_met os _)) ?_
  intro W base args ds gs before hval0 hW _ hsz hL _
  have hg := th_of_laid hL
  have hval : ∀ (j : Nat) t v, Tryd.f19.params[j]? = some t → args[j]? = some v → Value.okWide Tryd.prog W .any base t v := hval0
  have hW' := hW
  obtain ⟨p, q, hT0, hV, rfl, hfz, hnd⟩ := hW
  have hA : DataW.TrodAll enc Tryd.prog W 0 (fun _ => true) true Tryd.f19.params.toList args.toList ds p := hT0
  rw [Tryd.params19] at hA hval
  obtain ⟨v0, vs0, d0, ds0, p0, q0, hargs, rfl, rfl, h0, r0⟩ := trodAll_cons hA
  obtain ⟨v1, vs1, d1, ds1, p1, q1, rfl, rfl, rfl, h1, r1⟩ := trodAll_cons r0
  obtain ⟨v2, vs2, d2, ds2, p2, q2, rfl, rfl, rfl, h2, r2⟩ := trodAll_cons r1
  obtain ⟨rfl, rfl, rfl⟩ := trodAll_nil r2
  obtain rfl : args = #[v0, v1, v2] := by cases args; simp_all
  obtain ⟨rfl, rfl⟩ := trodVars_none hV
  have k0 := h0
  have lt0 : ∀ x ∈ p0, x.block < W.heap.size := by obtain ⟨m, hm⟩ := k0; exact DataW.trod_lt m _ _ _ hm
  obtain ⟨A0, c0, x0, rfl, hc0, hm0, hA0, w0⟩ := arg_Vals Tryd.underlying29 Tryd.underlying28 (by kernel_rfl) (by kernel_rfl) Tryd.underlying3 Tryd.underlying3 Tryd.underlying9 (hval 0 29 v0 rfl rfl) h0
  have k1 := h1
  have lt1 : ∀ x ∈ p1, x.block < W.heap.size := by obtain ⟨m, hm⟩ := k1; exact DataW.trod_lt m _ _ _ hm
  obtain ⟨A1, c1, x1, rfl, hc1, hm1, hA1, w1⟩ := arg_Vals Tryd.underlying29 Tryd.underlying28 (by kernel_rfl) (by kernel_rfl) Tryd.underlying3 Tryd.underlying3 Tryd.underlying9 (hval 1 29 v1 rfl rfl) h1
  have k2 := h2
  have lt2 : ∀ x ∈ p2, x.block < W.heap.size := by obtain ⟨m, hm⟩ := k2; exact DataW.trod_lt m _ _ _ hm
  obtain ⟨A2, c2, x2, rfl, hc2, hm2, hA2, w2⟩ := arg_Ints Tryd.underlying42 Tryd.underlying3 (by kernel_rfl) (hval 2 42 v2 rfl rfl) h2
  clear hT0 hval0
  refine (walk W hg A0 c0 x0 hc0 hm0 hA0 w0 A1 c1 x1 hc1 hm1 hA1 w1 A2 c2 x2 hc2 hm2 hA2 w2).mono fun e W' ⟨he, bel⟩ => ?_
  subst he
  exact ⟨_, rfl, _, _, _, [], _, [], hW', trodAll_mk1 (shut_bool Tryd.underlying4 _), (trodAll_cons_mk (Below.trod door.laidOut (by kernel_rfl) (of_decide_eq_true (by kernel_rfl)) k0 bel lt0) (trodAll_cons_mk (Below.trod door.laidOut (by kernel_rfl) (of_decide_eq_true (by kernel_rfl)) k1 bel lt1) (trodAll_cons_mk (Below.trod door.laidOut (by kernel_rfl) (of_decide_eq_true (by kernel_rfl)) k2 bel lt2) trodAll_mk0))), rfl, bel.frame _, fun h => by cases h⟩

theorem fr.fn : Tryd.prog.funcNamed Rows.coverTellsRow.func = some 19 := by kernel_rfl
theorem fr.cl : joinedFacts Tryd.prog 19 Tryd.f19 Rows.coverTellsSpec Rows.coverTellsRow = true := by kernel_rfl
theorem fr.is : Tryd.f19.isInstance Tryd.prog Rows.coverTellsRow.origin Rows.coverTellsRow.targs := of_decide_eq_true (by kernel_rfl)
theorem fr.wr : Tryd.f19.isWrapper Tryd.prog Rows.coverTellsRow.wrapper Rows.coverTellsRow.mainSum := by
  unfold Func.isWrapper; first | (rw [if_pos (by decide +kernel)]; kernel_rfl) | (rw [if_neg (by decide +kernel)]; exact ⟨rfl, rfl⟩)
theorem over : Rows.CoverTellsSaid :=
  OpenClaim.holds_of_wide 19 Tryd.f19 rfl rfl rfl rfl rfl rfl rfl ⟨rfl, rfl, rfl, rfl, rfl⟩ rfl rfl rfl rfl rfl fr.fn Tryd.func19 fr.cl fr.is fr.wr
    (fun os started H enc _ => lifted os started H enc)

theorem fr.hw : Rows.coverTellsRow.wfByText (OpenSpec.ofChange Rows.coverTellsSpec) = true := by kernel_rfl
theorem fr.hm : Tryd.pinned.checked.prog.mainIs = some (Rows.coverTellsCard.stood.harness.1, Rows.coverTellsCard.stood.harness.2.toList) := by kernel_rfl
theorem fr.lk : true = Tryd.prog.looks [] := by kernel_rfl
theorem fr.ws : ([29, 29, 42].all fun u => !Tryd.prog.wantsStandIn u) = true := by kernel_rfl
theorem fr.go : false = Rows.coverTellsRow.goesBy Tryd.pinned.checked.prog := by kernel_rfl
theorem proved : Rows.CoverTellsCardSaid :=
  Claim7.holds_tied_plain_at .later [] [.data, .data, .data, .handle] true Rows.coverTellsCard.stood.harness true over (fun _ h => by cases h) fr.hw (fun _ h => by cases h) coverTells_row_tie rfl ⟨rfl, rfl⟩ fr.hm rfl
    (fun f fn hf hfn => by
      obtain rfl : f = 19 := Option.some.inj (fr.fn.symm.trans hf) |>.symm
      obtain rfl : fn = Tryd.f19 := (Option.some.inj (Tryd.func19.symm.trans hfn)).symm
      exact ⟨fr.lk, fun j t ht => by
        rw [Tryd.params19] at ht
        have hm : t ∈ [29, 29, 42] := by simpa using Array.mem_of_getElem? ht
        exact (show Tryd.prog.wantsStandIn t = false by simpa using List.all_eq_true.1 fr.ws t hm)⟩)
    fr.go
#print axioms proved

end Go.Proofs.YthpemlhlgjdnkaaDoor.coverTells
