/- ShareTellsCardSaid: the shares of any secret, and any joined, are the reference's: for every secret, what is beside it, number, shares and need. -/
import Derived.Test.YtpmgmlmpiofnpaaDoorRefSh
import Derived.Test.YtpmgmlmpiofnpaaDoorSame
import Derived.Test.YtpmgmlmpiofnpaaDoorSeal
import Derived.Test.YtpmgmlmpiofnpaaDoorDoor
import Derived.Test.YtpmgmlmpiofnpaaDoorTie
import Derived.Test.YtpmgmlmpiofnpaaDoorCards
import Derived.WalkKit
import Derived.ProofKit
import Derived.OpenShut
import Derived.ShutString
import Derived.ChangeOld
import Derived.WalkLawsBesides
import Derived.WalkSpells
import Derived.RegionTactic
import Derived.ChangeAlike
import Derived.SevenTiedAt
import Derived.Deep.DeepCutAuto
import Derived.Outline
namespace Go.Proofs.YtpmgmlmpiofnpaaDoor.shareTells
open Go.ChangeShapes Go.WideShapes Go.ChangeAt Go.RowKit
set_option linter.unusedVariables false

set_option maxHeartbeats 600000 in
set_option maxRecDepth 100000 in
theorem walk0 (w : World) (hg : HG w) (s : Int) (A : Option Addr) (c : Nat) (r : List Int) (hA : Ints w A r) (m : Int) (A' : Option Addr) (c' : Nat) (l : List Sh) (hc' : l.length ≤ c') (hm' : c' ≤ maxLen) (hS : Shares w A' l) (need : Int) (hD : shE s r m = 0) (hJ : joE l need = 0) :
    Calls Tryd.prog 7 #[.int .i64 s, .slice A r.length c, .int .i64 m, .slice A' l.length c', .int .i64 need] w fun e w' => e = .returned (.bool true) ∧ Below w.heap.size w w' := by
  have hd := DG.refl hg
  clear hg
  obtain ⟨hs0, h6, ha0, hm0, hlt0⟩ := shE_zero hD
  obtain ⟨m1, m7⟩ := manB_true.1 hm0
  obtain ⟨n, rfl⟩ := Int.eq_ofNat_of_zero_le (show 0 ≤ m by omega)
  have cd := fun W (hI : Ints W A r) => rdealt_any s A c r n W hI
  rw [hD] at cd
  have crd := fun W (hI : Ints W A r) => rdeal_any s A c r n hD W hI
  have csd := fun W (hI : Ints W A r) => deal_ok s A c r n hD W hI
  have hdl : (dealL (s :: r) n).length = n := dealL_length _ _
  have cs : ∀ X Y c d W, Shares W X (dealL (s :: r) n) → Shares W Y (dealL (s :: r) n) → Calls Tryd.prog 38 #[.slice X n c, .slice Y n d] W fun e w' => e = .returned (.bool true) ∧ Below W.heap.size W w' := fun X Y c d W h1 h2 => by
    have := same_shares X Y c d (dealL (s :: r) n) (dealL (s :: r) n) W h1 h2 (by rw [hdl]; unfold maxLen; omega)
    rw [hdl] at this
    exact this.mono fun e w' ⟨h3, h4⟩ => ⟨by rw [h3]; simp, h4⟩
  have CD := Lib.hid cd; have CRD := Lib.hid crd; have CSD := Lib.hid csd; have CS := Lib.hid cs; clear cd crd csd cs hD hs0 h6 ha0 hm0 hlt0
  obtain ⟨hm2, hp2, hn2⟩ := joE_zero hJ
  obtain ⟨q1, q7⟩ := manB_true.1 hm2
  obtain ⟨k, rfl⟩ := Int.eq_ofNat_of_zero_le (show 0 ≤ need by omega)
  have crj := fun W (hI : Shares W A' l) => rjoin_ok A' c' l k hc' hm' hm2 hp2 (by omega) W hI
  have cj := fun W (hI : Shares W A' l) => join_ok A' c' l k hc' hm' hm2 hp2 (by omega) W hI
  generalize thrL (l.take k) 0 = V at *
  have CRJ := Lib.hid crj; have CJ := Lib.hid cj; clear crj cj hJ hm2 hp2 hn2
  go_enter Tryd.func7, Tryd.ntmps7
  go_wp2_with (first
      | (go_at_call 35; refine (CD.out _ (hA.below (DG.b (by assumption)) (Nat.le_refl _))).mono ?_; rintro e w' ⟨rfl, rfl⟩)
      | (go_at_call 36; refine (CRD.out _ (hA.below (DG.b (by assumption)) (Nat.le_refl _))).mono ?_; rintro e w1 ⟨A1, c1, rfl, ho1, hb1⟩; have hd1 := DG.below (w0 := w) (by assumption) hb1; clear hb1)
      | (go_at_call 37; refine (CSD.out _ (hA.below (DG.b (by assumption)) (Nat.le_refl _))).mono ?_; rintro e w2 ⟨A2, c2, rfl, ho2, hb2⟩; have hd2 := DG.below (w0 := w) (by assumption) hb2; have ho1 := ho1.keep hb2; clear hb2)
      | (go_at_call 37; refine (CSN.out _ (hA.below (DG.b (by assumption)) (Nat.le_refl _))).mono ?_; rintro e w' ⟨rfl, rfl⟩)
      | (go_at_call 13; (with_reducible refine (same_nil _).mono ?_); rintro e w' ⟨rfl, rfl⟩)
      | (go_at_call 13; refine (same_err _ w _ (by assumption)).mono ?_; rintro e w3 ⟨rfl, hd3⟩)
      | (go_at_call 38; refine (CS.out _ _ _ _ _ (OShares.shares (by assumption)) (OShares.shares (by assumption))).mono ?_; rintro e w4 ⟨rfl, hb4⟩; have hd4 := DG.below (w0 := w) (by assumption) hb4; clear hb4)
      | (go_at_call 38; refine (CZ.out _ _).mono ?_; rintro e w4 ⟨rfl, hb4⟩; have hd4 := DG.below (w0 := w) (by assumption) hb4; clear hb4)
      | (go_at_call 39; refine (CRJ.out _ (hS.below (DG.b (by assumption)) (Nat.le_refl _))).mono ?_; rintro e w5 ⟨rfl, hb5⟩; have hd5 := DG.below (w0 := w) (by assumption) hb5; clear hb5)
      | (go_at_call 40; refine (CJ.out _ (hS.below (DG.b (by assumption)) (Nat.le_refl _))).mono ?_; rintro e w6 ⟨rfl, hb6⟩; have hd6 := DG.below (w0 := w) (by assumption) hb6; clear hb6))
  go_ret
  exact ⟨ret_true (by first | rfl | (simp; done) | (simp; omega)), DG.b (by assumption)⟩

set_option maxHeartbeats 600000 in
set_option maxRecDepth 100000 in
theorem walk1 (w : World) (hg : HG w) (s : Int) (A : Option Addr) (c : Nat) (r : List Int) (hA : Ints w A r) (m : Int) (A' : Option Addr) (c' : Nat) (l : List Sh) (hc' : l.length ≤ c') (hm' : c' ≤ maxLen) (hS : Shares w A' l) (need : Int) (hD : shE s r m = 0) (hJ : joE l need ≠ 0) :
    Calls Tryd.prog 7 #[.int .i64 s, .slice A r.length c, .int .i64 m, .slice A' l.length c', .int .i64 need] w fun e w' => e = .returned (.bool true) ∧ Below w.heap.size w w' := by
  have hd := DG.refl hg
  clear hg
  obtain ⟨hs0, h6, ha0, hm0, hlt0⟩ := shE_zero hD
  obtain ⟨m1, m7⟩ := manB_true.1 hm0
  obtain ⟨n, rfl⟩ := Int.eq_ofNat_of_zero_le (show 0 ≤ m by omega)
  have cd := fun W (hI : Ints W A r) => rdealt_any s A c r n W hI
  rw [hD] at cd
  have crd := fun W (hI : Ints W A r) => rdeal_any s A c r n hD W hI
  have csd := fun W (hI : Ints W A r) => deal_ok s A c r n hD W hI
  have hdl : (dealL (s :: r) n).length = n := dealL_length _ _
  have cs : ∀ X Y c d W, Shares W X (dealL (s :: r) n) → Shares W Y (dealL (s :: r) n) → Calls Tryd.prog 38 #[.slice X n c, .slice Y n d] W fun e w' => e = .returned (.bool true) ∧ Below W.heap.size W w' := fun X Y c d W h1 h2 => by
    have := same_shares X Y c d (dealL (s :: r) n) (dealL (s :: r) n) W h1 h2 (by rw [hdl]; unfold maxLen; omega)
    rw [hdl] at this
    exact this.mono fun e w' ⟨h3, h4⟩ => ⟨by rw [h3]; simp, h4⟩
  have CD := Lib.hid cd; have CRD := Lib.hid crd; have CSD := Lib.hid csd; have CS := Lib.hid cs; clear cd crd csd cs hD hs0 h6 ha0 hm0 hlt0
  have crj := fun W (hI : Shares W A' l) => rjoin_no A' c' l need hJ W hI
  have cj := fun W (hI : Shares W A' l) => join_no A' c' l need hc' hm' hJ W hI
  generalize joE l need = E2 at *
  have CRJ := Lib.hid crj; have CJ := Lib.hid cj; clear crj cj hJ
  go_enter Tryd.func7, Tryd.ntmps7
  go_wp2_with (first
      | (go_at_call 35; refine (CD.out _ (hA.below (DG.b (by assumption)) (Nat.le_refl _))).mono ?_; rintro e w' ⟨rfl, rfl⟩)
      | (go_at_call 36; refine (CRD.out _ (hA.below (DG.b (by assumption)) (Nat.le_refl _))).mono ?_; rintro e w1 ⟨A1, c1, rfl, ho1, hb1⟩; have hd1 := DG.below (w0 := w) (by assumption) hb1; clear hb1)
      | (go_at_call 37; refine (CSD.out _ (hA.below (DG.b (by assumption)) (Nat.le_refl _))).mono ?_; rintro e w2 ⟨A2, c2, rfl, ho2, hb2⟩; have hd2 := DG.below (w0 := w) (by assumption) hb2; have ho1 := ho1.keep hb2; clear hb2)
      | (go_at_call 37; refine (CSN.out _ (hA.below (DG.b (by assumption)) (Nat.le_refl _))).mono ?_; rintro e w' ⟨rfl, rfl⟩)
      | (go_at_call 13; (with_reducible refine (same_nil _).mono ?_); rintro e w' ⟨rfl, rfl⟩)
      | (go_at_call 13; refine (same_err _ w _ (by assumption)).mono ?_; rintro e w3 ⟨rfl, hd3⟩)
      | (go_at_call 38; refine (CS.out _ _ _ _ _ (OShares.shares (by assumption)) (OShares.shares (by assumption))).mono ?_; rintro e w4 ⟨rfl, hb4⟩; have hd4 := DG.below (w0 := w) (by assumption) hb4; clear hb4)
      | (go_at_call 38; refine (CZ.out _ _).mono ?_; rintro e w4 ⟨rfl, hb4⟩; have hd4 := DG.below (w0 := w) (by assumption) hb4; clear hb4)
      | (go_at_call 39; refine (CRJ.out _ (hS.below (DG.b (by assumption)) (Nat.le_refl _))).mono ?_; rintro e w5 ⟨rfl, hb5⟩; have hd5 := DG.below (w0 := w) (by assumption) hb5; clear hb5)
      | (go_at_call 40; refine (CJ.out _ (hS.below (DG.b (by assumption)) (Nat.le_refl _))).mono ?_; rintro e w6 ⟨rfl, hb6⟩; have hd6 := DG.below (w0 := w) (by assumption) hb6; clear hb6))
  go_ret
  exact ⟨ret_true (by first | rfl | (simp; done) | (simp; omega)), DG.b (by assumption)⟩

set_option maxHeartbeats 600000 in
set_option maxRecDepth 100000 in
theorem walk2 (w : World) (hg : HG w) (s : Int) (A : Option Addr) (c : Nat) (r : List Int) (hA : Ints w A r) (m : Int) (A' : Option Addr) (c' : Nat) (l : List Sh) (hc' : l.length ≤ c') (hm' : c' ≤ maxLen) (hS : Shares w A' l) (need : Int) (hD : shE s r m ≠ 0) (hJ : joE l need = 0) :
    Calls Tryd.prog 7 #[.int .i64 s, .slice A r.length c, .int .i64 m, .slice A' l.length c', .int .i64 need] w fun e w' => e = .returned (.bool true) ∧ Below w.heap.size w w' := by
  have hd := DG.refl hg
  clear hg
  have cd := fun W (hI : Ints W A r) => rdealt_any s A c r m W hI
  have csn := fun W (hI : Ints W A r) => deal_no s A c r m hD W hI
  have hE : (shE s r m == 0) = false := beq_eq_false_iff_ne.2 hD
  generalize shE s r m = E1 at *
  have cz : ∀ d W, Calls Tryd.prog 38 #[.slice none 0 d, .slice none 0 0] W fun e w' => e = .returned (.bool true) ∧ Below W.heap.size W w' := fun d W => by
    have := same_shares none none d 0 [] [] W Shares.nil Shares.nil (by simp)
    exact this.mono fun e w' ⟨h3, h4⟩ => ⟨by rw [h3]; simp, h4⟩
  have CD := Lib.hid cd; have CSN := Lib.hid csn; have CZ := Lib.hid cz; clear cd csn cz hD
  obtain ⟨hm2, hp2, hn2⟩ := joE_zero hJ
  obtain ⟨q1, q7⟩ := manB_true.1 hm2
  obtain ⟨k, rfl⟩ := Int.eq_ofNat_of_zero_le (show 0 ≤ need by omega)
  have crj := fun W (hI : Shares W A' l) => rjoin_ok A' c' l k hc' hm' hm2 hp2 (by omega) W hI
  have cj := fun W (hI : Shares W A' l) => join_ok A' c' l k hc' hm' hm2 hp2 (by omega) W hI
  generalize thrL (l.take k) 0 = V at *
  have CRJ := Lib.hid crj; have CJ := Lib.hid cj; clear crj cj hJ hm2 hp2 hn2
  go_enter Tryd.func7, Tryd.ntmps7
  go_wp2_with (first
      | (go_at_call 35; refine (CD.out _ (hA.below (DG.b (by assumption)) (Nat.le_refl _))).mono ?_; rintro e w' ⟨rfl, rfl⟩)
      | (go_at_call 36; refine (CRD.out _ (hA.below (DG.b (by assumption)) (Nat.le_refl _))).mono ?_; rintro e w1 ⟨A1, c1, rfl, ho1, hb1⟩; have hd1 := DG.below (w0 := w) (by assumption) hb1; clear hb1)
      | (go_at_call 37; refine (CSD.out _ (hA.below (DG.b (by assumption)) (Nat.le_refl _))).mono ?_; rintro e w2 ⟨A2, c2, rfl, ho2, hb2⟩; have hd2 := DG.below (w0 := w) (by assumption) hb2; have ho1 := ho1.keep hb2; clear hb2)
      | (go_at_call 37; refine (CSN.out _ (hA.below (DG.b (by assumption)) (Nat.le_refl _))).mono ?_; rintro e w' ⟨rfl, rfl⟩)
      | (go_at_call 13; (with_reducible refine (same_nil _).mono ?_); rintro e w' ⟨rfl, rfl⟩)
      | (go_at_call 13; refine (same_err _ w _ (by assumption)).mono ?_; rintro e w3 ⟨rfl, hd3⟩)
      | (go_at_call 38; refine (CS.out _ _ _ _ _ (OShares.shares (by assumption)) (OShares.shares (by assumption))).mono ?_; rintro e w4 ⟨rfl, hb4⟩; have hd4 := DG.below (w0 := w) (by assumption) hb4; clear hb4)
      | (go_at_call 38; refine (CZ.out _ _).mono ?_; rintro e w4 ⟨rfl, hb4⟩; have hd4 := DG.below (w0 := w) (by assumption) hb4; clear hb4)
      | (go_at_call 39; refine (CRJ.out _ (hS.below (DG.b (by assumption)) (Nat.le_refl _))).mono ?_; rintro e w5 ⟨rfl, hb5⟩; have hd5 := DG.below (w0 := w) (by assumption) hb5; clear hb5)
      | (go_at_call 40; refine (CJ.out _ (hS.below (DG.b (by assumption)) (Nat.le_refl _))).mono ?_; rintro e w6 ⟨rfl, hb6⟩; have hd6 := DG.below (w0 := w) (by assumption) hb6; clear hb6))
  go_ret
  exact ⟨ret_true (by first | rfl | (simp; done) | (simp; omega)), DG.b (by assumption)⟩

set_option maxHeartbeats 600000 in
set_option maxRecDepth 100000 in
theorem walk3 (w : World) (hg : HG w) (s : Int) (A : Option Addr) (c : Nat) (r : List Int) (hA : Ints w A r) (m : Int) (A' : Option Addr) (c' : Nat) (l : List Sh) (hc' : l.length ≤ c') (hm' : c' ≤ maxLen) (hS : Shares w A' l) (need : Int) (hD : shE s r m ≠ 0) (hJ : joE l need ≠ 0) :
    Calls Tryd.prog 7 #[.int .i64 s, .slice A r.length c, .int .i64 m, .slice A' l.length c', .int .i64 need] w fun e w' => e = .returned (.bool true) ∧ Below w.heap.size w w' := by
  have hd := DG.refl hg
  clear hg
  have cd := fun W (hI : Ints W A r) => rdealt_any s A c r m W hI
  have csn := fun W (hI : Ints W A r) => deal_no s A c r m hD W hI
  have hE : (shE s r m == 0) = false := beq_eq_false_iff_ne.2 hD
  generalize shE s r m = E1 at *
  have cz : ∀ d W, Calls Tryd.prog 38 #[.slice none 0 d, .slice none 0 0] W fun e w' => e = .returned (.bool true) ∧ Below W.heap.size W w' := fun d W => by
    have := same_shares none none d 0 [] [] W Shares.nil Shares.nil (by simp)
    exact this.mono fun e w' ⟨h3, h4⟩ => ⟨by rw [h3]; simp, h4⟩
  have CD := Lib.hid cd; have CSN := Lib.hid csn; have CZ := Lib.hid cz; clear cd csn cz hD
  have crj := fun W (hI : Shares W A' l) => rjoin_no A' c' l need hJ W hI
  have cj := fun W (hI : Shares W A' l) => join_no A' c' l need hc' hm' hJ W hI
  generalize joE l need = E2 at *
  have CRJ := Lib.hid crj; have CJ := Lib.hid cj; clear crj cj hJ
  go_enter Tryd.func7, Tryd.ntmps7
  go_wp2_with (first
      | (go_at_call 35; refine (CD.out _ (hA.below (DG.b (by assumption)) (Nat.le_refl _))).mono ?_; rintro e w' ⟨rfl, rfl⟩)
      | (go_at_call 36; refine (CRD.out _ (hA.below (DG.b (by assumption)) (Nat.le_refl _))).mono ?_; rintro e w1 ⟨A1, c1, rfl, ho1, hb1⟩; have hd1 := DG.below (w0 := w) (by assumption) hb1; clear hb1)
      | (go_at_call 37; refine (CSD.out _ (hA.below (DG.b (by assumption)) (Nat.le_refl _))).mono ?_; rintro e w2 ⟨A2, c2, rfl, ho2, hb2⟩; have hd2 := DG.below (w0 := w) (by assumption) hb2; have ho1 := ho1.keep hb2; clear hb2)
      | (go_at_call 37; refine (CSN.out _ (hA.below (DG.b (by assumption)) (Nat.le_refl _))).mono ?_; rintro e w' ⟨rfl, rfl⟩)
      | (go_at_call 13; (with_reducible refine (same_nil _).mono ?_); rintro e w' ⟨rfl, rfl⟩)
      | (go_at_call 13; refine (same_err _ w _ (by assumption)).mono ?_; rintro e w3 ⟨rfl, hd3⟩)
      | (go_at_call 38; refine (CS.out _ _ _ _ _ (OShares.shares (by assumption)) (OShares.shares (by assumption))).mono ?_; rintro e w4 ⟨rfl, hb4⟩; have hd4 := DG.below (w0 := w) (by assumption) hb4; clear hb4)
      | (go_at_call 38; refine (CZ.out _ _).mono ?_; rintro e w4 ⟨rfl, hb4⟩; have hd4 := DG.below (w0 := w) (by assumption) hb4; clear hb4)
      | (go_at_call 39; refine (CRJ.out _ (hS.below (DG.b (by assumption)) (Nat.le_refl _))).mono ?_; rintro e w5 ⟨rfl, hb5⟩; have hd5 := DG.below (w0 := w) (by assumption) hb5; clear hb5)
      | (go_at_call 40; refine (CJ.out _ (hS.below (DG.b (by assumption)) (Nat.le_refl _))).mono ?_; rintro e w6 ⟨rfl, hb6⟩; have hd6 := DG.below (w0 := w) (by assumption) hb6; clear hb6))
  go_ret
  exact ⟨ret_true (by first | rfl | (simp; done) | (simp; omega)), DG.b (by assumption)⟩

theorem walk (w : World) (hg : HG w) (s : Int) (_ : I64 s) (A : Option Addr) (c : Nat) (r : List Int) (_ : r.length ≤ c) (_ : c ≤ maxLen) (hA : Ints w A r) (_ : ∀ i, i < r.length → I64 (gi r i)) (m : Int) (_ : I64 m)
    (A' : Option Addr) (c' : Nat) (l : List Sh) (hc' : l.length ≤ c') (hm' : c' ≤ maxLen) (hS : Shares w A' l) (_ : ∀ i, i < l.length → I64 (ga l i) ∧ I64 (gb l i)) (need : Int) (_ : I64 need) :
    Calls Tryd.prog 7 #[.int .i64 s, .slice A r.length c, .int .i64 m, .slice A' l.length c', .int .i64 need] w fun e w' => e = .returned (.bool true) ∧ Below w.heap.size w w' := by
  by_cases hD : shE s r m = 0 <;> by_cases hJ : joE l need = 0
  · exact walk0 w hg s A c r hA m A' c' l hc' hm' hS need hD hJ
  · exact walk1 w hg s A c r hA m A' c' l hc' hm' hS need hD hJ
  · exact walk2 w hg s A c r hA m A' c' l hc' hm' hS need hD hJ
  · exact walk3 w hg s A c r hA m A' c' l hc' hm' hS need hD hJ

/-! ### the card's frame -/
set_option maxRecDepth 100000 in
theorem lifted (os : Os) (started : os.Started) (H : Type) (enc : TypeId × Value → H) :
    ReturnsInHanded {} Tryd.checked os 7 .any (fun w args => (Rows.shareTellsSpec.pre enc Tryd.prog Tryd.f7 [] false w args ∧ laidMetH Tryd.prog laidL w) ∧ sizedMet enc Tryd.prog Tryd.f7 (OpenSpec.ofChange Rows.shareTellsSpec) false w args) (Rows.shareTellsSpec.post enc Tryd.prog Tryd.f7 false true false false) := by
  refine returnsInHanded_of_change_and (C := Tryd.checked) (X := fun w _ => laidMetH Tryd.prog laidL w) (fun _ _ _ hh h => h.of_heap hh) door.own started (by kernel_rfl) Tryd.func7
    (ChangeSpec.witness_at (enc := enc) (C := Tryd.checked) (os := os) (X := fun w _ => laidMetH Tryd.prog laidL w) false (laidWorld os) #[.int .i64 0, .slice none 0 0, .int .i64 0, .slice none 0 0, .int .i64 0] 8 rfl (by kernel_rfl) (by kernel_rfl) (by kernel_rfl) (by kernel_rfl) (by kernel_rfl) (laidWorld_met os _)) ?_
  intro W base args ds gs before hval0 hW _ _ hL _
  have hg := handle_of_laid hL
  have hval : ∀ (j : Nat) t v, Tryd.f7.params[j]? = some t → args[j]? = some v → Value.okWide Tryd.prog W .any base t v := hval0
  have hW' := hW
  obtain ⟨p, q, hA0, hV, rfl, hfz, hnd⟩ := hW
  have hA : DataW.TrodAll enc Tryd.prog W 0 (fun _ => true) true Tryd.f7.params.toList args.toList ds p := hA0
  rw [Tryd.params7] at hA hval
  obtain ⟨v0, vs0, d0, ds0, p0, q0, hargs, rfl, rfl, h0, r0⟩ := trodAll_cons hA
  obtain ⟨v1, vs1, d1, ds1, p1, q1, rfl, rfl, rfl, h1, r1⟩ := trodAll_cons r0
  obtain ⟨v2, vs2, d2, ds2, p2, q2, rfl, rfl, rfl, h2, r2⟩ := trodAll_cons r1
  obtain ⟨v3, vs3, d3, ds3, p3, q3, rfl, rfl, rfl, h3, r3⟩ := trodAll_cons r2
  obtain ⟨v4, vs4, d4, ds4, p4, q4, rfl, rfl, rfl, h4, r4⟩ := trodAll_cons r3
  obtain ⟨rfl, rfl, rfl⟩ := trodAll_nil r4
  obtain rfl : args = #[v0, v1, v2, v3, v4] := by cases args; simp_all
  obtain ⟨rfl, rfl⟩ := trodVars_none hV
  have k0 := h0
  have lt0 : ∀ x ∈ p0, x.block < W.heap.size := by obtain ⟨m, hm⟩ := k0; exact DataW.trod_lt m _ _ _ hm
  obtain ⟨x0, rfl, w0⟩ := arg_int Tryd.underlying3 (hval 0 3 v0 rfl rfl) h0
  have k1 := h1
  have lt1 : ∀ x ∈ p1, x.block < W.heap.size := by obtain ⟨m, hm⟩ := k1; exact DataW.trod_lt m _ _ _ hm
  obtain ⟨A1, c1, x1, rfl, hc1, hm1, hA1, w1⟩ := arg_Ints Tryd.underlying39 Tryd.underlying3 (by kernel_rfl) (hval 1 39 v1 rfl rfl) h1
  have k2 := h2
  have lt2 : ∀ x ∈ p2, x.block < W.heap.size := by obtain ⟨m, hm⟩ := k2; exact DataW.trod_lt m _ _ _ hm
  obtain ⟨x2, rfl, w2⟩ := arg_int Tryd.underlying3 (hval 2 3 v2 rfl rfl) h2
  have k3 := h3
  have lt3 : ∀ x ∈ p3, x.block < W.heap.size := by obtain ⟨m, hm⟩ := k3; exact DataW.trod_lt m _ _ _ hm
  obtain ⟨A3, c3, x3, rfl, hc3, hm3, hA3, w3⟩ := arg_Shares Tryd.underlying51 Tryd.underlying41 (by kernel_rfl) (by kernel_rfl) Tryd.underlying3 Tryd.underlying3 (hval 3 51 v3 rfl rfl) h3
  have k4 := h4
  have lt4 : ∀ x ∈ p4, x.block < W.heap.size := by obtain ⟨m, hm⟩ := k4; exact DataW.trod_lt m _ _ _ hm
  obtain ⟨x4, rfl, w4⟩ := arg_int Tryd.underlying3 (hval 4 3 v4 rfl rfl) h4
  clear hA0 hval0
  refine (walk W hg x0 w0 A1 c1 x1 hc1 hm1 hA1 w1 x2 w2 A3 c3 x3 hc3 hm3 hA3 w3 x4 w4).mono fun e W' ⟨he, bel⟩ => ?_
  subst he
  exact ⟨_, rfl, _, _, _, [], _, [], hW', trodAll_mk1 (shut_bool Tryd.underlying4 _), (trodAll_cons_mk (Below.trod door.laidOut (by kernel_rfl) (of_decide_eq_true (by kernel_rfl)) k0 bel lt0) (trodAll_cons_mk (Below.trod door.laidOut (by kernel_rfl) (of_decide_eq_true (by kernel_rfl)) k1 bel lt1) (trodAll_cons_mk (Below.trod door.laidOut (by kernel_rfl) (of_decide_eq_true (by kernel_rfl)) k2 bel lt2) (trodAll_cons_mk (Below.trod door.laidOut (by kernel_rfl) (of_decide_eq_true (by kernel_rfl)) k3 bel lt3) (trodAll_cons_mk (Below.trod door.laidOut (by kernel_rfl) (of_decide_eq_true (by kernel_rfl)) k4 bel lt4) trodAll_mk0))))), rfl, bel.frame _, fun h => by cases h⟩

theorem over : Rows.ShareTellsSaid :=
  OpenClaim.holds_of_wide 7 Tryd.f7 rfl rfl rfl rfl rfl rfl rfl ⟨rfl, rfl, rfl, rfl, rfl⟩ rfl rfl rfl rfl rfl (by kernel_rfl) Tryd.func7 (by kernel_rfl)
    (of_decide_eq_true (by kernel_rfl)) (by unfold Func.isWrapper; first | (rw [if_pos (by decide +kernel)]; kernel_rfl) | (rw [if_neg (by decide +kernel)]; exact ⟨rfl, rfl⟩))
    (fun os started H enc _ => lifted os started H enc)

theorem proved : Rows.ShareTellsCardSaid :=
  Claim7.holds_tied_plain_at .later [] [.handle] true _ true over (fun _ h => by cases h) (by kernel_rfl) (fun _ h => by cases h) shareTells_row_tie rfl ⟨rfl, rfl⟩ (by kernel_rfl) rfl
    (fun f fn hf hfn => by
      obtain rfl : f = 7 := Option.some.inj ((show Tryd.prog.funcNamed Rows.shareTellsRow.func = some 7 by kernel_rfl).symm.trans hf) |>.symm
      obtain rfl : fn = Tryd.f7 := (Option.some.inj (Tryd.func7.symm.trans hfn)).symm
      exact ⟨by kernel_rfl, fun j t ht => by
        rw [Tryd.params7] at ht
        have hm : t ∈ [3, 39, 3, 51, 3] := by simpa using Array.mem_of_getElem? ht
        have hall : ([3, 39, 3, 51, 3].all fun u => !Tryd.prog.wantsStandIn u) = true := by kernel_rfl
        exact (show Tryd.prog.wantsStandIn t = false by simpa using List.all_eq_true.1 hall t hm)⟩)
    (by kernel_rfl)
#print axioms proved

end Go.Proofs.YtpmgmlmpiofnpaaDoor.shareTells
