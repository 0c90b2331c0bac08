/- PolyTellsCardSaid: what any polynomial is anywhere, and what goes through any points, is the reference's: for every factors, place and points. -/
import Derived.Test.YtpmgmlmpiofnpaaDoorRefNext
import Derived.Test.YtpmgmlmpiofnpaaDoorDoor
import Derived.Test.YtpmgmlmpiofnpaaDoorTie
import Derived.Test.YtpmgmlmpiofnpaaDoorCards
import Derived.WalkKit
import Derived.ProofKit
import Derived.OpenShut
import Derived.ShutString
import Derived.ChangeOld
import Derived.WalkLawsBesides
import Derived.WalkSpells
import Derived.RegionTactic
import Derived.ChangeAlike
import Derived.SevenTiedAt
import Derived.Deep.DeepCutAuto
import Derived.Outline
namespace Go.Proofs.YtpmgmlmpiofnpaaDoor.polyTells
open Go.ChangeShapes Go.WideShapes Go.ChangeAt Go.RowKit
set_option linter.unusedVariables false

theorem facE_zero {p : List Int} (h : facE p = 0) : p.length ≤ 7 ∧ allIn p p.length = true := by
  unfold facE at h
  split at h
  · cases h
  · split at h
    · rename_i h1 h2; exact ⟨by omega, h2⟩
    · cases h
theorem facV_no {p : List Int} (h : facE p ≠ 0) : facV p = errV (facE p) := by rw [facV_eV, eV, if_neg h]
theorem eq_below {w w' : World} (h : w = w') : Below w.heap.size w w' := h ▸ Below.refl _ _

set_option maxHeartbeats 600000 in
set_option maxRecDepth 100000 in
theorem walk0 (w : World) (hg : HG w) (A : Option Addr) (c : Nat) (p : List Int) (hA : Ints w A p) (x : Int) (A' : Option Addr) (c' : Nat) (l : List Sh) (hc' : l.length ≤ c') (hm' : c' ≤ maxLen) (hS : Shares w A' l) (hx : inB x = true) (hF : facE p = 0) (hP : poiE l = 0) :
    Calls Tryd.prog 6 #[.slice A p.length c, .int .i64 x, .slice A' l.length c'] w fun e w' => e = .returned (.bool true) ∧ Below w.heap.size w w' := by
  have hd := DG.refl hg
  clear hg
  obtain ⟨x0, x1⟩ := inB_true.1 hx
  obtain ⟨hl, hi⟩ := facE_zero hF
  have cf := fun W (hI : Ints W A p) => rfactors_any A c p W hI
  rw [hF] at cf
  have ca := fun W (hI : Ints W A p) => rat_any A c p x hl hi x0 x1 W hI
  have cat := fun W (hI : Ints W A p) => at_ok A c p x hl hi hx W hI
  generalize PM.hor p x = V1 at *
  have CF := Lib.hid cf; have CA := Lib.hid ca; have CAT := Lib.hid cat; clear cf ca cat hl hi hF
  obtain ⟨n0, n1, hp⟩ := poi_pts l hP
  have cp := fun W (hI : Shares W A' l) => rpoints_any A' c' l W hI
  rw [hP] at cp
  have cx := fun y (y0 : 0 ≤ y) (y1 : y < 257) W (hI : Shares W A' l) => rnext_any A' c' l y y0 y1 n0 n1 hp W hI
  have cn := fun W (hI : Shares W A' l) => next_ok A' c' l x hc' hm' hP hx W hI
  have cz := fun W (hI : Shares W A' l) => zero_ok A' c' l hc' hm' hP W hI
  generalize PM.thr (ga l) (gb l) l.length = V2 at *
  have CP := Lib.hid cp; have CX := Lib.hid cx; have CN := Lib.hid cn; have CZ := Lib.hid cz; clear cp cx cn cz hp hP
  go_enter Tryd.func6, Tryd.ntmps6
  go_wp2_with (first
      | (go_at_call 23; refine (CF.out _ (hA.below (DG.b (by assumption)) (Nat.le_refl _))).mono ?_; rintro e w' ⟨rfl, rfl⟩)
      | (go_at_call 17; refine (rin_any _ _).mono ?_; rintro e w' ⟨rfl, rfl⟩)
      | (go_at_call 29; refine (CA.out _ (hA.below (DG.b (by assumption)) (Nat.le_refl _))).mono ?_; rintro e w' ⟨rfl, rfl⟩)
      | (go_at_call 30; refine (CAT.out _ (hA.below (DG.b (by assumption)) (Nat.le_refl _))).mono ?_; rintro e w1 ⟨rfl, hb1⟩; have hd1 := DG.below (w0 := w) (by assumption) hb1; clear hb1)
      | (go_at_call 13; (with_reducible refine (same_nil _).mono ?_); rintro e w' ⟨rfl, rfl⟩)
      | (go_at_call 13; refine (same_err _ w _ (by assumption)).mono ?_; rintro e w2 ⟨rfl, hd2⟩)
      | (go_at_call 31; refine (CP.out _ (hS.below (DG.b (by assumption)) (Nat.le_refl _))).mono ?_; rintro e w3 ⟨rfl, hb3⟩; have hd3 := DG.below (w0 := w) (by assumption) hb3; clear hb3)
      | (go_at_call 32; refine (CX.out _ (by omega) (by omega) _ (hS.below (DG.b (by assumption)) (Nat.le_refl _))).mono ?_; rintro e w4 ⟨rfl, hb4⟩; have hd4 := DG.below (w0 := w) (by assumption) hb4; clear hb4)
      | (go_at_call 33; refine (CN.out _ (hS.below (DG.b (by assumption)) (Nat.le_refl _))).mono ?_; rintro e w5 ⟨rfl, hb5⟩; have hd5 := DG.below (w0 := w) (by assumption) hb5; clear hb5)
      | (go_at_call 34; refine (CZ.out _ (hS.below (DG.b (by assumption)) (Nat.le_refl _))).mono ?_; rintro e w6 ⟨rfl, hb6⟩; have hd6 := DG.below (w0 := w) (by assumption) hb6; clear hb6))
  go_ret
  exact ⟨ret_true (by first | rfl | (simp; done) | (simp; omega)), DG.b (by assumption)⟩

set_option maxHeartbeats 600000 in
set_option maxRecDepth 100000 in
theorem walk1 (w : World) (hg : HG w) (A : Option Addr) (c : Nat) (p : List Int) (hA : Ints w A p) (x : Int) (A' : Option Addr) (c' : Nat) (l : List Sh) (hc' : l.length ≤ c') (hm' : c' ≤ maxLen) (hS : Shares w A' l) (hx : inB x = true) (hF : facE p = 0) (hP : poiE l ≠ 0) :
    Calls Tryd.prog 6 #[.slice A p.length c, .int .i64 x, .slice A' l.length c'] w fun e w' => e = .returned (.bool true) ∧ Below w.heap.size w w' := by
  have hd := DG.refl hg
  clear hg
  obtain ⟨x0, x1⟩ := inB_true.1 hx
  obtain ⟨hl, hi⟩ := facE_zero hF
  have cf := fun W (hI : Ints W A p) => rfactors_any A c p W hI
  rw [hF] at cf
  have ca := fun W (hI : Ints W A p) => rat_any A c p x hl hi x0 x1 W hI
  have cat := fun W (hI : Ints W A p) => at_ok A c p x hl hi hx W hI
  generalize PM.hor p x = V1 at *
  have CF := Lib.hid cf; have CA := Lib.hid ca; have CAT := Lib.hid cat; clear cf ca cat hl hi hF
  have hE2 : (poiE l == 0) = false := beq_eq_false_iff_ne.2 hP
  have cp := fun W (hI : Shares W A' l) => rpoints_any A' c' l W hI
  have cn := fun W (hI : Shares W A' l) => next_poi A' c' l x hc' hm' hP W hI
  have cz := fun W (hI : Shares W A' l) => zero_no A' c' l hc' hm' hP W hI
  generalize poiE l = E2 at *
  have CP := Lib.hid cp; have CN := Lib.hid cn; have CZ := Lib.hid cz; clear cp cn cz hP
  go_enter Tryd.func6, Tryd.ntmps6
  go_wp2_with (first
      | (go_at_call 23; refine (CF.out _ (hA.below (DG.b (by assumption)) (Nat.le_refl _))).mono ?_; rintro e w' ⟨rfl, rfl⟩)
      | (go_at_call 17; refine (rin_any _ _).mono ?_; rintro e w' ⟨rfl, rfl⟩)
      | (go_at_call 29; refine (CA.out _ (hA.below (DG.b (by assumption)) (Nat.le_refl _))).mono ?_; rintro e w' ⟨rfl, rfl⟩)
      | (go_at_call 30; refine (CAT.out _ (hA.below (DG.b (by assumption)) (Nat.le_refl _))).mono ?_; rintro e w1 ⟨rfl, hb1⟩; have hd1 := DG.below (w0 := w) (by assumption) hb1; clear hb1)
      | (go_at_call 13; (with_reducible refine (same_nil _).mono ?_); rintro e w' ⟨rfl, rfl⟩)
      | (go_at_call 13; refine (same_err _ w _ (by assumption)).mono ?_; rintro e w2 ⟨rfl, hd2⟩)
      | (go_at_call 31; refine (CP.out _ (hS.below (DG.b (by assumption)) (Nat.le_refl _))).mono ?_; rintro e w3 ⟨rfl, hb3⟩; have hd3 := DG.below (w0 := w) (by assumption) hb3; clear hb3)
      | (go_at_call 32; refine (CX.out _ (by omega) (by omega) _ (hS.below (DG.b (by assumption)) (Nat.le_refl _))).mono ?_; rintro e w4 ⟨rfl, hb4⟩; have hd4 := DG.below (w0 := w) (by assumption) hb4; clear hb4)
      | (go_at_call 33; refine (CN.out _ (hS.below (DG.b (by assumption)) (Nat.le_refl _))).mono ?_; rintro e w5 ⟨rfl, hb5⟩; have hd5 := DG.below (w0 := w) (by assumption) hb5; clear hb5)
      | (go_at_call 34; refine (CZ.out _ (hS.below (DG.b (by assumption)) (Nat.le_refl _))).mono ?_; rintro e w6 ⟨rfl, hb6⟩; have hd6 := DG.below (w0 := w) (by assumption) hb6; clear hb6))
  go_ret
  exact ⟨ret_true (by first | rfl | (simp; done) | (simp; omega)), DG.b (by assumption)⟩

set_option maxHeartbeats 600000 in
set_option maxRecDepth 100000 in
theorem walk2 (w : World) (hg : HG w) (A : Option Addr) (c : Nat) (p : List Int) (hA : Ints w A p) (x : Int) (A' : Option Addr) (c' : Nat) (l : List Sh) (hc' : l.length ≤ c') (hm' : c' ≤ maxLen) (hS : Shares w A' l) (hx : inB x = true) (hF : facE p ≠ 0) (hP : poiE l = 0) :
    Calls Tryd.prog 6 #[.slice A p.length c, .int .i64 x, .slice A' l.length c'] w fun e w' => e = .returned (.bool true) ∧ Below w.heap.size w w' := by
  have hd := DG.refl hg
  clear hg
  obtain ⟨x0, x1⟩ := inB_true.1 hx
  have hE : (facE p == 0) = false := beq_eq_false_iff_ne.2 hF
  have cf := fun W (hI : Ints W A p) => rfactors_any A c p W hI
  have cat := fun W (hI : Ints W A p) => (at_fac A c p x _ (facV_no hF) W hI).mono fun e W' ⟨h1, h2⟩ => (⟨h1, eq_below h2⟩ : _ ∧ Below W.heap.size W W')
  generalize facE p = E1 at *
  have CF := Lib.hid cf; have CAT := Lib.hid cat; clear cf cat hF
  obtain ⟨n0, n1, hp⟩ := poi_pts l hP
  have cp := fun W (hI : Shares W A' l) => rpoints_any A' c' l W hI
  rw [hP] at cp
  have cx := fun y (y0 : 0 ≤ y) (y1 : y < 257) W (hI : Shares W A' l) => rnext_any A' c' l y y0 y1 n0 n1 hp W hI
  have cn := fun W (hI : Shares W A' l) => next_ok A' c' l x hc' hm' hP hx W hI
  have cz := fun W (hI : Shares W A' l) => zero_ok A' c' l hc' hm' hP W hI
  generalize PM.thr (ga l) (gb l) l.length = V2 at *
  have CP := Lib.hid cp; have CX := Lib.hid cx; have CN := Lib.hid cn; have CZ := Lib.hid cz; clear cp cx cn cz hp hP
  go_enter Tryd.func6, Tryd.ntmps6
  go_wp2_with (first
      | (go_at_call 23; refine (CF.out _ (hA.below (DG.b (by assumption)) (Nat.le_refl _))).mono ?_; rintro e w' ⟨rfl, rfl⟩)
      | (go_at_call 17; refine (rin_any _ _).mono ?_; rintro e w' ⟨rfl, rfl⟩)
      | (go_at_call 29; refine (CA.out _ (hA.below (DG.b (by assumption)) (Nat.le_refl _))).mono ?_; rintro e w' ⟨rfl, rfl⟩)
      | (go_at_call 30; refine (CAT.out _ (hA.below (DG.b (by assumption)) (Nat.le_refl _))).mono ?_; rintro e w1 ⟨rfl, hb1⟩; have hd1 := DG.below (w0 := w) (by assumption) hb1; clear hb1)
      | (go_at_call 13; (with_reducible refine (same_nil _).mono ?_); rintro e w' ⟨rfl, rfl⟩)
      | (go_at_call 13; refine (same_err _ w _ (by assumption)).mono ?_; rintro e w2 ⟨rfl, hd2⟩)
      | (go_at_call 31; refine (CP.out _ (hS.below (DG.b (by assumption)) (Nat.le_refl _))).mono ?_; rintro e w3 ⟨rfl, hb3⟩; have hd3 := DG.below (w0 := w) (by assumption) hb3; clear hb3)
      | (go_at_call 32; refine (CX.out _ (by omega) (by omega) _ (hS.below (DG.b (by assumption)) (Nat.le_refl _))).mono ?_; rintro e w4 ⟨rfl, hb4⟩; have hd4 := DG.below (w0 := w) (by assumption) hb4; clear hb4)
      | (go_at_call 33; refine (CN.out _ (hS.below (DG.b (by assumption)) (Nat.le_refl _))).mono ?_; rintro e w5 ⟨rfl, hb5⟩; have hd5 := DG.below (w0 := w) (by assumption) hb5; clear hb5)
      | (go_at_call 34; refine (CZ.out _ (hS.below (DG.b (by assumption)) (Nat.le_refl _))).mono ?_; rintro e w6 ⟨rfl, hb6⟩; have hd6 := DG.below (w0 := w) (by assumption) hb6; clear hb6))
  go_ret
  exact ⟨ret_true (by first | rfl | (simp; done) | (simp; omega)), DG.b (by assumption)⟩

set_option maxHeartbeats 600000 in
set_option maxRecDepth 100000 in
theorem walk3 (w : World) (hg : HG w) (A : Option Addr) (c : Nat) (p : List Int) (hA : Ints w A p) (x : Int) (A' : Option Addr) (c' : Nat) (l : List Sh) (hc' : l.length ≤ c') (hm' : c' ≤ maxLen) (hS : Shares w A' l) (hx : inB x = true) (hF : facE p ≠ 0) (hP : poiE l ≠ 0) :
    Calls Tryd.prog 6 #[.slice A p.length c, .int .i64 x, .slice A' l.length c'] w fun e w' => e = .returned (.bool true) ∧ Below w.heap.size w w' := by
  have hd := DG.refl hg
  clear hg
  obtain ⟨x0, x1⟩ := inB_true.1 hx
  have hE : (facE p == 0) = false := beq_eq_false_iff_ne.2 hF
  have cf := fun W (hI : Ints W A p) => rfactors_any A c p W hI
  have cat := fun W (hI : Ints W A p) => (at_fac A c p x _ (facV_no hF) W hI).mono fun e W' ⟨h1, h2⟩ => (⟨h1, eq_below h2⟩ : _ ∧ Below W.heap.size W W')
  generalize facE p = E1 at *
  have CF := Lib.hid cf; have CAT := Lib.hid cat; clear cf cat hF
  have hE2 : (poiE l == 0) = false := beq_eq_false_iff_ne.2 hP
  have cp := fun W (hI : Shares W A' l) => rpoints_any A' c' l W hI
  have cn := fun W (hI : Shares W A' l) => next_poi A' c' l x hc' hm' hP W hI
  have cz := fun W (hI : Shares W A' l) => zero_no A' c' l hc' hm' hP W hI
  generalize poiE l = E2 at *
  have CP := Lib.hid cp; have CN := Lib.hid cn; have CZ := Lib.hid cz; clear cp cn cz hP
  go_enter Tryd.func6, Tryd.ntmps6
  go_wp2_with (first
      | (go_at_call 23; refine (CF.out _ (hA.below (DG.b (by assumption)) (Nat.le_refl _))).mono ?_; rintro e w' ⟨rfl, rfl⟩)
      | (go_at_call 17; refine (rin_any _ _).mono ?_; rintro e w' ⟨rfl, rfl⟩)
      | (go_at_call 29; refine (CA.out _ (hA.below (DG.b (by assumption)) (Nat.le_refl _))).mono ?_; rintro e w' ⟨rfl, rfl⟩)
      | (go_at_call 30; refine (CAT.out _ (hA.below (DG.b (by assumption)) (Nat.le_refl _))).mono ?_; rintro e w1 ⟨rfl, hb1⟩; have hd1 := DG.below (w0 := w) (by assumption) hb1; clear hb1)
      | (go_at_call 13; (with_reducible refine (same_nil _).mono ?_); rintro e w' ⟨rfl, rfl⟩)
      | (go_at_call 13; refine (same_err _ w _ (by assumption)).mono ?_; rintro e w2 ⟨rfl, hd2⟩)
      | (go_at_call 31; refine (CP.out _ (hS.below (DG.b (by assumption)) (Nat.le_refl _))).mono ?_; rintro e w3 ⟨rfl, hb3⟩; have hd3 := DG.below (w0 := w) (by assumption) hb3; clear hb3)
      | (go_at_call 32; refine (CX.out _ (by omega) (by omega) _ (hS.below (DG.b (by assumption)) (Nat.le_refl _))).mono ?_; rintro e w4 ⟨rfl, hb4⟩; have hd4 := DG.below (w0 := w) (by assumption) hb4; clear hb4)
      | (go_at_call 33; refine (CN.out _ (hS.below (DG.b (by assumption)) (Nat.le_refl _))).mono ?_; rintro e w5 ⟨rfl, hb5⟩; have hd5 := DG.below (w0 := w) (by assumption) hb5; clear hb5)
      | (go_at_call 34; refine (CZ.out _ (hS.below (DG.b (by assumption)) (Nat.le_refl _))).mono ?_; rintro e w6 ⟨rfl, hb6⟩; have hd6 := DG.below (w0 := w) (by assumption) hb6; clear hb6))
  go_ret
  exact ⟨ret_true (by first | rfl | (simp; done) | (simp; omega)), DG.b (by assumption)⟩

set_option maxHeartbeats 600000 in
set_option maxRecDepth 100000 in
theorem walk4 (w : World) (hg : HG w) (A : Option Addr) (c : Nat) (p : List Int) (hA : Ints w A p) (x : Int) (A' : Option Addr) (c' : Nat) (l : List Sh) (hc' : l.length ≤ c') (hm' : c' ≤ maxLen) (hS : Shares w A' l) (hx : inB x = false) (hF : facE p = 0) (hP : poiE l = 0) :
    Calls Tryd.prog 6 #[.slice A p.length c, .int .i64 x, .slice A' l.length c'] w fun e w' => e = .returned (.bool true) ∧ Below w.heap.size w w' := by
  have hd := DG.refl hg
  clear hg
  obtain ⟨hl, hi⟩ := facE_zero hF
  have cf := fun W (hI : Ints W A p) => rfactors_any A c p W hI
  rw [hF] at cf
  have cat := fun W (hI : Ints W A p) => (at_place A c p x hl hi hx W hI).mono fun e W' ⟨h1, h2⟩ => (⟨h1, eq_below h2⟩ : _ ∧ Below W.heap.size W W')
  have CF := Lib.hid cf; have CAT := Lib.hid cat; clear cf cat hl hi hF
  obtain ⟨n0, n1, hp⟩ := poi_pts l hP
  have cp := fun W (hI : Shares W A' l) => rpoints_any A' c' l W hI
  rw [hP] at cp
  have cx := fun y (y0 : 0 ≤ y) (y1 : y < 257) W (hI : Shares W A' l) => rnext_any A' c' l y y0 y1 n0 n1 hp W hI
  have cn := fun W (hI : Shares W A' l) => next_place A' c' l x hc' hm' hP hx W hI
  have cz := fun W (hI : Shares W A' l) => zero_ok A' c' l hc' hm' hP W hI
  generalize PM.thr (ga l) (gb l) l.length = V2 at *
  have CP := Lib.hid cp; have CX := Lib.hid cx; have CN := Lib.hid cn; have CZ := Lib.hid cz; clear cp cx cn cz hp hP
  go_enter Tryd.func6, Tryd.ntmps6
  go_wp2_with (first
      | (go_at_call 23; refine (CF.out _ (hA.below (DG.b (by assumption)) (Nat.le_refl _))).mono ?_; rintro e w' ⟨rfl, rfl⟩)
      | (go_at_call 17; refine (rin_any _ _).mono ?_; rintro e w' ⟨rfl, rfl⟩)
      | (go_at_call 29; refine (CA.out _ (hA.below (DG.b (by assumption)) (Nat.le_refl _))).mono ?_; rintro e w' ⟨rfl, rfl⟩)
      | (go_at_call 30; refine (CAT.out _ (hA.below (DG.b (by assumption)) (Nat.le_refl _))).mono ?_; rintro e w1 ⟨rfl, hb1⟩; have hd1 := DG.below (w0 := w) (by assumption) hb1; clear hb1)
      | (go_at_call 13; (with_reducible refine (same_nil _).mono ?_); rintro e w' ⟨rfl, rfl⟩)
      | (go_at_call 13; refine (same_err _ w _ (by assumption)).mono ?_; rintro e w2 ⟨rfl, hd2⟩)
      | (go_at_call 31; refine (CP.out _ (hS.below (DG.b (by assumption)) (Nat.le_refl _))).mono ?_; rintro e w3 ⟨rfl, hb3⟩; have hd3 := DG.below (w0 := w) (by assumption) hb3; clear hb3)
      | (go_at_call 32; refine (CX.out _ (by omega) (by omega) _ (hS.below (DG.b (by assumption)) (Nat.le_refl _))).mono ?_; rintro e w4 ⟨rfl, hb4⟩; have hd4 := DG.below (w0 := w) (by assumption) hb4; clear hb4)
      | (go_at_call 33; refine (CN.out _ (hS.below (DG.b (by assumption)) (Nat.le_refl _))).mono ?_; rintro e w5 ⟨rfl, hb5⟩; have hd5 := DG.below (w0 := w) (by assumption) hb5; clear hb5)
      | (go_at_call 34; refine (CZ.out _ (hS.below (DG.b (by assumption)) (Nat.le_refl _))).mono ?_; rintro e w6 ⟨rfl, hb6⟩; have hd6 := DG.below (w0 := w) (by assumption) hb6; clear hb6))
  go_ret
  exact ⟨ret_true (by first | rfl | (simp; done) | (simp; omega)), DG.b (by assumption)⟩

set_option maxHeartbeats 600000 in
set_option maxRecDepth 100000 in
theorem walk5 (w : World) (hg : HG w) (A : Option Addr) (c : Nat) (p : List Int) (hA : Ints w A p) (x : Int) (A' : Option Addr) (c' : Nat) (l : List Sh) (hc' : l.length ≤ c') (hm' : c' ≤ maxLen) (hS : Shares w A' l) (hx : inB x = false) (hF : facE p = 0) (hP : poiE l ≠ 0) :
    Calls Tryd.prog 6 #[.slice A p.length c, .int .i64 x, .slice A' l.length c'] w fun e w' => e = .returned (.bool true) ∧ Below w.heap.size w w' := by
  have hd := DG.refl hg
  clear hg
  obtain ⟨hl, hi⟩ := facE_zero hF
  have cf := fun W (hI : Ints W A p) => rfactors_any A c p W hI
  rw [hF] at cf
  have cat := fun W (hI : Ints W A p) => (at_place A c p x hl hi hx W hI).mono fun e W' ⟨h1, h2⟩ => (⟨h1, eq_below h2⟩ : _ ∧ Below W.heap.size W W')
  have CF := Lib.hid cf; have CAT := Lib.hid cat; clear cf cat hl hi hF
  have hE2 : (poiE l == 0) = false := beq_eq_false_iff_ne.2 hP
  have cp := fun W (hI : Shares W A' l) => rpoints_any A' c' l W hI
  have cn := fun W (hI : Shares W A' l) => next_poi A' c' l x hc' hm' hP W hI
  have cz := fun W (hI : Shares W A' l) => zero_no A' c' l hc' hm' hP W hI
  generalize poiE l = E2 at *
  have CP := Lib.hid cp; have CN := Lib.hid cn; have CZ := Lib.hid cz; clear cp cn cz hP
  go_enter Tryd.func6, Tryd.ntmps6
  go_wp2_with (first
      | (go_at_call 23; refine (CF.out _ (hA.below (DG.b (by assumption)) (Nat.le_refl _))).mono ?_; rintro e w' ⟨rfl, rfl⟩)
      | (go_at_call 17; refine (rin_any _ _).mono ?_; rintro e w' ⟨rfl, rfl⟩)
      | (go_at_call 29; refine (CA.out _ (hA.below (DG.b (by assumption)) (Nat.le_refl _))).mono ?_; rintro e w' ⟨rfl, rfl⟩)
      | (go_at_call 30; refine (CAT.out _ (hA.below (DG.b (by assumption)) (Nat.le_refl _))).mono ?_; rintro e w1 ⟨rfl, hb1⟩; have hd1 := DG.below (w0 := w) (by assumption) hb1; clear hb1)
      | (go_at_call 13; (with_reducible refine (same_nil _).mono ?_); rintro e w' ⟨rfl, rfl⟩)
      | (go_at_call 13; refine (same_err _ w _ (by assumption)).mono ?_; rintro e w2 ⟨rfl, hd2⟩)
      | (go_at_call 31; refine (CP.out _ (hS.below (DG.b (by assumption)) (Nat.le_refl _))).mono ?_; rintro e w3 ⟨rfl, hb3⟩; have hd3 := DG.below (w0 := w) (by assumption) hb3; clear hb3)
      | (go_at_call 32; refine (CX.out _ (by omega) (by omega) _ (hS.below (DG.b (by assumption)) (Nat.le_refl _))).mono ?_; rintro e w4 ⟨rfl, hb4⟩; have hd4 := DG.below (w0 := w) (by assumption) hb4; clear hb4)
      | (go_at_call 33; refine (CN.out _ (hS.below (DG.b (by assumption)) (Nat.le_refl _))).mono ?_; rintro e w5 ⟨rfl, hb5⟩; have hd5 := DG.below (w0 := w) (by assumption) hb5; clear hb5)
      | (go_at_call 34; refine (CZ.out _ (hS.below (DG.b (by assumption)) (Nat.le_refl _))).mono ?_; rintro e w6 ⟨rfl, hb6⟩; have hd6 := DG.below (w0 := w) (by assumption) hb6; clear hb6))
  go_ret
  exact ⟨ret_true (by first | rfl | (simp; done) | (simp; omega)), DG.b (by assumption)⟩

set_option maxHeartbeats 600000 in
set_option maxRecDepth 100000 in
theorem walk6 (w : World) (hg : HG w) (A : Option Addr) (c : Nat) (p : List Int) (hA : Ints w A p) (x : Int) (A' : Option Addr) (c' : Nat) (l : List Sh) (hc' : l.length ≤ c') (hm' : c' ≤ maxLen) (hS : Shares w A' l) (hx : inB x = false) (hF : facE p ≠ 0) (hP : poiE l = 0) :
    Calls Tryd.prog 6 #[.slice A p.length c, .int .i64 x, .slice A' l.length c'] w fun e w' => e = .returned (.bool true) ∧ Below w.heap.size w w' := by
  have hd := DG.refl hg
  clear hg
  have hE : (facE p == 0) = false := beq_eq_false_iff_ne.2 hF
  have cf := fun W (hI : Ints W A p) => rfactors_any A c p W hI
  have cat := fun W (hI : Ints W A p) => (at_fac A c p x _ (facV_no hF) W hI).mono fun e W' ⟨h1, h2⟩ => (⟨h1, eq_below h2⟩ : _ ∧ Below W.heap.size W W')
  generalize facE p = E1 at *
  have CF := Lib.hid cf; have CAT := Lib.hid cat; clear cf cat hF
  obtain ⟨n0, n1, hp⟩ := poi_pts l hP
  have cp := fun W (hI : Shares W A' l) => rpoints_any A' c' l W hI
  rw [hP] at cp
  have cx := fun y (y0 : 0 ≤ y) (y1 : y < 257) W (hI : Shares W A' l) => rnext_any A' c' l y y0 y1 n0 n1 hp W hI
  have cn := fun W (hI : Shares W A' l) => next_place A' c' l x hc' hm' hP hx W hI
  have cz := fun W (hI : Shares W A' l) => zero_ok A' c' l hc' hm' hP W hI
  generalize PM.thr (ga l) (gb l) l.length = V2 at *
  have CP := Lib.hid cp; have CX := Lib.hid cx; have CN := Lib.hid cn; have CZ := Lib.hid cz; clear cp cx cn cz hp hP
  go_enter Tryd.func6, Tryd.ntmps6
  go_wp2_with (first
      | (go_at_call 23; refine (CF.out _ (hA.below (DG.b (by assumption)) (Nat.le_refl _))).mono ?_; rintro e w' ⟨rfl, rfl⟩)
      | (go_at_call 17; refine (rin_any _ _).mono ?_; rintro e w' ⟨rfl, rfl⟩)
      | (go_at_call 29; refine (CA.out _ (hA.below (DG.b (by assumption)) (Nat.le_refl _))).mono ?_; rintro e w' ⟨rfl, rfl⟩)
      | (go_at_call 30; refine (CAT.out _ (hA.below (DG.b (by assumption)) (Nat.le_refl _))).mono ?_; rintro e w1 ⟨rfl, hb1⟩; have hd1 := DG.below (w0 := w) (by assumption) hb1; clear hb1)
      | (go_at_call 13; (with_reducible refine (same_nil _).mono ?_); rintro e w' ⟨rfl, rfl⟩)
      | (go_at_call 13; refine (same_err _ w _ (by assumption)).mono ?_; rintro e w2 ⟨rfl, hd2⟩)
      | (go_at_call 31; refine (CP.out _ (hS.below (DG.b (by assumption)) (Nat.le_refl _))).mono ?_; rintro e w3 ⟨rfl, hb3⟩; have hd3 := DG.below (w0 := w) (by assumption) hb3; clear hb3)
      | (go_at_call 32; refine (CX.out _ (by omega) (by omega) _ (hS.below (DG.b (by assumption)) (Nat.le_refl _))).mono ?_; rintro e w4 ⟨rfl, hb4⟩; have hd4 := DG.below (w0 := w) (by assumption) hb4; clear hb4)
      | (go_at_call 33; refine (CN.out _ (hS.below (DG.b (by assumption)) (Nat.le_refl _))).mono ?_; rintro e w5 ⟨rfl, hb5⟩; have hd5 := DG.below (w0 := w) (by assumption) hb5; clear hb5)
      | (go_at_call 34; refine (CZ.out _ (hS.below (DG.b (by assumption)) (Nat.le_refl _))).mono ?_; rintro e w6 ⟨rfl, hb6⟩; have hd6 := DG.below (w0 := w) (by assumption) hb6; clear hb6))
  go_ret
  exact ⟨ret_true (by first | rfl | (simp; done) | (simp; omega)), DG.b (by assumption)⟩

set_option maxHeartbeats 600000 in
set_option maxRecDepth 100000 in
theorem walk7 (w : World) (hg : HG w) (A : Option Addr) (c : Nat) (p : List Int) (hA : Ints w A p) (x : Int) (A' : Option Addr) (c' : Nat) (l : List Sh) (hc' : l.length ≤ c') (hm' : c' ≤ maxLen) (hS : Shares w A' l) (hx : inB x = false) (hF : facE p ≠ 0) (hP : poiE l ≠ 0) :
    Calls Tryd.prog 6 #[.slice A p.length c, .int .i64 x, .slice A' l.length c'] w fun e w' => e = .returned (.bool true) ∧ Below w.heap.size w w' := by
  have hd := DG.refl hg
  clear hg
  have hE : (facE p == 0) = false := beq_eq_false_iff_ne.2 hF
  have cf := fun W (hI : Ints W A p) => rfactors_any A c p W hI
  have cat := fun W (hI : Ints W A p) => (at_fac A c p x _ (facV_no hF) W hI).mono fun e W' ⟨h1, h2⟩ => (⟨h1, eq_below h2⟩ : _ ∧ Below W.heap.size W W')
  generalize facE p = E1 at *
  have CF := Lib.hid cf; have CAT := Lib.hid cat; clear cf cat hF
  have hE2 : (poiE l == 0) = false := beq_eq_false_iff_ne.2 hP
  have cp := fun W (hI : Shares W A' l) => rpoints_any A' c' l W hI
  have cn := fun W (hI : Shares W A' l) => next_poi A' c' l x hc' hm' hP W hI
  have cz := fun W (hI : Shares W A' l) => zero_no A' c' l hc' hm' hP W hI
  generalize poiE l = E2 at *
  have CP := Lib.hid cp; have CN := Lib.hid cn; have CZ := Lib.hid cz; clear cp cn cz hP
  go_enter Tryd.func6, Tryd.ntmps6
  go_wp2_with (first
      | (go_at_call 23; refine (CF.out _ (hA.below (DG.b (by assumption)) (Nat.le_refl _))).mono ?_; rintro e w' ⟨rfl, rfl⟩)
      | (go_at_call 17; refine (rin_any _ _).mono ?_; rintro e w' ⟨rfl, rfl⟩)
      | (go_at_call 29; refine (CA.out _ (hA.below (DG.b (by assumption)) (Nat.le_refl _))).mono ?_; rintro e w' ⟨rfl, rfl⟩)
      | (go_at_call 30; refine (CAT.out _ (hA.below (DG.b (by assumption)) (Nat.le_refl _))).mono ?_; rintro e w1 ⟨rfl, hb1⟩; have hd1 := DG.below (w0 := w) (by assumption) hb1; clear hb1)
      | (go_at_call 13; (with_reducible refine (same_nil _).mono ?_); rintro e w' ⟨rfl, rfl⟩)
      | (go_at_call 13; refine (same_err _ w _ (by assumption)).mono ?_; rintro e w2 ⟨rfl, hd2⟩)
      | (go_at_call 31; refine (CP.out _ (hS.below (DG.b (by assumption)) (Nat.le_refl _))).mono ?_; rintro e w3 ⟨rfl, hb3⟩; have hd3 := DG.below (w0 := w) (by assumption) hb3; clear hb3)
      | (go_at_call 32; refine (CX.out _ (by omega) (by omega) _ (hS.below (DG.b (by assumption)) (Nat.le_refl _))).mono ?_; rintro e w4 ⟨rfl, hb4⟩; have hd4 := DG.below (w0 := w) (by assumption) hb4; clear hb4)
      | (go_at_call 33; refine (CN.out _ (hS.below (DG.b (by assumption)) (Nat.le_refl _))).mono ?_; rintro e w5 ⟨rfl, hb5⟩; have hd5 := DG.below (w0 := w) (by assumption) hb5; clear hb5)
      | (go_at_call 34; refine (CZ.out _ (hS.below (DG.b (by assumption)) (Nat.le_refl _))).mono ?_; rintro e w6 ⟨rfl, hb6⟩; have hd6 := DG.below (w0 := w) (by assumption) hb6; clear hb6))
  go_ret
  exact ⟨ret_true (by first | rfl | (simp; done) | (simp; omega)), DG.b (by assumption)⟩

theorem walk (w : World) (hg : HG w) (A : Option Addr) (c : Nat) (p : List Int) (_ : p.length ≤ c) (_ : c ≤ maxLen) (hA : Ints w A p) (_ : ∀ i, i < p.length → I64 (gi p i)) (x : Int) (_ : I64 x)
    (A' : Option Addr) (c' : Nat) (l : List Sh) (hc' : l.length ≤ c') (hm' : c' ≤ maxLen) (hS : Shares w A' l) (_ : ∀ i, i < l.length → I64 (ga l i) ∧ I64 (gb l i)) :
    Calls Tryd.prog 6 #[.slice A p.length c, .int .i64 x, .slice A' l.length c'] w fun e w' => e = .returned (.bool true) ∧ Below w.heap.size w w' := by
  cases hx : inB x with
  | true =>
    by_cases hF : facE p = 0 <;> by_cases hP : poiE l = 0
    · exact walk0 w hg A c p hA x A' c' l hc' hm' hS hx hF hP
    · exact walk1 w hg A c p hA x A' c' l hc' hm' hS hx hF hP
    · exact walk2 w hg A c p hA x A' c' l hc' hm' hS hx hF hP
    · exact walk3 w hg A c p hA x A' c' l hc' hm' hS hx hF hP
  | false =>
    by_cases hF : facE p = 0 <;> by_cases hP : poiE l = 0
    · exact walk4 w hg A c p hA x A' c' l hc' hm' hS hx hF hP
    · exact walk5 w hg A c p hA x A' c' l hc' hm' hS hx hF hP
    · exact walk6 w hg A c p hA x A' c' l hc' hm' hS hx hF hP
    · exact walk7 w hg A c p hA x A' c' l hc' hm' hS hx hF hP

/-! ### the card's frame -/
set_option maxRecDepth 100000 in
theorem lifted (os : Os) (started : os.Started) (H : Type) (enc : TypeId × Value → H) :
    ReturnsInHanded {} Tryd.checked os 6 .any (fun w args => (Rows.polyTellsSpec.pre enc Tryd.prog Tryd.f6 [] false w args ∧ laidMetH Tryd.prog laidL w) ∧ sizedMet enc Tryd.prog Tryd.f6 (OpenSpec.ofChange Rows.polyTellsSpec) false w args) (Rows.polyTellsSpec.post enc Tryd.prog Tryd.f6 false true false false) := by
  refine returnsInHanded_of_change_and (C := Tryd.checked) (X := fun w _ => laidMetH Tryd.prog laidL w) (fun _ _ _ hh h => h.of_heap hh) door.own started (by kernel_rfl) Tryd.func6
    (ChangeSpec.witness_at (enc := enc) (C := Tryd.checked) (os := os) (X := fun w _ => laidMetH Tryd.prog laidL w) false (laidWorld os) #[.slice none 0 0, .int .i64 0, .slice none 0 0] 8 rfl (by kernel_rfl) (by kernel_rfl) (by kernel_rfl) (by kernel_rfl) (by kernel_rfl) (laidWorld_met os _)) ?_
  intro W base args ds gs before hval0 hW _ _ hL _
  have hg := handle_of_laid hL
  have hval : ∀ (j : Nat) t v, Tryd.f6.params[j]? = some t → args[j]? = some v → Value.okWide Tryd.prog W .any base t v := hval0
  have hW' := hW
  obtain ⟨p, q, hA0, hV, rfl, hfz, hnd⟩ := hW
  have hA : DataW.TrodAll enc Tryd.prog W 0 (fun _ => true) true Tryd.f6.params.toList args.toList ds p := hA0
  rw [Tryd.params6] at hA hval
  obtain ⟨v0, vs0, d0, ds0, p0, q0, hargs, rfl, rfl, h0, r0⟩ := trodAll_cons hA
  obtain ⟨v1, vs1, d1, ds1, p1, q1, rfl, rfl, rfl, h1, r1⟩ := trodAll_cons r0
  obtain ⟨v2, vs2, d2, ds2, p2, q2, rfl, rfl, rfl, h2, r2⟩ := trodAll_cons r1
  obtain ⟨rfl, rfl, rfl⟩ := trodAll_nil r2
  obtain rfl : args = #[v0, v1, v2] := by cases args; simp_all
  obtain ⟨rfl, rfl⟩ := trodVars_none hV
  have k0 := h0
  have lt0 : ∀ x ∈ p0, x.block < W.heap.size := by obtain ⟨m, hm⟩ := k0; exact DataW.trod_lt m _ _ _ hm
  obtain ⟨A0, c0, x0, rfl, hc0, hm0, hA0, w0⟩ := arg_Ints Tryd.underlying39 Tryd.underlying3 (by kernel_rfl) (hval 0 39 v0 rfl rfl) h0
  have k1 := h1
  have lt1 : ∀ x ∈ p1, x.block < W.heap.size := by obtain ⟨m, hm⟩ := k1; exact DataW.trod_lt m _ _ _ hm
  obtain ⟨x1, rfl, w1⟩ := arg_int Tryd.underlying3 (hval 1 3 v1 rfl rfl) h1
  have k2 := h2
  have lt2 : ∀ x ∈ p2, x.block < W.heap.size := by obtain ⟨m, hm⟩ := k2; exact DataW.trod_lt m _ _ _ hm
  obtain ⟨A2, c2, x2, rfl, hc2, hm2, hA2, w2⟩ := arg_Shares Tryd.underlying51 Tryd.underlying41 (by kernel_rfl) (by kernel_rfl) Tryd.underlying3 Tryd.underlying3 (hval 2 51 v2 rfl rfl) h2
  clear hA0 hval0
  refine (walk W hg A0 c0 x0 hc0 hm0 hA0 w0 x1 w1 A2 c2 x2 hc2 hm2 hA2 w2).mono fun e W' ⟨he, bel⟩ => ?_
  subst he
  exact ⟨_, rfl, _, _, _, [], _, [], hW', trodAll_mk1 (shut_bool Tryd.underlying4 _), (trodAll_cons_mk (Below.trod door.laidOut (by kernel_rfl) (of_decide_eq_true (by kernel_rfl)) k0 bel lt0) (trodAll_cons_mk (Below.trod door.laidOut (by kernel_rfl) (of_decide_eq_true (by kernel_rfl)) k1 bel lt1) (trodAll_cons_mk (Below.trod door.laidOut (by kernel_rfl) (of_decide_eq_true (by kernel_rfl)) k2 bel lt2) trodAll_mk0))), rfl, bel.frame _, fun h => by cases h⟩

theorem over : Rows.PolyTellsSaid :=
  OpenClaim.holds_of_wide 6 Tryd.f6 rfl rfl rfl rfl rfl rfl rfl ⟨rfl, rfl, rfl, rfl, rfl⟩ rfl rfl rfl rfl rfl (by kernel_rfl) Tryd.func6 (by kernel_rfl)
    (of_decide_eq_true (by kernel_rfl)) (by unfold Func.isWrapper; first | (rw [if_pos (by decide +kernel)]; kernel_rfl) | (rw [if_neg (by decide +kernel)]; exact ⟨rfl, rfl⟩))
    (fun os started H enc _ => lifted os started H enc)

theorem proved : Rows.PolyTellsCardSaid :=
  Claim7.holds_tied_plain_at .later [] [.handle] true _ true over (fun _ h => by cases h) (by kernel_rfl) (fun _ h => by cases h) polyTells_row_tie rfl ⟨rfl, rfl⟩ (by kernel_rfl) rfl
    (fun f fn hf hfn => by
      obtain rfl : f = 6 := Option.some.inj ((show Tryd.prog.funcNamed Rows.polyTellsRow.func = some 6 by kernel_rfl).symm.trans hf) |>.symm
      obtain rfl : fn = Tryd.f6 := (Option.some.inj (Tryd.func6.symm.trans hfn)).symm
      exact ⟨by kernel_rfl, fun j t ht => by
        rw [Tryd.params6] at ht
        have hm : t ∈ [39, 3, 51] := by simpa using Array.mem_of_getElem? ht
        have hall : ([39, 3, 51].all fun u => !Tryd.prog.wantsStandIn u) = true := by kernel_rfl
        exact (show Tryd.prog.wantsStandIn t = false by simpa using List.all_eq_true.1 hall t hm)⟩)
    (by kernel_rfl)
#print axioms proved

end Go.Proofs.YtpmgmlmpiofnpaaDoor.polyTells
