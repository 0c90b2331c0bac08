/- CoverFindsCardSaid: WHO ASKS FOR IT FINDS IT, COVERED OR NOT, outright: for every two tuples and ints. -/
import Derived.Test.YthpemlhlgjdnkaaDoorCoverFn
import Derived.Test.YthpemlhlgjdnkaaDoorDoorT
import Derived.Test.YthpemlhlgjdnkaaDoorDoor
import Derived.Test.YthpemlhlgjdnkaaDoorTie
import Derived.Test.YthpemlhlgjdnkaaDoorCards
import Derived.WalkKit
import Derived.ProofKit
import Derived.OpenShut
import Derived.ShutString
import Derived.ChangeOld
import Derived.WalkLawsBesides
import Derived.WalkSpells
import Derived.RegionTactic
import Derived.ChangeAlike
import Derived.SevenTiedAt
import Derived.Deep.DeepCutAuto
import Derived.Outline
namespace Go.Proofs.YthpemlhlgjdnkaaDoor.coverFinds
open Go.ChangeShapes Go.WideShapes Go.ChangeAt Go.RowKit Go.Joins
set_option linter.unusedVariables false

def v5 : Va := ⟨0, 5, ⟨#[]⟩⟩
def v6 : Va := ⟨0, 6, ⟨#[]⟩⟩
def v7 : Va := ⟨0, 7, ⟨#[]⟩⟩
def starV : Va := ⟨2, 0, ⟨#[]⟩⟩
theorem infoI : (Tryd.prog.info? 3).map (fun i => (i.zero, i.size, i.bytes)) = some (some (.int .i64 0), 1, 8) := by kernel_rfl
theorem ct3 : ctE [v5, v6, v7] [0, 1, 2] = 0 := by decide
theorem dg6 : dgv v6 = 271 := by
  have hw : wrd v6 = ⟨#[54]⟩ := by
    rw [wrd, if_pos (by decide)]; show ByteArray.mk (Lib.itoa ((6 : Nat) : Int)).toArray = _; rw [Lib.itoa_nonneg, Lib.decDigits_one (by decide)]; rfl
  rw [dgv, hw]; decide
theorem cov3 : covL [v5, v6, v7] [0, 1, 2] Va.zero = [v5, ⟨0, 271, ⟨#[]⟩⟩, Va.zero] := by
  show [cov1 v5 0 Va.zero, cov1 v6 1 Va.zero, cov1 v7 2 Va.zero] = _
  have h1 : cov1 v5 0 Va.zero = v5 := by decide
  have h2 : cov1 v6 1 Va.zero = ⟨0, 271, ⟨#[]⟩⟩ := by rw [cov1, if_neg (by decide), if_pos ⟨rfl, by decide⟩, dg6]
  have h3 : cov1 v7 2 Va.zero = Va.zero := by decide
  rw [h1, h2, h3]
theorem ok3 : okL [v5, v6, v7] := fun i hi => by
  have hi : i < 3 := hi
  rcases (show i = 0 ∨ i = 1 ∨ i = 2 by omega) with rfl | rfl | rfl <;> decide
theorem gi_rep (n i : Nat) : gi (List.replicate n 0) i = 0 := by
  simp only [gi, List.getD_eq_getElem?_getD, List.getElem?_replicate]; split <;> rfl
theorem sh_rep (n : Nat) : shE' n (List.replicate n 0) = 0 := by
  rw [shE', if_neg (by simp), if_neg]
  rw [badS_false.2 fun i _ => by rw [gi_rep]; decide]; decide
theorem cov_rep (t : List Va) (cl : Va) : covL t (List.replicate t.length 0) cl = t := va_ext (covL_length _ _ _) fun i hi => by
  rw [covL_length] at hi
  rw [va_covL hi, gi_rep, cov1, if_neg (by decide), if_neg (by simp)]
theorem vaE_num {n : Int} (h0 : -1000000 ≤ n) (h1 : n ≤ 1000000) : vaE ⟨0, n, ⟨#[]⟩⟩ = 0 := by rw [vaE, if_neg (by simp; omega), if_neg (by simp), if_neg (by simp [okS_empty, ByteArray.size])]
theorem dgv_range (v : Va) : 0 ≤ dgv v ∧ dgv v ≤ 10006 := hs_range _ _
theorem vaE_cov {v cl : Va} {s : Int} (h : vaE v = 0) (hc : vaE cl = 0) : vaE (cov1 v s cl) = 0 := by
  unfold cov1
  split
  · exact hc
  · split
    · have := dgv_range v; exact vaE_num (by omega) (by omega)
    · exact h
theorem li_cov {t : List Va} {s : List Int} {cl : Va} (h : liE t = 0) (hc : vaE cl = 0) : liE (covL t s cl) = 0 := by
  obtain ⟨t0, t5, tv⟩ := tu_vaE h
  rw [liE, covL_length, if_neg (by omega), if_neg (by omega)]
  exact lsE_of fun i hi => by rw [va_covL hi]; exact vaE_cov (tv i hi) hc
theorem tu_cov {t : List Va} {s : List Int} (h : tuE t = 0) : tuE (covL t s Va.zero) = 0 := by
  obtain ⟨h1, h2⟩ := tuE_zero h
  rw [tuE, if_neg (by rw [li_cov h1 (by decide)]; decide), if_neg]
  rw [anyB_false.2 fun i hi => ?_]
  · decide
  · rw [covL_length] at hi
    rw [va_covL hi, cov1]
    split
    · decide
    · split
      · simp
      · exact anyB_false.1 h2 i hi
theorem okL_of {l : List Va} (h : ∀ i, i < l.length → vaE (va l i) = 0) : okL l := fun i hi => by have := (vaE_kind (h i hi)).2.2.2; unfold maxLen; omega
theorem okL_cov {t : List Va} {s : List Int} {cl : Va} (h : liE t = 0) (hc : vaE cl = 0) : okL (covL t s cl) := by
  obtain ⟨t0, t5, tv⟩ := tu_vaE h
  exact okL_of fun i hi => by rw [covL_length] at hi; rw [va_covL hi]; exact vaE_cov (tv i hi) hc
theorem fit_cov {l t : List Va} {s : List Int} (h : fitB l t = true) : fitB (covL l s starV) (covL t s Va.zero) = true := by
  obtain ⟨h1, h2⟩ := fitB_true.1 h
  refine fitB_true.2 ⟨by rw [covL_length, covL_length, h1], fun i hi => ?_⟩
  rw [covL_length] at hi
  rw [va_covL (by omega), va_covL hi]
  have h3 := h2 i hi
  unfold cov1
  by_cases e2 : gi s i = 2
  · rw [if_pos e2, if_pos e2]; exact likB_2 rfl
  · rw [if_neg e2, if_neg e2]
    by_cases k : (va l i).k = 2
    · rw [if_neg (by simp [k])]; exact likB_2 k
    · rw [likB_ne k] at h3
      have h3 := of_decide_eq_true h3
      rw [← h3]
      split
      · rw [likB_ne (by simp)]; exact decide_eq_true rfl
      · rw [likB_ne k]; exact decide_eq_true rfl
theorem tf_zero {l t : List Va} (h1 : liE l = 0) (h2 : tuE t = 0) : tfE l t = 0 := by rw [tfE, if_neg (by simp [h1]), h2]
theorem ints_row {w : World} {g n : Nat} {t : TypeId} (h : w.rowIs g t n (fun _ => .int .i64 0)) : Ints w (some ⟨g, 0, none⟩) (List.replicate n 0) := fun h0 => by
  refine ⟨g, 0, rfl, h.lt, fun i hi j hj => ?_⟩
  obtain rfl : j = 0 := by omega
  show _ = some (Value.int .i64 (gi (List.replicate n 0) i))
  rw [gi_rep]
  simpa using h.cell (i := i) (by simpa using hi)
set_option maxHeartbeats 4000000 in
set_option maxRecDepth 100000 in
theorem walk (w : World) (ht : TT w) (A : Option Addr) (c : Nat) (t : List Va) (hc : t.length ≤ c) (hm : c ≤ maxLen) (hA : Vals w A t) (hok : okL t) (B : Option Addr) (c2 : Nat) (l : List Va) (hc2 : l.length ≤ c2) (hm2 : c2 ≤ maxLen) (hB : Vals w B l) (hokl : okL l)
    (S : Option Addr) (d : Nat) (s : List Int) (hc3 : s.length ≤ d) (hm3 : d ≤ maxLen) (hS : Ints w S s) (hsi : ∀ i, i < s.length → I64 (gi s i)) :
    Calls Tryd.prog 16 #[.slice A t.length c, .slice B l.length c2, .slice S s.length d] w fun e w' => e = .returned (.bool true) ∧ Below w.heap.size w w' := by
  have m1 : t.length ≤ maxLen := by omega
  have m2 : l.length ≤ maxLen := by omega
  have m3 : s.length ≤ maxLen := by omega
  have a : ∀ W, Below w.heap.size w W → Vals W A t := fun W hb => hA.below hb (Nat.le_refl _)
  have b : ∀ W, Below w.heap.size w W → Vals W B l := fun W hb => hB.below hb (Nat.le_refl _)
  have i : ∀ W, Below w.heap.size w W → Ints W S s := fun W hb => hS.below hb (Nat.le_refl _)
  have tt : ∀ W, Below w.heap.size w W → TT W := fun W hb => tab_stays (g := 1) (by kernel_rfl) ht hb (Nat.le_refl _)
  -- the closed fact
  have hb0 : Below w.heap.size w ((w.alloc (.cells #[.int .i64 0, .int .i64 5, .string ⟨#[]⟩, .int .i64 0, .int .i64 6, .string ⟨#[]⟩, .int .i64 0, .int .i64 7, .string ⟨#[]⟩] 28)).alloc (.cells #[.int .i64 0, .int .i64 1, .int .i64 2] 3)) := bal (bal1 _ _) _
  have hv0 := (lit_vals w [v5, v6, v7] 28 rfl).alloc (.cells #[.int .i64 0, .int .i64 1, .int .i64 2] 3)
  have hi0 := lit_ints (w.alloc (.cells #[.int .i64 0, .int .i64 5, .string ⟨#[]⟩, .int .i64 0, .int .i64 6, .string ⟨#[]⟩, .int .i64 0, .int .i64 7, .string ⟨#[]⟩] 28)) [0, 1, 2] 3 (g := w.heap.size + 1) (by simp)
  have c0 := cotuple_ok (some ⟨w.heap.size, 0, none⟩) 3 [v5, v6, v7] (some ⟨w.heap.size + 1, 0, none⟩) 3 [0, 1, 2] (by decide) (by decide) ok3 _ (tt _ hb0) hv0 hi0 ct3
  rw [cov3] at c0
  have HB0 := Lib.hid hb0; have C0 := Lib.hid c0
  clear hb0 hv0 hi0 c0
  have c1 := fun h W hb => cotuple_ok A c t S d s m1 m3 hok W (tt W hb) (a W hb) (i W hb) h
  have c1n := fun h W hb => cotuple_no A c t S d s m1 m3 hok W (a W hb) (i W hb) h
  by_cases h1 : ctE t s = 0
  · have c1 := c1 h1
    obtain ⟨e1, e2⟩ := ctE_zero h1
    obtain ⟨t0, t5, tv⟩ := tu_vaE (tuE_zero e1).1
    have hz : ctE t (List.replicate t.length 0) = 0 := by rw [ctE, if_neg (by simp [e1]), sh_rep]
    have c2 := fun W hb g (hI : Ints W (some ⟨g, 0, none⟩) (List.replicate t.length 0)) => cotuple_ok A c t (some ⟨g, 0, none⟩) t.length (List.replicate t.length 0) m1 (by simp; omega) hok W (tt W hb) (a W hb) hI hz
    simp only [cov_rep, List.length_replicate] at c2
    have cs := fun W X Y c d (hX : Vals W X t) (hY : Vals W Y t) => same_tuple X Y c d t t W hX hY m1
    simp only [decide_true] at cs
    have c3 := fun W X c (hX : Vals W X (covL t s Va.zero)) => tcheck_any X c (covL t s Va.zero) (by rw [covL_length]; exact m1) (okL_cov (tuE_zero e1).1 (by decide)) W hX
    rw [tu_cov e1, eV_zero] at c3
    simp only [covL_length] at c3
    have hmk := run_make_row' (P := Tryd.prog) 42 3 (.int .i64 0) 8 Tryd.underlying42 infoI rfl .i64 .i64 t.length (by omega) (by omega)
    have C1 := Lib.hid c1; have C2 := Lib.hid c2; have CS := Lib.hid cs; have C3 := Lib.hid c3; have HAA := Lib.hid a
    clear c1 c1n c2 cs c3 a
    by_cases h2 : clE l s = 0
    · obtain ⟨f1, f2⟩ := clE_zero h2
      obtain ⟨l0, l5, lv⟩ := tu_vaE f1
      have c4 := fun W hb => colike_ok B c2 l S d s m2 m3 hokl W (tt W hb) (b W hb) (i W hb) h2
      have c5 := fun W hb => tfits_any B c2 l A c t m2 m1 hokl hok W (b W hb) (HAA.out W hb)
      rw [tf_zero f1 e1, decide_eq_true rfl, Bool.true_and, eV_zero] at c5
      have c6 := fun W X Y c d (hX : Vals W X (covL l s starV)) (hY : Vals W Y (covL t s Va.zero)) => tfits_any X c (covL l s starV) Y d (covL t s Va.zero) (by rw [covL_length]; exact m2) (by rw [covL_length]; exact m1) (okL_cov f1 (by decide)) (okL_cov (tuE_zero e1).1 (by decide)) W hX hY
      rw [tf_zero (li_cov f1 (by decide)) (tu_cov e1), decide_eq_true rfl, Bool.true_and, eV_zero] at c6
      simp only [covL_length] at c6
      have hfit : fitB l t = true → fitB (covL l s starV) (covL t s Va.zero) = true := fit_cov
      have hfit : (fitB l t = false ∧ True) ∨ (fitB l t = true ∧ fitB (covL l s starV) (covL t s Va.zero) = true) := by
        cases e : fitB l t with
        | false => exact .inl ⟨rfl, trivial⟩
        | true => exact .inr ⟨rfl, hfit e⟩
      generalize fitB l t = x at *
      generalize fitB (covL l s starV) (covL t s Va.zero) = y at *
      have C4 := Lib.hid c4; have C5 := Lib.hid c5; have C6 := Lib.hid c6
      clear c4 c5 c6 b i tt hA hB hS hok hokl hsi ht e1 e2 f1 f2 lv tv h1 h2 hz
      rcases hfit with ⟨rfl, -⟩ | ⟨rfl, rfl⟩
      all_goals
        go_enter Tryd.func16, Tryd.ntmps16
        go_wp2_with fail
        refine C0.out.mono ?_
        rintro e w1 ⟨A1, k1, rfl, ho1, hb1⟩
        have hb1' := bcl HB0.out hb1
        obtain ⟨g1, rfl⟩ := ho1.form (by decide)
        obtain ⟨x0, x1, x2⟩ := ho1.cells_at (i := 0) (by decide)
        obtain ⟨y0, y1, y2⟩ := ho1.cells_at (i := 1) (by decide)
        obtain ⟨z0, z1, z2⟩ := ho1.cells_at (i := 2) (by decide)
        simp [va, v5, Va.zero] at x1 y1 z1
        clear ho1 hb1 x0 x2 y0 y2 z0 z2
        go_wp2_with fail
        refine (C1.out _ hb1').mono ?_
        rintro e w2 ⟨A2, k2, rfl, ho2, hb2⟩
        have hb2' := bcl hb1' hb2
        have hx2 := ho2.vals
        have HX2 := Lib.hid hx2
        clear ho2 hx2 hb2 x1 y1 z1
        go_wp2_with fail
        refine (C2.out _ (bal hb2' _) _ (ints_row (World.rowIs_made w2 (.int .i64 0) t.length 3))).mono ?_
        rintro e w3 ⟨A3, k3, rfl, ho3, hb3⟩
        have hb3' := bcl (bal hb2' _) hb3
        have hx3 := (HX2.out.alloc _).below hb3 (Nat.le_refl _)
        have hy3 := ho3.vals
        have HX3 := Lib.hid hx3; have HY3 := Lib.hid hy3
        clear hx3 hy3 ho3 hb3
        go_wp2_with fail
        refine (CS.out _ _ _ _ _ HY3.out (HAA.out _ hb3')).mono ?_
        rintro e w4 ⟨rfl, hb4⟩
        have hb4' := bcl hb3' hb4
        have hx4 := HX3.out.below hb4 (Nat.le_refl _)
        have HX4 := Lib.hid hx4
        clear hx4 hb4
        go_wp2_with fail
        refine (C3.out _ _ _ HX4.out).mono ?_
        rintro e w5 ⟨rfl, hb5⟩
        have hx5 := HX4.out.below hb5 (Nat.le_refl _)
        have hb5 := bcl hb4' hb5
        go_wp2_with fail
        refine (C4.out _ hb5).mono ?_
        rintro e w6 ⟨A6, k6, rfl, ho6, hb6⟩
        have hb6' := bcl hb5 hb6
        have hx6 := hx5.below hb6 (Nat.le_refl _)
        have HO6 := Lib.hid ho6.vals; have HX6 := Lib.hid hx6
        clear ho6 hx6 hx5 hb6
        go_wp2_with fail
        refine (C5.out _ hb6').mono ?_
        rintro e w7 ⟨rfl, hb7⟩
        go_wp2_with fail
        refine (C6.out _ _ _ _ _ (HO6.out.below hb7 (Nat.le_refl _)) (HX6.out.below hb7 (Nat.le_refl _))).mono ?_
        rintro e w8 ⟨rfl, hb8⟩
        go_wp2_with fail
        go_ret
        exact ⟨ret_true (by first | rfl | (simp; done) | (simp; omega)), bcl (bcl hb6' hb7) hb8⟩
    · have c4 := fun W hb => colike_no B c2 l S d s m2 m3 hokl W (b W hb) (i W hb) h2
      generalize clE l s = E at *
      have C4 := Lib.hid c4
      clear c4 b i tt hA hB hS hok hokl hsi ht e1 e2 tv h1 h2 hz
      go_enter Tryd.func16, Tryd.ntmps16
      go_wp2_with fail
      refine C0.out.mono ?_
      rintro e w1 ⟨A1, k1, rfl, ho1, hb1⟩
      have hb1' := bcl HB0.out hb1
      obtain ⟨g1, rfl⟩ := ho1.form (by decide)
      obtain ⟨x0, x1, x2⟩ := ho1.cells_at (i := 0) (by decide)
      obtain ⟨y0, y1, y2⟩ := ho1.cells_at (i := 1) (by decide)
      obtain ⟨z0, z1, z2⟩ := ho1.cells_at (i := 2) (by decide)
      simp [va, v5, Va.zero] at x1 y1 z1
      clear ho1 hb1 x0 x2 y0 y2 z0 z2
      go_wp2_with fail
      refine (C1.out _ hb1').mono ?_
      rintro e w2 ⟨A2, k2, rfl, ho2, hb2⟩
      have hb2' := bcl hb1' hb2
      have hx2 := ho2.vals
      have HX2 := Lib.hid hx2
      clear ho2 hx2 hb2 x1 y1 z1
      go_wp2_with fail
      refine (C2.out _ (bal hb2' _) _ (ints_row (World.rowIs_made w2 (.int .i64 0) t.length 3))).mono ?_
      rintro e w3 ⟨A3, k3, rfl, ho3, hb3⟩
      have hb3' := bcl (bal hb2' _) hb3
      have hx3 := (HX2.out.alloc _).below hb3 (Nat.le_refl _)
      have hy3 := ho3.vals
      have HX3 := Lib.hid hx3; have HY3 := Lib.hid hy3
      clear hx3 hy3 ho3 hb3
      go_wp2_with fail
      refine (CS.out _ _ _ _ _ HY3.out (HAA.out _ hb3')).mono ?_
      rintro e w4 ⟨rfl, hb4⟩
      have hb4' := bcl hb3' hb4
      have hx4 := HX3.out.below hb4 (Nat.le_refl _)
      have HX4 := Lib.hid hx4
      clear hx4 hb4
      go_wp2_with fail
      refine (C3.out _ _ _ HX4.out).mono ?_
      rintro e w5 ⟨rfl, hb5⟩
      have hx5 := HX4.out.below hb5 (Nat.le_refl _)
      have hb5 := bcl hb4' hb5
      go_wp2_with fail
      refine (C4.out _ hb5).mono ?_
      rintro e w6 ⟨rfl, hb6⟩
      have hb6' := bcl hb5 hb6
      go_wp2_with fail
      go_ret
      exact ⟨ret_true (by first | rfl | (simp; done) | (simp; omega)), hb6'⟩
  · have c1 := c1n h1
    generalize ctE t s = E at *
    have C1 := Lib.hid c1
    clear c1 c1n a b i tt hA hB hS hok hokl hsi ht h1
    go_enter Tryd.func16, Tryd.ntmps16
    go_wp2_with fail
    refine C0.out.mono ?_
    rintro e w1 ⟨A1, k1, rfl, ho1, hb1⟩
    have hb1' := bcl HB0.out hb1
    obtain ⟨g1, rfl⟩ := ho1.form (by decide)
    obtain ⟨x0, x1, x2⟩ := ho1.cells_at (i := 0) (by decide)
    obtain ⟨y0, y1, y2⟩ := ho1.cells_at (i := 1) (by decide)
    obtain ⟨z0, z1, z2⟩ := ho1.cells_at (i := 2) (by decide)
    simp [va, v5, Va.zero] at x1 y1 z1
    clear ho1 hb1 x0 x2 y0 y2 z0 z2
    go_wp2_with fail
    refine (C1.out _ hb1').mono ?_
    rintro e w2 ⟨rfl, hb2⟩
    have hb2' := bcl hb1' hb2
    go_wp2_with fail
    go_ret
    exact ⟨ret_true (by first | rfl | (simp; done) | (simp; omega)), hb2'⟩

/-! ### the card's frame -/
set_option maxRecDepth 100000 in
theorem lifted (os : Os) (started : os.Started) (H : Type) (enc : TypeId × Value → H) :
    ReturnsInHanded {} Tryd.checked os 16 .any (fun w args => (Rows.coverFindsSpec.pre enc Tryd.prog Tryd.f16 [] false w args ∧ laidMetH Tryd.prog laidT w) ∧ sizedMet enc Tryd.prog Tryd.f16 (OpenSpec.ofChange Rows.coverFindsSpec) false w args) (Rows.coverFindsSpec.post enc Tryd.prog Tryd.f16 false true false false) := by
  refine returnsInHanded_of_change_and (C := Tryd.checked) (X := fun w _ => laidMetH Tryd.prog laidT w) (fun _ _ _ hh h => h.of_heap hh) door.own started (by kernel_rfl) Tryd.func16
    (ChangeSpec.witness_at (enc := enc) (C := Tryd.checked) (os := os) (X := fun w _ => laidMetH Tryd.prog laidT w) false (laidWorldT os) #[.slice none 0 0, .slice none 0 0, .slice none 0 0] 8 rfl (by kernel_rfl) (by kernel_rfl) (by kernel_rfl) (by kernel_rfl) (by kernel_rfl) (laidWorldT_met os _)) ?_
  intro W base args ds gs before hval0 hW _ hsz hL _
  have hg := tt_of_laid hL
  have hval : ∀ (j : Nat) t v, Tryd.f16.params[j]? = some t → args[j]? = some v → Value.okWide Tryd.prog W .any base t v := hval0
  have hW' := hW
  obtain ⟨p, q, hT0, hV, rfl, hfz, hnd⟩ := hW
  have hA : DataW.TrodAll enc Tryd.prog W 0 (fun _ => true) true Tryd.f16.params.toList args.toList ds p := hT0
  rw [Tryd.params16] at hA hval
  obtain ⟨v0, vs0, d0, ds0, p0, q0, hargs, rfl, rfl, h0, r0⟩ := trodAll_cons hA
  obtain ⟨v1, vs1, d1, ds1, p1, q1, rfl, rfl, rfl, h1, r1⟩ := trodAll_cons r0
  obtain ⟨v2, vs2, d2, ds2, p2, q2, rfl, rfl, rfl, h2, r2⟩ := trodAll_cons r1
  obtain ⟨rfl, rfl, rfl⟩ := trodAll_nil r2
  obtain rfl : args = #[v0, v1, v2] := by cases args; simp_all
  obtain ⟨rfl, rfl⟩ := trodVars_none hV
  have k0 := h0
  have lt0 : ∀ x ∈ p0, x.block < W.heap.size := by obtain ⟨m, hm⟩ := k0; exact DataW.trod_lt m _ _ _ hm
  obtain ⟨A0, c0, x0, rfl, hc0, hm0, hA0, w0⟩ := arg_Vals Tryd.underlying29 Tryd.underlying28 (by kernel_rfl) (by kernel_rfl) Tryd.underlying3 Tryd.underlying3 Tryd.underlying9 (hval 0 29 v0 rfl rfl) h0
  have k1 := h1
  have lt1 : ∀ x ∈ p1, x.block < W.heap.size := by obtain ⟨m, hm⟩ := k1; exact DataW.trod_lt m _ _ _ hm
  obtain ⟨A1, c1, x1, rfl, hc1, hm1, hA1, w1⟩ := arg_Vals Tryd.underlying29 Tryd.underlying28 (by kernel_rfl) (by kernel_rfl) Tryd.underlying3 Tryd.underlying3 Tryd.underlying9 (hval 1 29 v1 rfl rfl) h1
  have k2 := h2
  have lt2 : ∀ x ∈ p2, x.block < W.heap.size := by obtain ⟨m, hm⟩ := k2; exact DataW.trod_lt m _ _ _ hm
  obtain ⟨A2, c2, x2, rfl, hc2, hm2, hA2, w2⟩ := arg_Ints Tryd.underlying42 Tryd.underlying3 (by kernel_rfl) (hval 2 42 v2 rfl rfl) h2
  clear hT0 hval0
  refine (walk W hg A0 c0 x0 hc0 hm0 hA0 w0 A1 c1 x1 hc1 hm1 hA1 w1 A2 c2 x2 hc2 hm2 hA2 w2).mono fun e W' ⟨he, bel⟩ => ?_
  subst he
  exact ⟨_, rfl, _, _, _, [], _, [], hW', trodAll_mk1 (shut_bool Tryd.underlying4 _), (trodAll_cons_mk (Below.trod door.laidOut (by kernel_rfl) (of_decide_eq_true (by kernel_rfl)) k0 bel lt0) (trodAll_cons_mk (Below.trod door.laidOut (by kernel_rfl) (of_decide_eq_true (by kernel_rfl)) k1 bel lt1) (trodAll_cons_mk (Below.trod door.laidOut (by kernel_rfl) (of_decide_eq_true (by kernel_rfl)) k2 bel lt2) trodAll_mk0))), rfl, bel.frame _, fun h => by cases h⟩

theorem fr.fn : Tryd.prog.funcNamed Rows.coverFindsRow.func = some 16 := by kernel_rfl
theorem fr.cl : joinedFacts Tryd.prog 16 Tryd.f16 Rows.coverFindsSpec Rows.coverFindsRow = true := by kernel_rfl
theorem fr.is : Tryd.f16.isInstance Tryd.prog Rows.coverFindsRow.origin Rows.coverFindsRow.targs := of_decide_eq_true (by kernel_rfl)
theorem fr.wr : Tryd.f16.isWrapper Tryd.prog Rows.coverFindsRow.wrapper Rows.coverFindsRow.mainSum := by
  unfold Func.isWrapper; first | (rw [if_pos (by decide +kernel)]; kernel_rfl) | (rw [if_neg (by decide +kernel)]; exact ⟨rfl, rfl⟩)
theorem over : Rows.CoverFindsSaid :=
  OpenClaim.holds_of_wide 16 Tryd.f16 rfl rfl rfl rfl rfl rfl rfl ⟨rfl, rfl, rfl, rfl, rfl⟩ rfl rfl rfl rfl rfl fr.fn Tryd.func16 fr.cl fr.is fr.wr
    (fun os started H enc _ => lifted os started H enc)

theorem fr.hw : Rows.coverFindsRow.wfByText (OpenSpec.ofChange Rows.coverFindsSpec) = true := by kernel_rfl
theorem fr.hm : Tryd.pinned.checked.prog.mainIs = some (Rows.coverFindsCard.stood.harness.1, Rows.coverFindsCard.stood.harness.2.toList) := by kernel_rfl
theorem fr.lk : true = Tryd.prog.looks [] := by kernel_rfl
theorem fr.ws : ([29, 29, 42].all fun u => !Tryd.prog.wantsStandIn u) = true := by kernel_rfl
theorem fr.go : false = Rows.coverFindsRow.goesBy Tryd.pinned.checked.prog := by kernel_rfl
theorem proved : Rows.CoverFindsCardSaid :=
  Claim7.holds_tied_plain_at .later [] [.data, .data, .data] true Rows.coverFindsCard.stood.harness true over (fun _ h => by cases h) fr.hw (fun _ h => by cases h) coverFinds_row_tie rfl ⟨rfl, rfl⟩ fr.hm rfl
    (fun f fn hf hfn => by
      obtain rfl : f = 16 := Option.some.inj (fr.fn.symm.trans hf) |>.symm
      obtain rfl : fn = Tryd.f16 := (Option.some.inj (Tryd.func16.symm.trans hfn)).symm
      exact ⟨fr.lk, fun j t ht => by
        rw [Tryd.params16] at ht
        have hm : t ∈ [29, 29, 42] := by simpa using Array.mem_of_getElem? ht
        exact (show Tryd.prog.wantsStandIn t = false by simpa using List.all_eq_true.1 fr.ws t hm)⟩)
    fr.go
#print axioms proved

end Go.Proofs.YthpemlhlgjdnkaaDoor.coverFinds
