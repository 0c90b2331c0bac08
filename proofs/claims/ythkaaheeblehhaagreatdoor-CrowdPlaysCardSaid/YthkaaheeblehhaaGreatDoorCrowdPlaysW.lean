/- CrowdPlays: the walk. -/
import Derived.Test.YthkaaheeblehhaaGreatDoorCrMark
import Derived.Test.YthkaaheeblehhaaGreatDoorRcAll
import Derived.WalkKit
import Derived.WalkLawsBesides
import Derived.WalkSpells
import Derived.RegionTactic
import Derived.Deep.RegionHeld3
import Derived.Deep.QuietTactic
import Derived.BigQuiet
import Derived.Deep.CutBlock
import Derived.Deep.DeepCutAuto
import Derived.Outline
namespace Go.Proofs.YthkaaheeblehhaaGreatDoor.crowdPlays
open Go.ChangeShapes Go.WideShapes Go.ChangeAt Go.RowKit Go.Joins Go.Deep
set_option linter.unusedVariables false

theorem same_errW (n : Int) (W : World) (h : HG W) : Calls Tryz.prog 8 #[errV n, .int .i64 n] W fun e w' => e = .returned (.bool true) ∧ Below W.heap.size W w' :=
  (same_err n W W (DG.refl h)).mono fun e w' ⟨h1, h2⟩ => ⟨h1, h2.2⟩
theorem same_eW (n : Int) (W : World) (h : HG W) : Calls Tryz.prog 8 #[eV n, .int .i64 n] W fun e w' => e = .returned (.bool true) ∧ Below W.heap.size W w' :=
  (same_eV n W W (DG.refl h)).mono fun e w' ⟨h1, h2⟩ => ⟨h1, h2.2⟩
theorem same_nilW (W : World) : Calls Tryz.prog 8 #[.nilIface, .int .i64 0] W fun e w' => e = .returned (.bool true) ∧ Below W.heap.size W w' :=
  (same_nil W).mono fun e w' ⟨h1, h2⟩ => ⟨h1, h2 ▸ Below.refl _ _⟩
theorem doC_n (R : List Ru) (s : Cs) (a : Ak) : (doC R s a).n ≤ s.n + 1 := by
  unfold doC; split
  · omega
  · exact Nat.le_refl _
theorem crnew_range (n : Int) (hn : copB n = false) (RA : Option Addr) (l rc : Nat) (w : World) :
    Calls Tryz.prog 16 #[.int .i64 n, .slice RA l rc] w fun e w' => e = .returned (.tuple #[.pointer none, errV 1]) ∧ w = w' := by
  have cc := copies_any n
  rw [hn] at cc
  have CC := Lib.hid cc
  clear cc hn
  go_enter Tryz.func16, Tryz.ntmps16
  go_wp2_with (go_at_call 46; refine (CC.out _).mono ?_; rintro e w1 ⟨rfl, rfl⟩)
  go_ret2
  exact ⟨rfl, rfl⟩
set_option maxHeartbeats 800000 in
set_option maxRecDepth 100000 in
theorem crnew_rules (n : Nat) (n1 : 1 ≤ n) (n7 : n ≤ 7) (RA : Option Addr) (rc : Nat) (l : List Ru) (hm : l.length ≤ maxLen) (w : World) (hA : Rls w RA l) (hr : rulE l ≠ 0) (ho : okR l) :
    Calls Tryz.prog 16 #[.int .i64 n, .slice RA l.length rc] w fun e w' => e = .returned (.tuple #[.pointer none, errV (rulE l)]) ∧ Below w.heap.size w w' := by
  have cc := copies_any (n : Int)
  rw [show copB (n : Int) = true from copB_true.2 ⟨by omega, by omega⟩] at cc
  have cn := fun (W : World) (hW : Below w.heap.size w W) => cpnew_no (w := W) RA rc l hm (hA.below hW (Nat.le_refl _)) hr ho
  have CC := Lib.hid cc; have CN := Lib.hid cn
  have i1 : (0 : Int) < (n : Int) := by omega
  clear cc cn hA hr ho hm
  generalize rulE l = E at *
  have hb0 : Below w.heap.size w (w.alloc (.cells #[.slice none 0 0] 108)) := bal1 _ _
  have HB0 := Lib.hid hb0
  clear hb0
  go_enter Tryz.func16, Tryz.ntmps16
  go_wp2_with (go_at_call 46; refine (CC.out _).mono ?_; rintro e w1 ⟨rfl, rfl⟩)
  go_loopw [7, 8, 16] (fun _ _ s16 wr => s16 = .int .i64 0 ∧ wr = w.alloc (.cells #[.slice none 0 0] 108)) (fun _ _ _ _ => 0)
  case atStart => exact ⟨rfl, rfl⟩
  case round =>
    obtain ⟨rfl, rfl⟩ := hrel
    go_wp2_with (go_at_call 7; refine (CN.out _ HB0.out).mono ?_; rintro e w2 ⟨rfl, hb2⟩)
    go_ret2
    exact ⟨rfl, bcl HB0.out hb2⟩
/-- one of a slice of slices -/
theorem manyAt {α : Type} {Q : World → Option Addr → List α → Prop} {w : World} {A : Option Addr} {l : List (List α)} (h : Many Q w A l) {i : Nat} (hi : i < l.length) :
    ∃ b off B C, A = some ⟨b, off, none⟩ ∧ b < w.heap.size ∧ w.cell? ⟨b, off + i, none⟩ = some (.slice B (gg l i).length C) ∧ Q w B (gg l i) ∧ (gg l i).length ≤ C ∧ C ≤ maxLen := by
  obtain ⟨B, C, h1, h2⟩ := h
  obtain ⟨b, off, e, hb, hc⟩ := h1.at1 hi
  exact ⟨b, off, B i, C i, e, hb, hc, h2 i hi⟩
/-- what the law wants of a round: the fault, what is said, the copy behind it -/
def wantE (R : List Ru) (s : Cs) (a : Ak) (lie : List ByteArray) (n : Nat) : Int := if n < lie.length then 3 else if doE R s a = 0 then winE (sayL lie (doS R s a) n) (((n : Int) - 1) / 3 + 1) else doE R s a
def wantS (R : List Ru) (s : Cs) (a : Ak) (lie : List ByteArray) (n : Nat) : ByteArray := if n < lie.length then ⟨#[]⟩ else if doE R s a = 0 then winS (sayL lie (doS R s a) n) (((n : Int) - 1) / 3 + 1) else ⟨#[]⟩
def wantC (R : List Ru) (s : Cs) (a : Ak) (lie : List ByteArray) (n : Nat) : Cs := if n < lie.length then s else doC R s a
theorem wantC_n (R : List Ru) (s : Cs) (a : Ak) (lie : List ByteArray) (n : Nat) : (wantC R s a lie n).n ≤ s.n + 1 := by
  unfold wantC; split
  · omega
  · exact doC_n R s a
/-- what the crowd does -/
theorem crdo_want {w : World} {base p c n : Nat} {A : Option Addr} {D : Nat → Dq} {R : List Ru} {s : Cs} (hC : Crw w base p A c n D R (fun _ => s)) (n1 : 1 ≤ n) (n7 : n ≤ 7) (ht : ∀ W, Below base w W → TT W) (hn : s.n ≤ 1000000) (a : Ak) (TA : Option Addr) (tc : Nat) (hm : a.t.length ≤ maxLen) (hok : okL a.t) (hq : I64 a.q) (hT : Vin w base TA a.t)
    (LA : Option Addr) (lc : Nat) (lies : List ByteArray) (hL : ∀ W, Chs (CrM D n) w W → Strs W LA lies) (hls : ∀ i, i < lies.length → (gs lies i).size ≤ maxLen) :
    Calls Tryz.prog 19 #[.pointer (some ⟨p, 0, none⟩), akv a TA tc, .slice LA lies.length lc] w fun e w' => e = .returned (.tuple #[.string (wantS R s a lies n), eV (wantE R s a lies n)]) ∧
      ∃ D', Crw w' base p A c n D' R (fun _ => wantC R s a lies n) ∧ Chs (CrM D n) w w' ∧ ∀ b, CrM D' n b → CrM D n b ∨ w.heap.size ≤ b := by
  by_cases hl : n < lies.length
  · rw [wantS, wantE, wantC, if_pos hl, if_pos hl, if_pos hl]
    exact (crdo_shape hC a TA tc LA lc lies hl).mono fun e w' ⟨h1, h2⟩ => ⟨h1, D, hC.keep h2, Chs.of_below _ h2, fun b hb => .inl hb⟩
  · rw [wantS, wantE, wantC, if_neg hl, if_neg hl, if_neg hl]
    refine (crdo_any hC n1 n7 ht hn a TA tc hm hok hq hT LA lc lies (by omega) hL hls).mono fun e w' ⟨h1, h2⟩ => ⟨?_, h2⟩
    rw [h1]
    by_cases e0 : doE R s a = 0
    · rw [if_pos e0, if_pos e0, if_pos e0, winV_parts]
    · rw [if_neg e0, if_neg e0, if_neg e0, eV_of e0]
set_option maxHeartbeats 12800000 in
set_option maxRecDepth 100000 in
theorem walk (w : World) (hgt : HG w ∧ TT w) (N : Int) (hN : I64 N) (RA : Option Addr) (rc : Nat) (R : List Ru) (hn1 : R.length ≤ rc) (hm1 : rc ≤ maxLen) (hR : Rls w RA R) (hokr : okR R)
    (A : Option Addr) (c : Nat) (l : List Ak) (hn2 : l.length ≤ c) (hm2 : c ≤ maxLen) (hA : Aks w A l) (hok : okA l)
    (YA : Option Addr) (yc : Nat) (lies : List (List ByteArray)) (hn4 : lies.length ≤ yc) (hm4 : yc ≤ maxLen) (hY : Many Strs w YA lies) (hys : ∀ i, i < lies.length → ∀ j, j < (gg lies i).length → (gs (gg lies i) j).size ≤ maxLen) :
    Calls Tryz.prog 4 #[.int .i64 N, .slice RA R.length rc, .slice A l.length c, .slice YA lies.length yc] w fun e w' => e = .returned (.bool true) ∧ Below w.heap.size w w' := by
  obtain ⟨hg, ht⟩ := hgt
  have hrin := RIn.of_arg hR
  have hmR : R.length ≤ maxLen := Nat.le_trans hn1 hm1
  have csr := srules_any RA rc R hmR hokr w hR
  obtain ⟨X, rfl, hX⟩ := RX.of_arg hR (Nat.le_refl w.heap.size)
  rw [List.length_map] at csr ⊢
  have htt : ∀ W, Below w.heap.size w W → TT W := fun W h => tab_stays (g := 2) (by kernel_rfl) ht h (Nat.le_refl _)
  have HR := Lib.hid hR; have HOKR := Lib.hid hokr; have HA := Lib.hid hA; have HOK := Lib.hid hok; have HTT := Lib.hid htt; have HX := Lib.hid hX; have HG0 := Lib.hid hg; have HRIN := Lib.hid hrin; have HMR := Lib.hid hmR; have HY := Lib.hid hY; have HYS := Lib.hid hys
  clear hR hokr hA hok htt ht hX hg hrin hmR hY hys
  by_cases hN7 : 1 ≤ N ∧ N ≤ 7
  · obtain ⟨n, rfl⟩ := Int.eq_ofNat_of_zero_le (show 0 ≤ N by omega)
    have n1 : 1 ≤ n := by omega
    have n7 : n ≤ 7 := by omega
    have y1 : decide ((n : Int) < 1) = false := by simp; omega
    have y2 : decide (7 < (n : Int)) = false := by simp; omega
    by_cases er : rulE (X.map (·.1)) = 0
    · rw [er] at csr
      have cn := fun (W : World) (hW : Below w.heap.size w W) => crnew_ok (w := W) (base := w.heap.size) hW.size n n1 n7 RA rc X (HX.out.below (Nat.le_refl _) hW) er HOKR.out
      have cr := fun (W : World) (hW : Below w.heap.size w W) => rcnew_any (w := W) (base := w.heap.size) hW.size RA rc (X.map (·.1)) (HRIN.out.later hW) er HOKR.out
      simp only [List.length_map] at cr
      obtain ⟨f, hf⟩ : ∃ f : Nat, ((n : Int) - 1) / 3 = f := ⟨(n - 1) / 3, by omega⟩
      have hf2 : (f : Int) ≤ 2 := by omega
      have cnd := fun (W : World) (p : Nat) (A : Option Addr) (c : Nat) (D : Nat → Dq) (hC : Crw W w.heap.size p A c n D (X.map (·.1)) (fun _ => Cs.zero)) => crneed_any hC n1 n7
      rw [hf] at cnd
      have CSR := Lib.hid csr; have CN := Lib.hid cn; have CR := Lib.hid cr; have CND := Lib.hid cnd; have HF := Lib.hid hf
      have hq : (n : Int) - 1 = ((n - 1 : Nat) : Int) := by omega
      have htd : Int.tdiv ((n : Int) - 1) 3 = (f : Int) := by rw [← hf, Int.tdiv_eq_ediv_of_nonneg (by omega)]
      clear csr cn cr er hN7 cnd hq hf
      go_enter Tryz.func4, Tryz.ntmps4
      go_wp2_with (first
        | (go_at_call 6; refine CSR.out.mono ?_; rintro e w1 ⟨rfl, hb1⟩; have HB1 := Lib.hid hb1; clear hb1)
        | (go_at_call 16; refine (CN.out _ HB1.out).mono ?_; rintro e w2 ⟨p, A1, c1, D, rfl, hC1, hb2, _, _⟩; have HC1 := Lib.hid hC1; have HB2 := Lib.hid (bcl HB1.out hb2); clear hC1 hb2)
        | (go_at_call 8; refine (same_nilW _).mono ?_; rintro e w3 ⟨rfl, hb3⟩; have HC3 := Lib.hid (HC1.out.keep hb3); have HB3 := Lib.hid (bcl HB2.out hb3); clear hb3)
        | (go_at_call 9; refine (CR.out _ HB3.out).mono ?_; rintro e w4 ⟨p2, q2, rfl, hR4, hb4, h1, h2⟩; have HJ0 : Hid (KJ w w4 p A1 c1 n D (X.map (·.1)) Cs.zero p2 q2 none none Cs.zero) := Lib.hid ⟨HG0.out, bcl HB3.out hb4, HC3.out.keep hb4, hR4, fun b hb h => by have := HC3.out.lts b hb; rcases h with h | h | h | h <;> first | (cases h; done) | omega⟩; clear hR4 hb4 h1 h2)
        | (go_at_call 17; refine (CND.out _ p A1 c1 D HJ0.out.c).mono ?_; rintro e w5 ⟨rfl, rfl⟩))
      clear HC1 HB1 HB2 HC3 HB3 CN CR CSR CND
      go_loopw [9, 12, 15, 16, 17, 18, 19, 20, 21, 22, 23, 24, 25, 26, 27, 28, 29, 30, 31] (fun _ _ s15 _ _ _ _ _ _ _ _ _ _ _ _ _ _ _ _ wr => ∃ (k : Nat) (D : Nat → Dq) (g2 h2 : Option Nat) (s : Cs), k ≤ l.length ∧ k ≤ 30 ∧ s.n ≤ k ∧ s15 = .int .i64 k ∧ Hid (KJ w wr p A1 c1 n D (X.map (·.1)) s p2 q2 g2 h2 s)) (fun _ _ s15 _ _ _ _ _ _ _ _ _ _ _ _ _ _ _ _ _ => 31 - (intOf s15).toNat)
      case atStart => exact ⟨0, D, none, none, Cs.zero, Nat.zero_le _, by omega, Nat.le_refl _, rfl, HJ0⟩
      case round =>
        clear HJ0
        obtain ⟨k, D, g2, h2, s, hkl, hk30, hsn, rfl, HJ⟩ := hrel
        by_cases t1 : k < l.length
        · by_cases t2 : k < 30
          · obtain ⟨wo, hwo⟩ : ∃ wo : World, wo = wr := ⟨_, rfl⟩
            subst hwo
            obtain ⟨ba, oa, B, C, rfl, hbl, c0, c1', c2, c3, hv, hb1, hb2⟩ := HA.out.at_ t1
            obtain ⟨hokt, w1, w2, w3⟩ := HOK.out k t1
            have i0 : (0 : Int) ≤ (k : Int) := by omega
            have i1 : (k : Int) < (l.length : Nat) := by omega
            have i30 : (k : Int) < 30 := by omega
            have cells := fun (W : World) (hW : Below w.heap.size w W) => And.intro ((hW.cell (p := ⟨ba, oa + k * 4, none⟩) hbl).trans c0) (And.intro ((hW.cell (p := ⟨ba, oa + k * 4 + 1, none⟩) hbl).trans c1') (And.intro ((hW.cell (p := ⟨ba, oa + k * 4 + 2, none⟩) hbl).trans c2) ((hW.cell (p := ⟨ba, oa + k * 4 + 3, none⟩) hbl).trans c3)))
            generalize ak l k = a at *
            have hvin := fun (W : World) (hW : Below w.heap.size w W) => (Vin.of_arg hv (Nat.le_refl _)).below hW (Nat.le_refl _) (Nat.le_refl _)
            have HCELL := Lib.hid cells; have HVIN := Lib.hid hvin; have HOKT := Lib.hid hokt; have HW2 := Lib.hid w2; have HB1 := Lib.hid hb1; have HB2 := Lib.hid hb2
            clear c0 c1' c2 c3 hv hokt w1 w2 w3 cells hvin hb1 hb2
            go_upto_if 79 with fail
            go_cut [16] (fun s16 wx => wx = wo ∧ ∃ (LA : Option Addr) (lc : Nat) (lie : List ByteArray), s16 = .slice LA lie.length lc ∧ Hid (Strs w LA lie) ∧ lie.length ≤ 9223372036854775807 ∧ Hid (∀ i, i < lie.length → (gs lie i).size ≤ maxLen))
            case first =>
              by_cases u1 : k < lies.length
              · obtain ⟨b2, o2, LA, lc, rfl, hl2, ct0, hv, hv1, hv2⟩ := manyAt HY.out u1
                have s0 := (HJ.out.b.cell (p := ⟨b2, o2 + k, none⟩) hl2).trans ct0
                have k1 : (k : Int) < (lies.length : Nat) := by omega
                have HV := Lib.hid hv
                have hv63 : (gg lies k).length ≤ 9223372036854775807 := by unfold maxLen at hv2; omega
                have hsz := HYS.out k u1
                have HSZ := Lib.hid hsz
                clear ct0 hv hv1 hv2 hsz
                go_wp2_with fail
                go_meet
                case rel => exact ⟨by first | rfl | trivial, LA, lc, gg lies k, rfl, HV, hv63, HSZ⟩
              · have k1 : decide ((k : Int) < (lies.length : Nat)) = false := by simp; omega
                go_wp2_with fail
                go_meet
                case rel => exact ⟨by first | rfl | trivial, none, 0, [], rfl, Lib.hid Strs.nil, by simp, Lib.hid (fun i hi => by simp at hi)⟩
            case rest =>
              obtain ⟨rfl, LA, lc, lie, rfl, HL, hl63, HLS⟩ := hcut
              obtain ⟨w5, hw⟩ : ∃ w5 : World, w5 = wc := ⟨_, rfl⟩
              subst hw
              go_upto_if 87 with fail
              go_cut [9, 17, 18, 19, 20, 21, 22, 23] (fun s9 s17 _ _ _ _ _ _ wx => s9 = .int .i64 (wantE (X.map (·.1)) s a lie n) ∧ s17 = .string (wantS (X.map (·.1)) s a lie n) ∧ ∃ g3 h3, Hid (KJ w wx p A1 c1 n D (X.map (·.1)) s p2 q2 g3 h3 (wantC (X.map (·.1)) s a lie n)))
              case first =>
                by_cases hl : n < lie.length
                · have u1 : (n : Int) < (lie.length : Nat) := by omega
                  have u1n : decide (n < lie.length) = true := by simp; omega
                  have hE : wantE (X.map (·.1)) s a lie n = 3 := if_pos hl
                  have hS : wantS (X.map (·.1)) s a lie n = ⟨#[]⟩ := if_pos hl
                  have hC : wantC (X.map (·.1)) s a lie n = s := if_pos hl
                  have HE := Lib.hid hE; have HS := Lib.hid hS; have HC := Lib.hid hC
                  clear hE hS hC
                  go_wp2_with fail
                  go_meet
                  case rel => exact ⟨by rw [HE.out], by rw [HS.out], g2, h2, by rw [HC.out]; exact HJ⟩
                · have u1 : decide ((n : Int) < (lie.length : Nat)) = false := by simp; omega
                  have u1n : decide (n < lie.length) = false := by simp; omega
                  have hE : wantE (X.map (·.1)) s a lie n = if doE (X.map (·.1)) s a = 0 then winE (sayL lie (doS (X.map (·.1)) s a) n) (((n : Int) - 1) / 3 + 1) else doE (X.map (·.1)) s a := if_neg hl
                  have hS : wantS (X.map (·.1)) s a lie n = if doE (X.map (·.1)) s a = 0 then winS (sayL lie (doS (X.map (·.1)) s a) n) (((n : Int) - 1) / 3 + 1) else ⟨#[]⟩ := if_neg hl
                  have hC : wantC (X.map (·.1)) s a lie n = doC (X.map (·.1)) s a := if_neg hl
                  obtain ⟨d0, d1, d2, d3⟩ := HCELL.out w5 HJ.out.b
                  have crd := rcdo_any HJ.out.r (by omega) a B C HB1.out HB2.out HOKT.out HW2.out (HVIN.out w5 HJ.out.b)
                  have hds := doS_size (R := X.map (·.1)) (a := a) HJ.out.r.ok
                  have HC := Lib.hid hC
                  by_cases e0 : doE (X.map (·.1)) s a = 0
                  · rw [if_pos e0, HF.out] at hE hS
                    rw [e0] at crd
                    have HE := Lib.hid hE; have HS := Lib.hid hS; have CRD := Lib.hid crd; have HDS := Lib.hid hds
                    clear hE hS hC crd e0 hds
                    obtain ⟨x, q', d, t⟩ := a
                    simp only [akv] at *
                    generalize doC (X.map (·.1)) s ⟨x, q', d, t⟩ = s' at *
                    generalize doS (X.map (·.1)) s ⟨x, q', d, t⟩ = S at *
                    go_wp2_with (go_at_call 10; refine CRD.out.mono ?_; rintro e w6 ⟨rfl, g3, h3, hca, hka, hna, hma⟩; have HJ6 := Lib.hid (HJ.out.ref hca hka hna hma); clear hca hka hna hma)
                    go_loopw [20, 21] (fun s20 s21 wx => ∃ (j : Nat) (A' : Option Addr) (c' : Nat), j ≤ n ∧ s21 = .int .i64 j ∧ s20 = .slice A' j c' ∧ Hid (OStrs wx w.heap.size A' c' (sayL lie S j)) ∧ Hid (KJ w wx p A1 c1 n D (X.map (·.1)) s p2 q2 g3 h3 s')) (fun _ s21 _ => n - (intOf s21).toNat)
                    case atStart => exact ⟨0, none, 0, Nat.zero_le _, rfl, rfl, OStrs.nil, HJ6⟩
                    case round =>
                      clear HJ6
                      obtain ⟨j, A', c', hj, rfl, rfl, HO, HJ7⟩ := hrel
                      by_cases hlt : j < n
                      · have j0 : (0 : Int) ≤ (j : Int) := by omega
                        have j1 : (j : Int) < (n : Int) := by omega
                        have hsk : sayL lie S (j + 1) = sayL lie S j ++ [sy lie S j] := sayL_succ _ _ _
                        have hlk : (sayL lie S j).length = j := sayL_length _ _ _
                        have hl1 : (sayL lie S j).length ≤ 1000000 := by rw [hlk]; omega
                        have HSK := Lib.hid hsk; have HLK := Lib.hid hlk; have HNB := Lib.hid (show w.heap.size ≤ wr.heap.size from HJ7.out.b.size)
                        clear hsk hlk
                        by_cases v1 : j < lie.length
                        · obtain ⟨b2, o2, rfl, hb2, ch⟩ := (HL.out.below HJ7.out.b (Nat.le_refl _)).at_ v1
                          have v2 : (j : Int) < (lie.length : Nat) := by omega
                          by_cases v3 : gs lie j = ⟨#[]⟩
                          · have hsy : sy lie S j = S := by rw [sy, if_neg (fun h => h.2 v3)]
                            have HSY := Lib.hid hsy
                            rw [v3] at ch
                            clear v3 hsy
                            go_wp2_with (at_builtin; refine wpList_append_strG rfl _ _ rfl w.heap.size A' c' (sayL lie S j) j HLK.out rfl (HO.out.keep (bal1 _ _)) wr.heap.size S rfl ((AtB.new _ _ _).cell (i := 0) rfl) hl1 (le_al HNB.out _) ?_; intro A4 c4 w4' h41 h42; have HO4 := Lib.hid h41; have hc4 := (Chs.of_below (fun b => (Value.slice A' (sayL lie S j).length c').ownBlock = some b) (bal1 wr (.cells #[.string S] 9))).trans (Chs.grown h42) (fun b hb => .inl hb); have HC4 := Lib.hid hc4; clear h41 h42 hc4)
                            have hkj := HJ7.out.texts HC4.out (fun b hb => HO.out.block hb)
                            go_roundw
                            case rel => exact ⟨j + 1, A4, c4, by omega, by go_num, rfl, Lib.hid (by rw [HSK.out, HSY.out]; exact HO4.out), Lib.hid hkj⟩
                            case measure => simp [intOf]; omega
                          · have hsy : sy lie S j = gs lie j := by rw [sy, if_pos ⟨v1, v3⟩]
                            have he := emp_test (size_pos v3)
                            have HSY := Lib.hid hsy
                            clear v3 hsy
                            generalize gs lie j = ly at *
                            go_wp2_with (at_builtin; refine wpList_append_strG rfl _ _ rfl w.heap.size A' c' (sayL lie S j) j HLK.out rfl (HO.out.keep (bal1 _ _)) wr.heap.size ly rfl ((AtB.new _ _ _).cell (i := 0) rfl) hl1 (le_al HNB.out _) ?_; intro A4 c4 w4' h41 h42; have HO4 := Lib.hid h41; have hc4 := (Chs.of_below (fun b => (Value.slice A' (sayL lie S j).length c').ownBlock = some b) (bal1 wr (.cells #[.string ly] 9))).trans (Chs.grown h42) (fun b hb => .inl hb); have HC4 := Lib.hid hc4; clear h41 h42 hc4)
                            have hkj := HJ7.out.texts HC4.out (fun b hb => HO.out.block hb)
                            go_roundw
                            case rel => exact ⟨j + 1, A4, c4, by omega, by go_num, rfl, Lib.hid (by rw [HSK.out, HSY.out]; exact HO4.out), Lib.hid hkj⟩
                            case measure => simp [intOf]; omega
                        · have hsy : sy lie S j = S := by rw [sy, if_neg (fun h => v1 h.1)]
                          have v2 : decide ((j : Int) < (lie.length : Nat)) = false := by simp; omega
                          have HSY := Lib.hid hsy
                          clear hsy
                          go_wp2_with (at_builtin; refine wpList_append_strG rfl _ _ rfl w.heap.size A' c' (sayL lie S j) j HLK.out rfl (HO.out.keep (bal1 _ _)) wr.heap.size S rfl ((AtB.new _ _ _).cell (i := 0) rfl) hl1 (le_al HNB.out _) ?_; intro A4 c4 w4' h41 h42; have HO4 := Lib.hid h41; have hc4 := (Chs.of_below (fun b => (Value.slice A' (sayL lie S j).length c').ownBlock = some b) (bal1 wr (.cells #[.string S] 9))).trans (Chs.grown h42) (fun b hb => .inl hb); have HC4 := Lib.hid hc4; clear h41 h42 hc4)
                          have hkj := HJ7.out.texts HC4.out (fun b hb => HO.out.block hb)
                          go_roundw
                          case rel => exact ⟨j + 1, A4, c4, by omega, by go_num, rfl, Lib.hid (by rw [HSK.out, HSY.out]; exact HO4.out), Lib.hid hkj⟩
                          case measure => simp [intOf]; omega
                      · obtain rfl : j = n := by omega
                        have cs := swin_any A' c' (sayL lie S j) ((f : Int) + 1) wr (by rw [sayL_length]; exact n7) HO.out.strs
                        rw [sayL_length, swV_parts] at cs
                        have hor := winE_or (sayL lie S j) ((f : Int) + 1)
                        generalize winS (sayL lie S j) ((f : Int) + 1) = ws at *
                        generalize winE (sayL lie S j) ((f : Int) + 1) = we at *
                        have CS := Lib.hid cs
                        clear cs
                        rcases hor with rfl | rfl
                        all_goals
                          go_wp2_with (go_at_call 18; refine CS.out.mono ?_; rintro e w8 ⟨rfl, hb8⟩)
                          go_meet
                          case rel => exact ⟨by rw [HE.out], by rw [HS.out], g3, h3, by rw [HC.out]; exact Lib.hid (HJ7.out.keep hb8)⟩
                  · rw [if_neg e0] at hE hS
                    have q1 : (doE (X.map (·.1)) s a == 0) = false := beq_eq_false_iff_ne.2 e0
                    rw [doS_no e0] at crd
                    have HE := Lib.hid hE; have HS := Lib.hid hS; have CRD := Lib.hid crd
                    clear hE hS hC crd e0 hds
                    obtain ⟨x, q', d, t⟩ := a
                    simp only [akv] at *
                    generalize doC (X.map (·.1)) s ⟨x, q', d, t⟩ = s' at *
                    generalize doE (X.map (·.1)) s ⟨x, q', d, t⟩ = E at *
                    go_wp2_with (go_at_call 10; refine CRD.out.mono ?_; rintro e w6 ⟨rfl, g3, h3, hca, hka, hna, hma⟩; have HJ6 := Lib.hid (HJ.out.ref hca hka hna hma); clear hca hka hna hma)
                    go_meet
                    case rel => exact ⟨by rw [HE.out], by rw [HS.out], g3, h3, by rw [HC.out]; exact HJ6⟩
              case rest =>
                obtain ⟨rfl, rfl, g3, h3, HJ6⟩ := hcut
                obtain ⟨w6, hw⟩ : ∃ w6 : World, w6 = wc := ⟨_, rfl⟩
                subst hw
                clear HJ
                have hcn := wantC_n (X.map (·.1)) s a lie n
                have cd := crdo_want HJ6.out.c n1 n7 (fun W' h => HTT.out W' (HJ6.out.b.trans h)) (by omega) a B C (Nat.le_trans HB1.out HB2.out) HOKT.out HW2.out (HVIN.out w6 HJ6.out.b) LA lc lie (fun W hk => HL.out.below (HJ6.out.b.trans (hk.below (fun b hb => (HJ6.out.c.mine b hb).1) HJ6.out.c.hb)) (Nat.le_refl _)) HLS.out
                obtain ⟨d0, d1, d2, d3⟩ := HCELL.out w6 HJ6.out.b
                have CD := Lib.hid cd; have HCN := Lib.hid hcn
                clear cd hcn
                obtain ⟨x, q', d, t⟩ := a
                simp only [akv] at *
                generalize wantE (X.map (·.1)) s ⟨x, q', d, t⟩ lie n = E1 at *
                generalize wantS (X.map (·.1)) s ⟨x, q', d, t⟩ lie n = S1 at *
                generalize wantC (X.map (·.1)) s ⟨x, q', d, t⟩ lie n = s' at *
                have qS := str_same S1
                have vv : (mkV s' == mkV s') = true := beq_self_eq_true _
                have nn : (((s'.n : Nat) : Int) == ((s'.n : Nat) : Int)) = true := beq_self_eq_true _
                go_wp2_with (first
                  | (go_at_call 19; refine CD.out.mono ?_; rintro e w7 ⟨rfl, D', hcb, hkb, hnb⟩; have HJ7 := Lib.hid (HJ6.out.crowd hcb hkb hnb); clear hcb hkb hnb)
                  | (go_at_call 8; refine (same_eW E1 _ HJ7.out.hg).mono ?_; rintro e w8 ⟨rfl, hb8⟩; have HJ8 := Lib.hid (HJ7.out.keep hb8); clear hb8)
                  | (go_at_call 13; refine (rcmark_any HJ8.out.r).mono ?_; rintro e w9 ⟨rfl, hb9⟩; have HJ9 := Lib.hid (HJ8.out.keep hb9); clear hb9))
                go_loopw [12, 28, 29, 30, 31] (fun _ s28 _ _ _ wx => ∃ (z : Int), -1 ≤ z ∧ z ≤ n + 1 ∧ s28 = .int .i64 z ∧ Hid (KJ w wx p A1 c1 n D' (X.map (·.1)) s' p2 q2 g3 h3 s')) (fun _ s28 _ _ _ _ => ((n : Int) + 1 - intOf s28).toNat)
                case atStart => exact ⟨-1, by omega, by omega, rfl, HJ9⟩
                case round =>
                  clear HJ6 HJ7 HJ8 HJ9
                  obtain ⟨z, hz1, hz2, rfl, HJ⟩ := hrel
                  by_cases hzn : z ≤ n
                  · have cm := crmark_any HJ.out.c (fun W' h => HTT.out W' (HJ.out.b.trans h)) z n7
                    by_cases h0 : 0 ≤ z ∧ z < n
                    · obtain ⟨h1, h2⟩ := h0
                      rw [if_pos ⟨h1, h2⟩] at cm
                      have CM_ := Lib.hid cm
                      clear cm
                      have z1 : decide (z < 0) = false := by simp; omega
                      have z2 : decide ((n : Int) ≤ z) = false := by simp; omega
                      go_wp2_with (go_at_call 20; refine CM_.out.mono ?_; rintro e w7 ⟨rfl, hb7⟩)
                      go_roundw
                      case rel => exact ⟨z + 1, by omega, by omega, by go_num, Lib.hid (HJ.out.keep hb7)⟩
                      case measure => simp [intOf]; omega
                    · rw [if_neg h0] at cm
                      have CM_ := Lib.hid cm
                      have hx : decide (z < 0) = true ∨ (decide (z < 0) = false ∧ decide ((n : Int) ≤ z) = true) := by
                        simp only [decide_eq_true_eq, decide_eq_false_iff_not]; omega
                      clear cm h0
                      rcases hx with x1 | ⟨x1, x2⟩
                      all_goals
                        go_wp2_with (first
                          | (go_at_call 20; refine CM_.out.mono ?_; rintro e w7 ⟨rfl, hb7⟩; have HJ7 := Lib.hid (HJ.out.keep hb7); clear hb7)
                          | (go_at_call 8; refine (same_errW 1 _ HJ7.out.hg).mono ?_; rintro e w8 ⟨rfl, hb8⟩))
                        go_roundw
                        case rel => exact ⟨z + 1, by omega, by omega, by go_num, Lib.hid (HJ7.out.keep hb8)⟩
                        case measure => simp [intOf]; omega
                  · have z1 : decide (z ≤ (n : Int)) = false := by simp; omega
                    go_wp2_with fail
                    go_roundw
                    case rel => exact ⟨k + 1, D', g3, h3, s', by omega, by omega, Nat.le_trans HCN.out (by omega), by go_num, HJ⟩
                    case measure => simp [intOf]; omega
          · have hf : decide ((k : Int) < 30) = false := by simp; omega
            go_wp2_with fail
            go_ret
            exact ⟨rfl, HJ.out.b⟩
        · have hf : decide ((k : Int) < (l.length : Nat)) = false := by simp; omega
          go_wp2_with fail
          go_ret
          exact ⟨rfl, HJ.out.b⟩
    · have cn := fun (W : World) (hW : Below w.heap.size w W) => crnew_rules n n1 n7 RA rc (X.map (·.1)) HMR.out W ((HX.out.below (Nat.le_refl _) hW).rls) er HOKR.out
      simp only [List.length_map] at cn
      have q1 : (rulE (X.map (·.1)) != 0) = true := bne_iff_ne.2 er
      have CSR := Lib.hid csr; have CN := Lib.hid cn
      clear csr cn er hN7
      generalize rulE (X.map (·.1)) = E at *
      go_enter Tryz.func4, Tryz.ntmps4
      go_wp2_with (first
        | (go_at_call 6; refine CSR.out.mono ?_; rintro e w1 ⟨rfl, hb1⟩; have HB1 := Lib.hid hb1; clear hb1)
        | (go_at_call 16; refine (CN.out _ HB1.out).mono ?_; rintro e w2 ⟨rfl, hb2⟩; have HB2 := Lib.hid (bcl HB1.out hb2); clear hb2)
        | (go_at_call 8; refine (same_errW E _ (HG0.out.below HB2.out)).mono ?_; rintro e w3 ⟨rfl, hb3⟩; have HB3 := Lib.hid (bcl HB2.out hb3); clear hb3))
      go_ret
      exact ⟨rfl, HB3.out⟩
  · have hcb : copB N = false := by rw [← Bool.not_eq_true, copB_true]; exact hN7
    have hx : decide (N < 1) = true ∨ (decide (N < 1) = false ∧ decide (7 < N) = true) := by
      simp only [decide_eq_true_eq, decide_eq_false_iff_not]; omega
    have CN := Lib.hid (fun W => crnew_range N hcb RA X.length rc W)
    clear hcb hN7 csr
    rcases hx with x1 | ⟨x1, x2⟩
    all_goals
      go_enter Tryz.func4, Tryz.ntmps4
      go_wp2_with (first
        | (go_at_call 16; refine (CN.out _).mono ?_; rintro e w2 ⟨rfl, rfl⟩)
        | (go_at_call 8; refine (same_errW 1 _ HG0.out).mono ?_; rintro e w3 ⟨rfl, hb3⟩))
      go_ret
      exact ⟨rfl, hb3⟩
end Go.Proofs.YthkaaheeblehhaaGreatDoor.crowdPlays
