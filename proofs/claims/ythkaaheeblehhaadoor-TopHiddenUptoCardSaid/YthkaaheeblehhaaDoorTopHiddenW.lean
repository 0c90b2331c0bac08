/- TopHidden: the walk, of a text that is not too long. -/
import Derived.Test.YthkaaheeblehhaaDoorThLaw
import Derived.Test.YthkaaheeblehhaaDoorDoorT
import Derived.WalkKit
import Derived.WalkLawsBesides
import Derived.WalkSpells
import Derived.RegionTactic
import Derived.Deep.QuietTactic
import Derived.BigQuiet
import Derived.Deep.CutBlock
import Derived.Deep.DeepCutAuto
import Derived.Outline
namespace Go.Proofs.YthkaaheeblehhaaDoor.topHidden
open Go.ChangeShapes Go.WideShapes Go.ChangeAt Go.RowKit Go.Joins Go.Deep
set_option linter.unusedVariables false

set_option maxHeartbeats 1600000 in
set_option maxRecDepth 100000 in
theorem walk (w : World) (ht : TT w) (A : Option Addr) (c : Nat) (t : List Va) (hc : t.length ≤ c) (hm : c ≤ maxLen) (hA : Vals w A t) (hok : okL t) (B : Option Addr) (c2 : Nat) (l : List Va) (hc2 : l.length ≤ c2) (hm2 : c2 ≤ maxLen) (hB : Vals w B l) (hokl : okL l)
    (S : Option Addr) (d : Nat) (s : List Int) (hc3 : s.length ≤ d) (hm3 : d ≤ maxLen) (hS : Ints w S s) (_ : ∀ i, i < s.length → I64 (gi s i)) (tx : ByteArray) (htx : tx.size ≤ maxLen) (hup : tx.size ≤ 1048576)
    (C : Option Addr) (f : Nat) (r : List Int) (hc4 : r.length ≤ f) (hm4 : f ≤ maxLen) (hC : Ints w C r) (_ : ∀ i, i < r.length → I64 (gi r i)) (hrl : r.length ≤ 1048576) :
    Calls Tryd.prog 7 #[.slice A t.length c, .slice B l.length c2, .slice S s.length d, .string tx, .slice C r.length f] w fun e w' => e = .returned (.bool true) ∧ Below w.heap.size w w' := by
  have m1 : t.length ≤ maxLen := by omega
  have m2 : l.length ≤ maxLen := by omega
  have m3 : s.length ≤ maxLen := by omega
  have a : ∀ W, Below w.heap.size w W → Vals W A t := fun W hb => hA.below hb (Nat.le_refl _)
  have b : ∀ W, Below w.heap.size w W → Vals W B l := fun W hb => hB.below hb (Nat.le_refl _)
  have i : ∀ W, Below w.heap.size w W → Ints W S s := fun W hb => hS.below hb (Nat.le_refl _)
  have r4 : ∀ W, Below w.heap.size w W → Ints W C r := fun W hb => hC.below hb (Nat.le_refl _)
  have tt : ∀ W, Below w.heap.size w W → TT W := fun W hb => tab_stays (g := 2) (by kernel_rfl) ht hb (Nat.le_refl _)
  have HAA := Lib.hid a; have HBB := Lib.hid b; have HII := Lib.hid i; have HRR := Lib.hid r4; have HTT := Lib.hid tt
  have hrc := And.intro hc4 hm4
  have HRC := Lib.hid hrc
  clear a b i r4 tt hA hB hS hC ht hrc
  by_cases h1 : ctE t s = 0
  · have c1 := fun W hb => cotuple_ok A c t S d s m1 m3 hok W (HTT.out W hb) (HAA.out W hb) (HII.out W hb) h1
    obtain ⟨e1, e2⟩ := ctE_zero h1
    have hl1 : (covL t s Va.zero).length = t.length := covL_length _ _ _
    have hte := tu_cov (s := s) e1
    have hoc := okL_cov (t := t) (s := s) (cl := Va.zero) (tuE_zero e1).1 (by decide)
    have hput : putE [] (covL t s Va.zero) = 0 := by rw [putE, if_neg (by simp [hte]), if_neg (by decide)]
    have cp := fun (W : World) (hb : Below w.heap.size w W) (p : Nat) (X : Option Addr) (n : Nat) (hSp : Spc W w.heap.size p none []) (hX : Vals W X (covL t s Va.zero)) => spput_any w.heap.size p none [] X n (covL t s Va.zero) (by rw [hl1]; exact m1) hoc W hSp hX
    simp only [putL, hput, eV_zero, hl1, List.nil_append, if_true] at cp
    have cf := fun (W : World) (hb : Below w.heap.size w W) => tfits_any B c2 l A c t m2 m1 hokl hok W (HBB.out W hb) (HAA.out W hb)
    have cl := fun (W : World) (hb : Below w.heap.size w W) => (show Calls Tryd.prog 23 #[.slice B l.length c2, .slice S s.length d] W fun e w' => ∃ A' n' c', e = .returned (.tuple #[.slice A' n' c', eV (clE l s)]) ∧ (clE l s = 0 → n' = l.length ∧ Vals w' A' (covL l s starV)) ∧ Below W.heap.size W w' from by
      by_cases h2 : clE l s = 0
      · rw [h2, eV_zero]
        exact (colike_ok B c2 l S d s m2 m3 hokl W (HTT.out W hb) (HBB.out W hb) (HII.out W hb) h2).mono fun e w' ⟨A', c', k1, k2, k3⟩ => ⟨A', _, c', k1, fun _ => ⟨rfl, k2.vals⟩, k3⟩
      · rw [eV_of h2]
        exact (colike_no B c2 l S d s m2 m3 hokl W (HBB.out W hb) (HII.out W hb) h2).mono fun e w' ⟨k1, k2⟩ => ⟨none, 0, 0, k1, fun h => absurd h h2, k2⟩)
    have CT_ := Lib.hid c1; have CP := Lib.hid cp; have CF := Lib.hid cf; have CL := Lib.hid cl; have HOC := Lib.hid hoc; have HL1 := Lib.hid hl1; have HE1 := Lib.hid e1
    clear c1 cp cf cl hput hte hoc hl1 h1 e1 e2
    go_enter Tryd.func7, Tryd.ntmps7
    go_upto_region 12 with (first
      | (go_at_call 18; refine (topOne.one_any _).mono ?_; rintro e w1 ⟨rfl, hb1⟩; have HB1 := Lib.hid hb1; clear hb1)
      | (go_at_call 19; refine (CT_.out _ HB1.out).mono ?_; rintro e w2 ⟨X, cx, rfl, ho2, hb2⟩; have HO2 := Lib.hid ho2; have HB2 := Lib.hid (bcl HB1.out hb2); clear ho2 hb2)
      | (go_at_call 20; refine (spnew _).mono ?_; rintro e w3 ⟨rfl, hw3⟩; have hb3 : Below w2.heap.size w2 w3 := (by rw [hw3]; exact bal1 _ _); have HS3 := Lib.hid (show Spc w3 w.heap.size w2.heap.size none [] by rw [hw3]; exact Spc.new w2 HB2.out.size); have HB3 := Lib.hid (bcl HB2.out hb3); have HX3 := Lib.hid (show Vin w3 w.heap.size X (covL t s Va.zero) from ⟨(HO2.out.keep hb3).vals, fun _ => Inn.own (HO2.out.keep hb3)⟩); clear hw3 hb3)
      | (go_at_call 21; refine (CP.out _ HB3.out _ _ _ HS3.out HX3.out.1).mono ?_; rintro e w4 ⟨rfl, g4, hs4, hg4, _⟩; have HS4 := Lib.hid hs4; have HX4 := Lib.hid (HX3.out.chg HS3.out hg4); have HB4 := Lib.hid (HB3.out.trans (HS3.out.below hg4)); clear hs4 hg4)
      | (go_at_call 22; refine (CF.out _ HB4.out).mono ?_; rintro e w5 ⟨rfl, hb5⟩; have HS5 := Lib.hid (HS4.out.keep hb5); have HX5 := Lib.hid (HX4.out.below hb5 (Nat.le_refl _) HS4.out.hb); have HB5 := Lib.hid (bcl HB4.out hb5); clear hb5)
      | (go_at_call 23; refine (CL.out _ HB5.out).mono ?_; rintro e w6 ⟨Y, ny, cy, rfl, hy6, hb6⟩; have HY6 := Lib.hid hy6; have HS6 := Lib.hid (HS5.out.keep hb6); have HX6 := Lib.hid (HX5.out.below hb6 (Nat.le_refl _) HS5.out.hb); have HB6 := Lib.hid (bcl HB5.out hb6); clear hy6 hb6))
    clear HB1 HO2 HB2 HS3 HB3 HX3 HS4 HX4 HB4 HS5 HX5 HB5 CT_ CP CF CL
    obtain ⟨bis, hbis⟩ : ∃ x : Bool, x = (decide (tfE l t = 0) && fitB l t) := ⟨_, rfl⟩
    have hli : clE l s = 0 → liE l = 0 := fun h => (clE_zero h).1
    rw [← hbis]
    have hfit : bis = true → fitB l t = true := fun h => by rw [h] at hbis; have := hbis.symm; rw [Bool.and_eq_true] at this; exact this.2
    generalize tfE l t = E1 at *
    generalize clE l s = E2 at *
    have HLI := Lib.hid hli; have HFIT := Lib.hid hfit
    clear hli hfit hbis
    go_cut [13, 16, 42, 45, 47, 48, 51, 53, 59] (fun _ _ _ _ _ _ _ _ s59 wx => s59 = .bool (decide (E1 = 0) && decide (E2 = 0)) ∧ wx = w6)
    case first =>
      by_cases z1 : E1 = 0
      · subst z1
        rw [eV_zero]
        by_cases z2 : E2 = 0
        · subst z2
          rw [eV_zero]
          go_wp2_with fail
          go_meet
          case rel => exact ⟨by first | rfl | simp, by first | rfl | trivial⟩
        · rw [eV_of z2]
          go_wp2_with fail
          go_meet
          case rel => exact ⟨by first | rfl | (simp [z2]; done), by first | rfl | trivial⟩
      · rw [eV_of z1]
        go_wp2_with fail
        go_meet
        case rel => exact ⟨by first | rfl | (simp [z1]; done), by first | rfl | trivial⟩
    case rest =>
      obtain ⟨rfl, rfl⟩ := hcut
      obtain ⟨w7, hw⟩ : ∃ w7 : World, w7 = wc := ⟨_, rfl⟩
      subst hw
      go_upto_if 59 with fail
      go_cut [18, 19] (fun _ _ wx => Hid (Below w.heap.size w wx))
      case first =>
        by_cases z : E1 = 0 ∧ E2 = 0
        · obtain ⟨z1, z2⟩ := z
          have hsl : (decide (E1 = 0) && decide (E2 = 0)) = true := by simp [z1, z2]
          obtain ⟨hny, hvy⟩ := HY6.out z2
          subst hny
          have hly := li_cov (s := s) (cl := starV) (HLI.out z2) (by decide)
          have hoy := okL_cov (t := l) (s := s) (cl := starV) (HLI.out z2) (by decide)
          have hl2 : (covL l s starV).length = l.length := covL_length _ _ _
          have cr := spread_1 w2.heap.size g4 (covL t s Va.zero) Y cy (covL l s starV) (by rw [hl2]; exact m2) hoy w7 HS6.out hvy
          rw [hl2] at cr
          rw [hsl]
          cases bis with
          | true =>
            have hfx := fit_cov (s := s) (HFIT.out rfl)
            have hf0 := fin_one1 hly hfx
            rw [hf0, rT1, if_pos hf0, eV_zero, HL1.out] at cr
            have cst := fun (W : World) (D : Option Addr) (n : Nat) (h1 : Vals W D (covL t s Va.zero)) (h2 : Vals W X (covL t s Va.zero)) => same_tuple D X n cx (covL t s Va.zero) (covL t s Va.zero) W h1 h2 (by rw [HL1.out]; exact m1)
            simp only [HL1.out, decide_true] at cst
            have CR := Lib.hid cr; have CST := Lib.hid cst
            clear cr cst hly hoy hl2 hvy hfx hf0 hsl z1 z2
            go_wp2_with (first
              | (go_at_call 24; refine CR.out.mono ?_; rintro e w8 ⟨D, n8, rfl, hv8, hb8⟩; have HV8 := Lib.hid hv8; have HX8 := Lib.hid (HX6.out.below hb8 (Nat.le_refl _) HS6.out.hb); have HB8 := Lib.hid (bcl HB6.out hb8); clear hv8 hb8)
              | (go_at_call 25; refine (CST.out _ _ _ HV8.out HX8.out.1).mono ?_; rintro e w9 ⟨rfl, hb9⟩))
            go_meet
            case rel => exact Lib.hid (by first | exact bcl HB8.out hb9 | exact HB8.out)
          | false =>
            have CR := Lib.hid cr
            clear cr hly hoy hl2 hvy hsl z1 z2
            go_wp2_with (go_at_call 24; refine CR.out.mono ?_; rintro e w8 ⟨D, n8, rfl, _, hb8⟩)
            go_meet
            case rel => exact Lib.hid (bcl HB6.out hb8)
        · have hsl : (decide (E1 = 0) && decide (E2 = 0)) = false := by
            rw [← Bool.not_eq_true, Bool.and_eq_true, decide_eq_true_eq, decide_eq_true_eq]; exact z
          rw [hsl]
          clear z hsl
          go_wp2_with fail
          go_meet
          case rel => exact HB6
      case rest =>
        have HB8 := hcut
        obtain ⟨w8, hw⟩ : ∃ w8 : World, w8 = wc := ⟨_, rfl⟩
        subst hw
        clear hcut HY6 HS6 HX6 HB6 HLI HFIT
        go_wp2_with fail
        go_loopw [20, 21] (fun s20 s21 wr => ∃ (k : Nat) (A7 : Option Addr) (c7 : Nat), k ≤ tx.size ∧ s21 = .int .i64 k ∧ s20 = .slice A7 k c7 ∧ Hid (Rep wr w8.heap.size (.slice C r.length f) A7 c7 k) ∧ Hid (Below w8.heap.size w8 wr)) (fun _ s21 _ => tx.size - (intOf s21).toNat)
        case atStart => exact ⟨0, none, 0, Nat.zero_le _, rfl, rfl, Lib.hid Win.nil, Lib.hid (Below.refl _ _)⟩
        case round =>
          obtain ⟨k, A7, c7, hk, rfl, rfl, HR, HBL⟩ := hrel
          by_cases hlt : k < tx.size
          · have i0 : (0 : Int) ≤ (k : Int) := by omega
            have i1 : (k : Int) < (tx.size : Nat) := by omega
            have hk2 : k ≤ 2000000 := by omega
            go_wp2_with (at_builtin; refine wpList_append_rep rfl _ _ rfl w8.heap.size (.slice C r.length f) A7 c7 k rfl (HR.out.alloc _) wr.heap.size rfl ((AtB.new _ _ _).cell (i := 0) rfl) rfl hk2 (le_al HBL.out.size _) ?_; intro A9 c9 w9 h1 h2; have HR9 := Lib.hid h1; have HB9 := Lib.hid ((bal HBL.out _).trans h2); clear h1 h2)
            go_roundw
            case rel => exact ⟨k + 1, A9, c9, by omega, by go_num, rfl, HR9, HB9⟩
            case measure => simp [intOf]; omega
          · obtain rfl : k = tx.size := by omega
            have hbw := HB8.out.trans (HBL.out.mono HB8.out.size)
            have hmr := HRR.out wr hbw
            have hM := HR.out.many hmr HRC.out.1 HRC.out.2
            have HBW := Lib.hid hbw
            have hcs := seal_split tx A7 c7 (List.replicate tx.size r) ((r.length : Int) + 1) htx (by rw [List.length_replicate]; exact htx)
            rw [List.length_replicate] at hcs
            rcases hcs with hs | ⟨h12, _, hok2, hs⟩
            · have cs := hs wr hM
              have CS := Lib.hid cs
              clear cs hs hM hmr hbw
              go_wp2_with (go_at_call 26; refine CS.out.mono ?_; rintro e w9 ⟨hb9, E, rfl⟩)
              go_ret
              exact ⟨rfl, bcl HBW.out hb9⟩
            · have cs := hs wr hM
              by_cases h0 : tx.size = 0
              · have CS := Lib.hid cs
                have q0 : (((tx.size : Nat) : Int) == 0) = true := beq_iff_eq.2 (by omega)
                clear cs hs hM hmr hbw hok2 h0
                go_wp2_with (go_at_call 26; refine CS.out.mono ?_; rintro e w9 ⟨hb9, A9, c9, rfl, _⟩)
                go_ret
                exact ⟨rfl, bcl HBW.out hb9⟩
              · have hg : ∀ i, i < tx.size → gg (List.replicate tx.size r) i = r := fun i hi => by simp [gg, hi]
                have hsh := hok2 0 (by omega)
                rw [hg 0 (by omega)] at hsh
                have hn7 := manB_true.1 (shE_zero hsh).2.2.2.1
                have hr6 : r.length ≤ 6 := by omega
                have e1 : ((r.length : Int) + 1).toNat = r.length + 1 := by omega
                rw [e1, seal_mid] at cs
                obtain ⟨hbt, htxt⟩ := back_text tx (List.replicate tx.size r) (r.length + 1) 0 (r.length + 1) (by omega) (by omega) (by omega) (fun i hi => by rw [hg i hi]; exact Nat.le_refl _)
                have hl0 : gg (midL tx (List.replicate tx.size r) (r.length + 1) 0 (r.length + 1) tx.size) 0 = mid (gB tx 0 :: r) (r.length + 1) 0 (r.length + 1) := by rw [midL_at _ _ _ _ _ _ _ (by omega), hg 0 (by omega)]
                have hl0l : (mid (gB tx 0 :: r) (r.length + 1) 0 (r.length + 1)).length = r.length + 1 := mid_length (by omega)
                have hLl := midL_length tx (List.replicate tx.size r) (r.length + 1) 0 (r.length + 1) tx.size
                generalize midL tx (List.replicate tx.size r) (r.length + 1) 0 (r.length + 1) tx.size = L at *
                generalize mid (gB tx 0 :: r) (r.length + 1) 0 (r.length + 1) = l0 at *
                have co := fun (W : World) (X : Option Addr) (n : Nat) (hX : Many Shares W X L) => open_any X n L ((r.length + 1 : Nat) : Int) (by omega) tx.size (by omega) hbt (.inl hLl.symm) W hX
                have co1 := fun (W : World) (X : Option Addr) (n : Nat) (hX : Many Shares W X L) => (co W X n hX).mono (R' := fun e w' => e = .returned (.tuple #[.string tx, .nilIface]) ∧ Below W.heap.size W w') fun e w' ⟨k1, k2⟩ => by
                  rcases k2 with ⟨_, k2⟩ | ⟨k2, _⟩
                  · rw [hLl, htxt] at k2; exact ⟨k2, k1⟩
                  · omega
                have cf := fun (W : World) (X : Option Addr) (n : Nat) (hX : Many Shares W X [l0.drop 1]) => (open_any X n [l0.drop 1] ((r.length + 1 : Nat) : Int) (by simp) 0 (by simp) (fun i hi => absurd hi (by omega)) (.inr (few _ (r.length + 1) (by rw [List.length_drop, hl0l]; omega))) W hX).mono (R' := fun e w' => (∃ E, e = .returned (.tuple #[.string ByteArray.empty, errV E])) ∧ Below W.heap.size W w') fun e w' ⟨k1, k2⟩ => by
                  rcases k2 with ⟨k2, _⟩ | ⟨_, k2⟩
                  · simp at k2
                  · exact ⟨⟨_, k2⟩, k1⟩
                rw [hLl] at co1
                simp only [Int.natCast_add, Int.natCast_one] at co1 cf
                have CS := Lib.hid cs; have CO := Lib.hid co1; have CF := Lib.hid cf; have HL0 := Lib.hid hl0; have HL0L := Lib.hid hl0l
                have q0 : (((tx.size : Nat) : Int) == 0) = false := beq_eq_false_iff_ne.2 (by omega)
                have qt := str_same tx
                have hz1 : (0 : Int) < (tx.size : Nat) := by omega
                have hLp := Lib.hid (show 0 < L.length by omega)
                clear cs co co1 cf hl0 hl0l hs hM hmr hbw hok2 h0 hg hsh hn7 e1 hbt htxt hLl h12
                go_upto_region 25 with (first
                  | (go_at_call 26; refine CS.out.mono ?_; rintro e w9 ⟨hb9, A9, c9, rfl, ho9⟩; have HM9 := Lib.hid ho9.many; have HB9 := Lib.hid (bcl HBW.out hb9); clear hb9 ho9)
                  | (go_at_call 27; refine (CO.out _ _ _ HM9.out).mono ?_; rintro e w10 ⟨rfl, hb10⟩; have HM10 := Lib.hid (many_shares_below HM9.out hb10); have HB10 := Lib.hid (bcl HB9.out hb10); clear hb10))
                obtain ⟨b1, o1, B0, C0, rfl, hbl, hcl, hq, hq1, hq2⟩ := HM10.out.at_ (i := 0) hLp.out
                rw [HL0.out, HL0L.out, Nat.add_zero] at hcl
                rw [HL0.out] at hq hq1
                rw [HL0L.out] at hq1
                have HQ := Lib.hid hq
                have r1 : (1 : Int) ≤ ((r.length + 1 : Nat) : Int) := by omega
                have r2 : ((r.length + 1 : Nat) : Int) ≤ (C0 : Nat) := by omega
                have hc63 : (C0 : Int) ≤ 9223372036854775807 := by unfold maxLen at hq2; omega
                obtain ⟨b2, o2, rfl, hb2, _⟩ := hq (by rw [HL0L.out]; omega)
                clear hq
                have mk : ∀ (B' : Option Addr) (n' : Nat), n' = (l0.drop 1).length → ∀ C' : Nat, n' ≤ C' → C' ≤ maxLen → Shares w10 B' (l0.drop 1) → Many Shares (w10.alloc (.cells #[.slice B' n' C'] 70)) (some ⟨w10.heap.size, 0, none⟩) [l0.drop 1] := by
                  rintro B' _ rfl C' k1 k2 k3
                  exact one_many (Q := Shares) w10 B' (l0.drop 1) C' 70 rfl (Sl.alloc k3 _) k1 k2
                have hdl : (l0.drop 1).length = r.length := by rw [List.length_drop, HL0L.out]; omega
                have MK := Lib.hid mk; have HDL := Lib.hid hdl
                clear mk hdl hb2 hbl
                by_cases hC1 : C0 = 1
                · subst hC1
                  have hr0 : r.length = 0 := by omega
                  have cf0 : ∀ (W : World) (X : Option Addr) (n : Nat) (hX : Many Shares W X [l0.drop 1]), Calls Tryd.prog 27 #[.slice X 1 n, .int .i64 1] W fun e w' => (∃ E, e = .returned (.tuple #[.string ByteArray.empty, errV E])) ∧ Below W.heap.size W w' := fun W X n hX => by
                    have h := CF.out W X n hX
                    rw [hr0] at h
                    exact h
                  have CF0 := Lib.hid cf0
                  clear cf0 CF
                  go_wp2_with fail
                  refine (CF0.out _ _ _ (MK.out _ 0 (by rw [HDL.out, hr0]) 0 (Nat.le_refl _) (Nat.zero_le _) (fun h0 => by rw [HDL.out, hr0] at h0; omega))).mono ?_
                  rintro e w11 ⟨⟨E, rfl⟩, hb11⟩
                  go_wp2_with fail
                  go_ret
                  exact ⟨rfl, bcl (bal HB10.out _) hb11⟩
                · go_wp2_with fail
                  refine (CF.out _ _ _ (MK.out _ r.length HDL.out.symm (C0 - 1) (by omega) (by omega) ?_)).mono ?_
                  · intro h0
                    rw [HDL.out] at h0
                    obtain ⟨b3, o3, e3, _, hs3⟩ := Shares.drop HQ.out (i := 1) (by rw [HL0L.out]; omega)
                    injection e3 with e3
                    injection e3 with e3 e4
                    subst e3 e4
                    exact hs3 (by rw [HDL.out]; exact h0)
                  rintro e w11 ⟨⟨E, rfl⟩, hb11⟩
                  go_wp2_with fail
                  go_ret
                  exact ⟨rfl, bcl (bal HB10.out _) hb11⟩
  · have c1 := fun (W : World) (hb : Below w.heap.size w W) => cotuple_no A c t S d s m1 m3 hok W (HAA.out W hb) (HII.out W hb) h1
    generalize ctE t s = E at *
    have CN := Lib.hid c1
    clear c1 h1
    go_enter Tryd.func7, Tryd.ntmps7
    go_wp2_with (first
      | (go_at_call 18; refine (topOne.one_any _).mono ?_; rintro e w1 ⟨rfl, hb1⟩)
      | (go_at_call 19; refine (CN.out _ hb1).mono ?_; rintro e w2 ⟨rfl, hb2⟩))
    go_ret
    exact ⟨rfl, bcl hb1 hb2⟩
end Go.Proofs.YthkaaheeblehhaaDoor.topHidden
