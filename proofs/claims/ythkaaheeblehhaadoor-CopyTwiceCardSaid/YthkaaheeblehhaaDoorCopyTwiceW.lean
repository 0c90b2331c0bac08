/- CopyTwice: the walk. -/
import Derived.Test.YthkaaheeblehhaaDoorCpTwo
import Derived.Test.YthkaaheeblehhaaDoorRSpace
import Derived.WalkKit
import Derived.WalkLawsBesides
import Derived.WalkSpells
import Derived.RegionTactic
import Derived.Deep.QuietTactic
import Derived.BigQuiet
import Derived.Outline
namespace Go.Proofs.YthkaaheeblehhaaDoor.copyTwice
open Go.ChangeShapes Go.WideShapes Go.ChangeAt Go.RowKit Go.Joins Go.Deep
set_option linter.unusedVariables false

def star : List Va := [⟨2, 0, ⟨#[]⟩⟩]
def R1 : List Ru := [⟨0, -1, star, true⟩, ⟨2, -1, star, true⟩]
def one4 : List Va := [⟨0, 4, ⟨#[]⟩⟩]
def a1 : Ak := ⟨1, 1, 0, one4⟩
def a2 : Ak := ⟨1, 2, 2, star⟩
def S1 : Cs := doC R1 Cs.zero a1
def S2 : Cs := doC R1 S1 a2
theorem r1 : rulE R1 = 0 := by rfl
theorem e1 : doE R1 Cs.zero a1 = 0 := by rfl
theorem t1 : doS R1 Cs.zero a1 = ⟨#[111, 107]⟩ := by rfl
theorem e2 : doE R1 S1 a2 = 0 := by rfl
theorem w4 : lin one4 = ⟨#[52]⟩ := by
  have hw : wrd ⟨0, 4, ⟨#[]⟩⟩ = ⟨#[52]⟩ := by rw [wrd, if_pos rfl]; show ByteArray.mk (Lib.itoa ((4 : Nat) : Int)).toArray = _; rw [Lib.itoa_nonneg, Lib.decDigits_one (by omega)]; rfl
  have : lin one4 = wrd ⟨0, 4, ⟨#[]⟩⟩ := jn_one _ _
  rw [this, hw]
theorem ag1 : agB S1 a2 = false := by rfl
theorem t2 : doS R1 S1 a2 = ⟨#[52]⟩ := by
  rw [doS_new e2 ag1, ← w4]; rfl
theorem n2 : S2.n = 2 := by
  have : S2 = ⟨nwL S1 a2, fun y => if y = a2.w then (a2.q, nwS S1 a2) else S1.F y, S1.n + 1⟩ := doC_new e2 ag1
  rw [this]; rfl
theorem ok4 : okL one4 := fun i hi => by
  obtain rfl : i = 0 := by simpa [one4] using hi
  decide
theorem okS : okL star := fun i hi => by
  obtain rfl : i = 0 := by simpa [star] using hi
  decide
theorem okR1 : okR R1 := fun i hi => by
  have : i = 0 ∨ i = 1 := by simp [R1] at hi; omega
  rcases this with rfl | rfl
  · exact ⟨okS, by show I64 _; unfold I64; decide, by show I64 _; unfold I64; decide⟩
  · exact ⟨okS, by show I64 _; unfold I64; decide, by show I64 _; unfold I64; decide⟩
theorem c1 : Cok S1 := Cok.zero.step ok4
theorem again2 : doE R1 S2 a2 = 0 ∧ doS R1 S2 a2 = ⟨#[52]⟩ ∧ doC R1 S2 a2 = S2 := by
  have h := do_again c1 e2
  exact ⟨h.1, h.2.1.trans t2, h.2.2⟩
theorem doC_n (R : List Ru) (s : Cs) (a : Ak) : (doC R s a).n ≤ s.n + 1 := by
  unfold doC; split
  · omega
  · exact Nat.le_refl _
/-- the two rules, written out -/
theorem rx_lit (W : World) {base b g : Nat} (h : Vin W base (some ⟨b, 0, none⟩) star) (hb : base ≤ W.heap.size) (hg : g = W.heap.size) :
    RX (W.alloc (.cells #[.int .i64 0, .int .i64 (-1), .slice (some ⟨b, 0, none⟩) 1 1, .bool true, .int .i64 2, .int .i64 (-1), .slice (some ⟨b, 0, none⟩) 1 1, .bool true] 42)) base (some ⟨g, 0, none⟩) [(⟨0, -1, star, true⟩, some ⟨b, 0, none⟩, 1), (⟨2, -1, star, true⟩, some ⟨b, 0, none⟩, 1)] := by
  subst hg
  have hv : Vin (W.alloc (.cells #[.int .i64 0, .int .i64 (-1), .slice (some ⟨b, 0, none⟩) 1 1, .bool true, .int .i64 2, .int .i64 (-1), .slice (some ⟨b, 0, none⟩) 1 1, .bool true] 42)) base (some ⟨b, 0, none⟩) star :=
    h.chsV hb (Chs.of_below (fun _ => False) (bal1 _ _)) (fun _ h => h.elim)
  refine ⟨fun _ => ⟨W.heap.size, 0, rfl, by simp, fun j u hj => ?_⟩, fun x hx => ?_⟩
  · have := (AtB.new W #[.int .i64 0, .int .i64 (-1), .slice (some ⟨b, 0, none⟩) 1 1, .bool true, .int .i64 2, .int .i64 (-1), .slice (some ⟨b, 0, none⟩) 1 1, .bool true] 42).cell (i := j) (v := u) (by simpa [rxCells, rxv, star] using hj)
    simpa using this
  · simp at hx
    rcases hx with rfl | rfl
    · exact ⟨hv, by simp [star], (show (1 : Nat) ≤ maxLen by decide)⟩
    · exact ⟨hv, by simp [star], (show (1 : Nat) ≤ maxLen by decide)⟩
theorem lit1 (W : World) (v : Va) {g : Nat} (hg : g = W.heap.size) : Vals (W.alloc (.cells #[.int .i64 v.k, .int .i64 v.n, .string v.s] 40)) (some ⟨g, 0, none⟩) [v] := lit_vals W [v] 40 hg
set_option maxHeartbeats 6400000 in
set_option maxRecDepth 100000 in
theorem walk (w : World) (ht : TT w) (RA : Option Addr) (rc : Nat) (R : List Ru) (hn1 : R.length ≤ rc) (hm1 : rc ≤ maxLen) (hR : Rls w RA R) (hokr : okR R)
    (A : Option Addr) (c : Nat) (l : List Ak) (hn2 : l.length ≤ c) (hm2 : c ≤ maxLen) (hA : Aks w A l) (hok : okA l) :
    Calls Tryd.prog 4 #[.slice RA R.length rc, .slice A l.length c] w fun e w' => e = .returned (.bool true) ∧ Below w.heap.size w w' := by
  obtain ⟨X, rfl, hX⟩ := RX.of_arg hR (Nat.le_refl w.heap.size)
  rw [List.length_map]
  have htt : ∀ W, Below w.heap.size w W → TT W := fun W h => tab_stays (g := 2) (by kernel_rfl) ht h (Nat.le_refl _)
  have cdo := fun (W : World) (hW : Below w.heap.size w W) (R : List Ru) (s : Cs) (p q m : Nat) (g : Option Nat) (hC : Cpy W w.heap.size p q g m R s) (hn : s.n ≤ 1000000) (a : Ak) (A : Option Addr) (c : Nat) (hm : a.t.length ≤ maxLen) (hok : okL a.t) (hq : I64 a.q) (hA : Vals W A a.t) =>
    cpdo_any hC (fun W' h => htt W' (hW.trans h)) hn a A c hm hok hq hA
  have cmk := fun (W : World) (hW : Below w.heap.size w W) (R : List Ru) (s : Cs) (p q m : Nat) (g : Option Nat) (hC : Cpy W w.heap.size p q g m R s) => cpmark_any hC (fun W' h => htt W' (hW.trans h))
  have i64 : ∀ x : Int, 0 ≤ x → x ≤ 2 → I64 x := fun x h1 h2 => WalkArith.wf_i64 (by omega)
  have cd1 := fun (W : World) (hW : Below w.heap.size w W) (p q m : Nat) (g : Option Nat) (hC : Cpy W w.heap.size p q g m R1 Cs.zero) (A : Option Addr) (hA : Vals W A one4) => cdo W hW R1 Cs.zero p q m g hC (by decide) a1 A 1 (by decide) ok4 (i64 _ (by decide) (by decide)) hA
  have cd2 := fun (W : World) (hW : Below w.heap.size w W) (p q m : Nat) (g : Option Nat) (hC : Cpy W w.heap.size p q g m R1 S1) (A : Option Addr) (hA : Vals W A star) => cdo W hW R1 S1 p q m g hC (by decide) a2 A 1 (by decide) okS (i64 _ (by decide) (by decide)) hA
  have cd3 := fun (W : World) (hW : Below w.heap.size w W) (p q m : Nat) (g : Option Nat) (hC : Cpy W w.heap.size p q g m R1 S2) (A : Option Addr) (hA : Vals W A star) => cdo W hW R1 S2 p q m g hC (by rw [n2]; decide) a2 A 1 (by decide) okS (i64 _ (by decide) (by decide)) hA
  have cm1 := fun (W : World) (hW : Below w.heap.size w W) (p q m : Nat) (g : Option Nat) (hC : Cpy W w.heap.size p q g m R1 S2) => cmk W hW R1 S2 p q m g hC
  rw [e1, t1, eV_zero] at cd1
  rw [e2, t2, eV_zero] at cd2
  rw [again2.1, again2.2.1, again2.2.2, eV_zero] at cd3
  rw [n2] at cm1
  have CD1 := Lib.hid cd1; have CD2 := Lib.hid cd2; have CD3 := Lib.hid cd3; have CM1 := Lib.hid cm1; have CDO := Lib.hid cdo; have CMK := Lib.hid cmk
  have HR := Lib.hid hR; have HOKR := Lib.hid hokr; have HA := Lib.hid hA; have HOK := Lib.hid hok; have HTT := Lib.hid htt
  clear cd1 cd2 cd3 cm1 cdo cmk i64 hR hokr hA hok htt ht
  generalize mkV S2 = V2 at *
  have hvS : Vin (w.alloc (.cells #[.int .i64 2, .int .i64 0, .string ⟨#[]⟩] 40)) w.heap.size (some ⟨w.heap.size, 0, none⟩) star := ⟨lit1 w ⟨2, 0, ⟨#[]⟩⟩ rfl, fun _ a ha => .inr (by injection ha with ha; subst ha; exact (AtB.new _ _ _).kin)⟩
  have hb2 := bal (bal1 w (.cells #[.int .i64 2, .int .i64 0, .string ⟨#[]⟩] 40)) (.cells #[.int .i64 0, .int .i64 (-1), .slice (some ⟨w.heap.size, 0, none⟩) 1 1, .bool true, .int .i64 2, .int .i64 (-1), .slice (some ⟨w.heap.size, 0, none⟩) 1 1, .bool true] 42)
  have hx := rx_lit _ hvS (bal1 w (.cells #[.int .i64 2, .int .i64 0, .string ⟨#[]⟩] 40)).size (g := w.heap.size + 1) (by simp)
  have cn1 := cpnew_ok hb2.size (some ⟨w.heap.size + 1, 0, none⟩) 2 _ hx r1 okR1
  have hvS2 := hvS.chsV (bal1 w (.cells #[.int .i64 2, .int .i64 0, .string ⟨#[]⟩] 40)).size (Chs.of_below (fun _ => False) (bal1 _ (.cells #[.int .i64 0, .int .i64 (-1), .slice (some ⟨w.heap.size, 0, none⟩) 1 1, .bool true, .int .i64 2, .int .i64 (-1), .slice (some ⟨w.heap.size, 0, none⟩) 1 1, .bool true] 42))) (fun _ h => h.elim)
  have CN1 := Lib.hid cn1; have HVS := Lib.hid hvS2; have HB2 := Lib.hid hb2
  clear cn1 hvS hvS2 hx hb2
  go_enter Tryd.func4, Tryd.ntmps4
  go_wp2_with fail
  refine CN1.out.mono ?_
  rintro e w1 ⟨p, q, m, rfl, hC1, hb1, _⟩
  have HC1 := Lib.hid hC1; have HVS1 := Lib.hid (HVS.out.chsV HB2.out.size (Chs.of_below (fun _ => False) hb1) (fun _ h => h.elim)); have HB1 := Lib.hid (bcl HB2.out hb1)
  clear hC1 hb1
  go_wp2_with fail
  obtain ⟨wa, hwa⟩ : ∃ wa, wa = w1.alloc (.cells #[.int .i64 0, .int .i64 4, .string ⟨#[]⟩] 40) := ⟨_, rfl⟩
  rw [← hwa]
  have hbA : Below w1.heap.size w1 wa := by rw [hwa]; exact bal1 _ _
  have hva : Vals wa (some ⟨w1.heap.size, 0, none⟩) one4 := by rw [hwa]; exact lit1 w1 ⟨0, 4, ⟨#[]⟩⟩ rfl
  have hca := HC1.out.keep hbA
  have hba := bcl HB1.out hbA
  have hsa := HVS1.out.chsV HB1.out.size (Chs.of_below (fun _ => False) hbA) (fun _ h => h.elim)
  clear hwa
  have HCA := Lib.hid hca; have HBA := Lib.hid hba; have HSA := Lib.hid hsa; have HVA := Lib.hid hva
  clear hca hba hsa hva hbA
  refine (CD1.out wa HBA.out p q m none HCA.out _ HVA.out).mono ?_
  rintro e w2 ⟨rfl, g2, hC2, hc2, _⟩
  have HC2 := Lib.hid (show Cpy w2 w.heap.size p q g2 m R1 S1 from hC2)
  have HVS2 := Lib.hid (HSA.out.chsV HBA.out.size hc2 (fun b hb => ⟨HCA.out.own b hb, (HCA.out.kinds b hb).1⟩))
  have HB3 := Lib.hid (HBA.out.trans (hc2.below HCA.out.own HBA.out.size))
  clear hC2 hc2
  go_wp2_with fail
  refine (CD2.out _ HB3.out p q m g2 HC2.out _ HVS2.out.1).mono ?_
  rintro e w3 ⟨rfl, g3, hC3, hc3, _⟩
  have HC3 := Lib.hid (show Cpy w3 w.heap.size p q g3 m R1 S2 from hC3)
  have HVS3 := Lib.hid (HVS2.out.chsV HB3.out.size hc3 (fun b hb => ⟨HC2.out.own b hb, (HC2.out.kinds b hb).1⟩))
  have HB4 := Lib.hid (HB3.out.trans (hc3.below HC2.out.own HB3.out.size))
  clear hC3 hc3
  go_wp2_with fail
  refine (CD3.out _ HB4.out p q m g3 HC3.out _ HVS3.out.1).mono ?_
  rintro e w4 ⟨rfl, g4, hC4, hc4, _⟩
  have HC4 := Lib.hid hC4
  have HB5 := Lib.hid (HB4.out.trans (hc4.below HC3.out.own HB4.out.size))
  clear hC4 hc4
  go_wp2_with fail
  refine (CM1.out _ HB5.out p q m g4 HC4.out).mono ?_
  rintro e w5 ⟨rfl, hb5⟩
  have HB6 := Lib.hid (bcl HB5.out hb5)
  clear hb5 HC1 HVS1 HB1 HCA HBA HSA HVA HC2 HVS2 HB3 HC3 HVS3 HB4 HC4 HB5 HVS HB2 CN1 CD1 CD2 CD3 CM1
  have HX := Lib.hid hX
  clear hX
  by_cases er : rulE (X.map (·.1)) = 0
  · have cn := fun (W : World) (hW : Below w.heap.size w W) => cpnew_ok (w := W) hW.size RA rc X (HX.out.below (Nat.le_refl _) hW) er HOKR.out
    have CN := Lib.hid cn
    clear cn er
    go_wp2_with fail
    refine (CN.out _ HB6.out).mono ?_
    rintro e w6 ⟨p, q, m, rfl, hC1, hb1, _, _, _⟩
    have HC1 := Lib.hid hC1; have HB7 := Lib.hid (bcl HB6.out hb1)
    clear hC1 hb1
    go_wp2_with fail
    refine (CN.out _ HB7.out).mono ?_
    rintro e w7 ⟨p2, q2, m2, rfl, hC2, hb2, h1, h2, h3⟩
    have HJ0 : Hid (C2 w w7 p q none m (X.map (·.1)) Cs.zero p2 q2 none m2 (X.map (·.1)) Cs.zero) := Lib.hid (C2.make HB7.out HC1.out hC2 hb2 h1 h2 h3)
    clear hC2 hb2 h1 h2 h3 HC1 HB7 HB6 CN
    go_wp2_with fail
    go_loopw [20, 21, 22, 23, 24, 25, 26, 27, 28, 29, 30, 31, 32] (fun s20 _ _ _ _ _ _ _ _ _ _ _ _ wr => ∃ (k : Nat) (g g2 : Option Nat) (s : Cs), k ≤ l.length ∧ k ≤ 40 ∧ s.n ≤ k ∧ s20 = .int .i64 k ∧ Hid (C2 w wr p q g m (X.map (·.1)) s p2 q2 g2 m2 (X.map (·.1)) s)) (fun s20 _ _ _ _ _ _ _ _ _ _ _ _ _ => 41 - (intOf s20).toNat)
    case atStart => exact ⟨0, none, none, Cs.zero, Nat.zero_le _, by omega, Nat.le_refl _, rfl, HJ0⟩
    case round =>
      clear HJ0
      obtain ⟨k, g, g2, s, hkl, hk40, hsn, rfl, HJ⟩ := hrel
      by_cases t1 : k < l.length
      · by_cases t2 : k < 40
        · obtain ⟨ba, oa, B, C, rfl, hbl, c0, c1', c2, c3, hv, hb1, hb2⟩ := HA.out.at_ t1
          obtain ⟨hokt, w1, w2, w3⟩ := HOK.out k t1
          have i0 : (0 : Int) ≤ (k : Int) := by omega
          have i1 : (k : Int) < (l.length : Nat) := by omega
          have cells := fun (W : World) (hW : Below w.heap.size w W) => And.intro ((hW.cell (p := ⟨ba, oa + k * 4, none⟩) hbl).trans c0) (And.intro ((hW.cell (p := ⟨ba, oa + k * 4 + 1, none⟩) hbl).trans c1') (And.intro ((hW.cell (p := ⟨ba, oa + k * 4 + 2, none⟩) hbl).trans c2) ((hW.cell (p := ⟨ba, oa + k * 4 + 3, none⟩) hbl).trans c3)))
          have ns := doC_n (X.map (·.1)) s (ak l k)
          have hag := do_again HJ.out.c.ok (R := X.map (·.1)) (a := ak l k)
          generalize ak l k = a at *
          have cx := fun (W : World) (p q m : Nat) (g : Option Nat) (hW : Below w.heap.size w W) (hC : Cpy W w.heap.size p q g m (X.map (·.1)) s) => CDO.out W hW _ s p q m g hC (by omega) a B C (Nat.le_trans hb1 hb2) hokt w2 (hv.below hW (Nat.le_refl _))
          have cx2 := fun (W : World) (p q m : Nat) (g : Option Nat) (hW : Below w.heap.size w W) (hC : Cpy W w.heap.size p q g m (X.map (·.1)) (doC (X.map (·.1)) s a)) => CDO.out W hW _ _ p q m g hC (by omega) a B C (Nat.le_trans hb1 hb2) hokt w2 (hv.below hW (Nat.le_refl _))
          have cm := fun (W : World) (p q m : Nat) (g : Option Nat) (hW : Below w.heap.size w W) (hC : Cpy W w.heap.size p q g m (X.map (·.1)) (doC (X.map (·.1)) s a)) => CMK.out W hW _ _ p q m g hC
          obtain ⟨d0, d1, d2, d3⟩ := cells wr HJ.out.b
          have HCELL := Lib.hid cells
          have qS := str_same (doS (X.map (·.1)) s a)
          by_cases e0 : doE (X.map (·.1)) s a = 0
          · obtain ⟨g1, g2', g3⟩ := hag e0
            rw [e0, eV_zero] at cx
            rw [g1, g2', g3, eV_zero] at cx2
            have CX := Lib.hid cx; have CX2 := Lib.hid cx2; have CMK2 := Lib.hid cm
            have NS := Lib.hid ns
            clear cx cx2 cm ns hag g1 g2' g3 e0 c0 c1' c2 c3 hv hokt w1 w2 w3 cells
            obtain ⟨x, q', d, t⟩ := a
            simp only [akv] at *
            generalize hS' : doC (X.map (·.1)) s ⟨x, q', d, t⟩ = s' at *
            clear hS'
            generalize doS (X.map (·.1)) s ⟨x, q', d, t⟩ = S at *
            have vv : ((mkV s') == mkV s') = true := beq_self_eq_true _
            have nn : (((s'.n : Nat) : Int) == ((s'.n : Nat) : Int)) = true := beq_self_eq_true _
            generalize mkV s' = V at *
            go_wp2_with fail
            refine (CX.out wr p q m g HJ.out.b HJ.out.c).mono ?_
            rintro e wa ⟨rfl, ga, hca, hka, hna⟩
            have HJa := Lib.hid (HJ.out.step hca hka hna)
            clear hca hka hna HJ d0 d1 d2 d3
            go_wp2_with fail
            refine (CMK2.out wa p q m ga HJa.out.b HJa.out.c).mono ?_
            rintro e wb ⟨rfl, hbb⟩
            have HJb := Lib.hid (HJa.out.keep hbb)
            obtain ⟨d0, d1, d2, d3⟩ := HCELL.out wb HJb.out.b
            clear hbb HJa
            go_wp2_with fail
            refine (CX2.out wb p q m ga HJb.out.b HJb.out.c).mono ?_
            rintro e wc ⟨rfl, gc, hcc, hkc, hnc⟩
            have HJc := Lib.hid (HJb.out.step hcc hkc hnc)
            clear hcc hkc hnc HJb d0 d1 d2 d3
            go_wp2_with fail
            refine (CMK2.out wc p q m gc HJc.out.b HJc.out.c).mono ?_
            rintro e wd ⟨rfl, hbd⟩
            have HJd := Lib.hid (HJc.out.keep hbd)
            obtain ⟨d0, d1, d2, d3⟩ := HCELL.out wd HJd.out.b
            clear hbd HJc
            go_wp2_with fail
            refine (CX.out wd p2 q2 m2 g2 HJd.out.b HJd.out.c2).mono ?_
            rintro e we ⟨rfl, ge, hce, hke, hne⟩
            have HJe := Lib.hid (HJd.out.swap.step hce hke hne).swap
            clear hce hke hne HJd d0 d1 d2 d3
            go_wp2_with fail
            refine (CMK2.out we p2 q2 m2 ge HJe.out.b HJe.out.c2).mono ?_
            rintro e wf ⟨rfl, hbf⟩
            have HJf := Lib.hid (HJe.out.keep hbf)
            clear hbf HJe
            go_wp2_with fail
            go_quiet (fail)
            go_wp2_with fail
            go_roundw
            case rel => exact ⟨k + 1, gc, ge, s', by omega, by omega, Nat.le_trans NS.out (by omega), by go_num, Lib.hid (HJf.out.keep (bdn (Below.refl _ _) _))⟩
            case measure => simp [intOf]; omega
          · have hC : doC (X.map (·.1)) s a = s := doC_no e0
            rw [eV_of e0, hC, doS_no e0] at cx
            rw [hC] at cm
            have CX := Lib.hid cx; have CMK2 := Lib.hid cm
            clear cx cx2 cm ns hag hC c0 c1' c2 c3 hv hokt w1 w2 w3 cells qS
            generalize doE (X.map (·.1)) s a = E at *
            clear e0
            obtain ⟨x, q', d, t⟩ := a
            simp only [akv] at *
            have vv : (mkV s == mkV s) = true := beq_self_eq_true _
            have nn : (((s.n : Nat) : Int) == ((s.n : Nat) : Int)) = true := beq_self_eq_true _
            generalize mkV s = V at *
            go_wp2_with fail
            refine (CX.out wr p q m g HJ.out.b HJ.out.c).mono ?_
            rintro e wa ⟨rfl, ga, hca, hka, hna⟩
            have HJa := Lib.hid (HJ.out.step hca hka hna)
            clear hca hka hna HJ d0 d1 d2 d3
            go_wp2_with fail
            refine (CMK2.out wa p q m ga HJa.out.b HJa.out.c).mono ?_
            rintro e wb ⟨rfl, hbb⟩
            have HJb := Lib.hid (HJa.out.keep hbb)
            obtain ⟨d0, d1, d2, d3⟩ := HCELL.out wb HJb.out.b
            clear hbb HJa
            go_wp2_with fail
            refine (CX.out wb p2 q2 m2 g2 HJb.out.b HJb.out.c2).mono ?_
            rintro e we ⟨rfl, ge, hce, hke, hne⟩
            have HJe := Lib.hid (HJb.out.swap.step hce hke hne).swap
            clear hce hke hne HJb d0 d1 d2 d3
            go_wp2_with fail
            refine (CMK2.out we p2 q2 m2 ge HJe.out.b HJe.out.c2).mono ?_
            rintro e wf ⟨rfl, hbf⟩
            have HJf := Lib.hid (HJe.out.keep hbf)
            clear hbf HJe
            go_wp2_with fail
            go_quiet (fail)
            go_wp2_with fail
            go_roundw
            case rel => exact ⟨k + 1, ga, ge, s, by omega, by omega, by omega, by go_num, Lib.hid (HJf.out.keep (bdn (Below.refl _ _) _))⟩
            case measure => simp [intOf]; omega
        · have hf : decide ((k : Int) < 40) = false := by simp; omega
          have cs := fun (W : World) (p q m : Nat) (g : Option Nat) (hC : Cpy W w.heap.size p q g m (X.map (·.1)) s) => cpspace_any hC
          have cst := fun (W : World) (A B : Option Addr) (c d : Nat) (hA : Many Vals W A s.L) (hB : Many Vals W B s.L) => (same_tuples A B c d s.L s.L W hA hB (by have := HJ.out.c.ok.l20; unfold maxLen; omega)).mono fun e w' ⟨h1, h2⟩ => (⟨by rw [h1, decide_eq_true rfl], h2⟩ : e = Ending.returned (.bool true) ∧ Below W.heap.size W w')
          have CS := Lib.hid cs; have CST := Lib.hid cst
          clear cs cst
          go_wp2_with fail
          refine (CS.out wr p q m g HJ.out.c).mono ?_
          rintro e wa ⟨A1, c1, rfl, ho1, hb1⟩
          have HO1 := Lib.hid ho1; have hzz := hb1.size; have HJa := Lib.hid (HJ.out.keep hb1)
          clear ho1 hb1 HJ
          go_wp2_with fail
          refine (CS.out wa p2 q2 m2 g2 HJa.out.c2).mono ?_
          rintro e wb ⟨A2, c2, rfl, ho2, hb2⟩
          have HO2 := Lib.hid ho2; have HB2 := Lib.hid hb2; have HBB := Lib.hid (HJa.out.keep hb2).b; have hz := HJa.out.b.size
          go_wp2_with fail
          refine (CST.out wb A1 A2 c1 c2 (HO1.out.keep vals_stay (by assumption) HB2.out).many HO2.out.many).mono ?_
          rintro e wc ⟨rfl, hb3⟩
          go_wp2_with fail
          go_ret
          exact ⟨rfl, bcl HBB.out hb3⟩
      · have hf : decide ((k : Int) < (l.length : Nat)) = false := by simp; omega
        have cs := fun (W : World) (p q m : Nat) (g : Option Nat) (hC : Cpy W w.heap.size p q g m (X.map (·.1)) s) => cpspace_any hC
        have cst := fun (W : World) (A B : Option Addr) (c d : Nat) (hA : Many Vals W A s.L) (hB : Many Vals W B s.L) => (same_tuples A B c d s.L s.L W hA hB (by have := HJ.out.c.ok.l20; unfold maxLen; omega)).mono fun e w' ⟨h1, h2⟩ => (⟨by rw [h1, decide_eq_true rfl], h2⟩ : e = Ending.returned (.bool true) ∧ Below W.heap.size W w')
        have CS := Lib.hid cs; have CST := Lib.hid cst
        clear cs cst
        go_wp2_with fail
        refine (CS.out wr p q m g HJ.out.c).mono ?_
        rintro e wa ⟨A1, c1, rfl, ho1, hb1⟩
        have HO1 := Lib.hid ho1; have hzz := hb1.size; have HJa := Lib.hid (HJ.out.keep hb1)
        clear ho1 hb1 HJ
        go_wp2_with fail
        refine (CS.out wa p2 q2 m2 g2 HJa.out.c2).mono ?_
        rintro e wb ⟨A2, c2, rfl, ho2, hb2⟩
        have HO2 := Lib.hid ho2; have HB2 := Lib.hid hb2; have HBB := Lib.hid (HJa.out.keep hb2).b; have hz := HJa.out.b.size
        go_wp2_with fail
        refine (CST.out wb A1 A2 c1 c2 (HO1.out.keep vals_stay (by assumption) HB2.out).many HO2.out.many).mono ?_
        rintro e wc ⟨rfl, hb3⟩
        go_wp2_with fail
        go_ret
        exact ⟨rfl, bcl HBB.out hb3⟩
  · have cn := fun (W : World) (hW : Below w.heap.size w W) => cpnew_no (w := W) RA rc (X.map (·.1)) (Nat.le_trans hn1 hm1) (HX.out.below (Nat.le_refl _) hW).rls er HOKR.out
    rw [List.length_map] at cn
    have CN := Lib.hid cn
    clear cn er
    generalize rulE (X.map (·.1)) = E at *
    go_wp2_with (go_at_call 9; first | (refine (CN.out _ HB6.out).mono ?_; rintro e w6 ⟨rfl, hb1⟩; have HB7 := Lib.hid (bcl HB6.out hb1); clear hb1 HB6) | (refine (CN.out _ HB7.out).mono ?_; rintro e w7 ⟨rfl, hb1⟩; have HB8 := Lib.hid (bcl HB7.out hb1); clear hb1 HB7))
    go_ret
    exact ⟨rfl, HB8.out⟩
end Go.Proofs.YthkaaheeblehhaaDoor.copyTwice
