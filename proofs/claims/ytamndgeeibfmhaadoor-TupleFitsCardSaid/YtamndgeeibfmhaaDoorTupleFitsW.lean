/- TupleFits: the walk. -/
import Derived.Test.YtamndgeeibfmhaaDoorTpLaw
import Derived.Test.YtamndgeeibfmhaaDoorDoorE
import Derived.WalkKit
import Derived.WalkLawsBesides
import Derived.WalkSpells
import Derived.RegionTactic
import Derived.Outline
namespace Go.Proofs.YtamndgeeibfmhaaDoor.tupleFits
open Go.ChangeShapes Go.WideShapes Go.ChangeAt Go.RowKit Go.Joins
set_option linter.unusedVariables false

/-- a value of a slice is set -/
theorem vals_set {W : World} {g : Nat} {l : List Va} {m : Nat} (hm : m < l.length) (h : Vals W (some ⟨g, 0, none⟩) l) (v : Va) :
    Vals (((W.setCell ⟨g, m * 3, none⟩ (.int .i64 v.k)).setCell ⟨g, m * 3 + 1, none⟩ (.int .i64 v.n)).setCell ⟨g, m * 3 + 2, none⟩ (.string v.s)) (some ⟨g, 0, none⟩) (l.set m v) := by
  intro h0
  rw [List.length_set] at h0
  obtain ⟨b, off, e, hb, hc⟩ := h h0
  simp only [Option.some.injEq, Addr.mk.injEq, and_true] at e
  obtain ⟨rfl, rfl⟩ := e
  refine ⟨g, 0, rfl, by simpa [World.setCell] using hb, fun i hi j hj => ?_⟩
  rw [List.length_set] at hi
  have hx := hc i hi j hj
  have h00 := hc m hm 0 (by omega)
  have h01 := hc m hm 1 (by omega)
  have h02 := hc m hm 2 (by omega)
  simp only [Nat.zero_add, Nat.add_zero] at hx h00 h01 h02 ⊢
  by_cases em : i = m
  · subst em
    have hv : va (l.set i v) i = v := by rw [va_set hi, if_pos rfl]
    rcases (show j = 0 ∨ j = 1 ∨ j = 2 by omega) with rfl | rfl | rfl
    · simp only [Nat.add_zero]
      rw [World.cell?_setCell_other _ _ _ _ (by simp), World.cell?_setCell_other _ _ _ _ (by simp), World.cell?_setCell_same' _ _ _ (by rw [h00]; rfl)]
      simp [vac, hv]
    · rw [World.cell?_setCell_other _ _ _ _ (by simp), World.cell?_setCell_same' _ _ _ (by rw [World.cell?_setCell_other _ _ _ _ (by simp), h01]; rfl)]
      simp [vac, hv]
    · rw [World.cell?_setCell_same' _ _ _ (by rw [World.cell?_setCell_other _ _ _ _ (by simp), World.cell?_setCell_other _ _ _ _ (by simp), h02]; rfl)]
      simp [vac, hv]
  · have hv : va (l.set m v) i = va l i := by rw [va_set hi, if_neg em]
    rw [World.cell?_setCell_other _ _ _ _ (by simp <;> omega), World.cell?_setCell_other _ _ _ _ (by simp <;> omega), World.cell?_setCell_other _ _ _ _ (by simp <;> omega), hx]
    simp only [vac, hv]
theorem own_at {W : World} {base : Nat} {A : Option Addr} {c : Nat} {l : List Va} (h : OVals W base A c l) (h0 : 0 < l.length) : ∃ g, A = some ⟨g, 0, none⟩ ∧ base ≤ g ∧ g < W.heap.size ∧ ∀ o, W.frozen? ⟨g, o, none⟩ = false := by
  rcases h.2 with ⟨e, hn⟩ | ⟨g, cap, cur, e, hb, hgb, _⟩
  · exact absurd hn (by omega)
  · injection e with e1 _ _
    exact ⟨g, e1, hb, (Array.getElem?_eq_some_iff.1 hgb).1, fun o => by simp [World.frozen?, hgb]⟩
def L1 : List Va := [⟨2, 0, ⟨#[]⟩⟩, ⟨0, 3, ⟨#[]⟩⟩]
def L2 : List Va := [⟨1, 0, ⟨#[97]⟩⟩, ⟨0, 3, ⟨#[]⟩⟩]
set_option maxHeartbeats 6400000 in
set_option maxRecDepth 100000 in
theorem walk (w : World) (hg : TT w ∧ EE w) (A : Option Addr) (c : Nat) (a : List Va) (hc : a.length ≤ c) (hm : c ≤ maxLen) (hA : Vals w A a) (hok : okL a) (B : Option Addr) (d : Nat) (t : List Va) (hd : t.length ≤ d) (hmd : d ≤ maxLen) (hB : Vals w B t) (hokt : okL t)
    (i : Int) (_ : I64 i) :
    Calls Tryd.prog 5 #[.slice A a.length c, .slice B t.length d, .int .i64 i] w fun e w' => e = .returned (.bool true) ∧ Below w.heap.size w w' := by
  have hma : a.length ≤ maxLen := by omega
  have hmt : t.length ≤ maxLen := by omega
  have HT := Lib.hid (fun (W : World) (h : Below w.heap.size w W) => (show TT W from tab_stays (g := 6) (by kernel_rfl) hg.1 h (Nat.le_refl _)))
  have HE := Lib.hid (fun (W : World) (h : Below w.heap.size w W) => hg.2.below h (Nat.le_refl _))
  have HAK := Lib.hid (fun (W : World) (h : Below w.heap.size w W) => hA.below h (Nat.le_refl _))
  have HBK := Lib.hid (fun (W : World) (h : Below w.heap.size w W) => hB.below h (Nat.le_refl _))
  have c0 := fun (W : World) (g1 g2 : Nat) (h1 : Vals W (some ⟨g1, 0, none⟩) L1) (h2 : Vals W (some ⟨g2, 0, none⟩) L2) => tfits_any (some ⟨g1, 0, none⟩) 2 L1 (some ⟨g2, 0, none⟩) 2 L2 (by decide) (by decide) (fun i hi => by
      match i, hi with
      | 0, _ => decide
      | 1, _ => decide) (fun i hi => by
      match i, hi with
      | 0, _ => decide
      | 1, _ => decide) W h1 h2
  rw [show (decide (tfE L1 L2 = 0) && fitB L1 L2) = true by decide, show tfE L1 L2 = 0 by decide, eV_zero, show L1.length = 2 from rfl, show L2.length = 2 from rfl] at c0
  have ctt := fun (W : World) (h : Below w.heap.size w W) => tfits_any B d t B d t hmt hmt hokt hokt W (HBK.out W h) (HBK.out W h)
  have cat := fun (W : World) (h : Below w.heap.size w W) => tfits_any A c a B d t hma hmt hok hokt W (HAK.out W h) (HBK.out W h)
  have C0 := Lib.hid c0
  have hl1 := fun (W : World) => lit_vals W L1 23 (g := W.heap.size) rfl
  have hl2 := fun (W : World) => lit_vals W L2 23 (g := W.heap.size) rfl
  have HL1 := Lib.hid hl1; have HL2 := Lib.hid hl2
  clear c0 hl1 hl2
  have hw0 : Below w.heap.size w ((w.alloc (.cells (vaCells L1).toArray 23)).alloc (.cells (vaCells L2).toArray 23)) := bal (bal1 _ _) _
  have hv1 : Vals ((w.alloc (.cells (vaCells L1).toArray 23)).alloc (.cells (vaCells L2).toArray 23)) (some ⟨w.heap.size, 0, none⟩) L1 := Sl.alloc (HL1.out w) _
  have hv2 : Vals ((w.alloc (.cells (vaCells L1).toArray 23)).alloc (.cells (vaCells L2).toArray 23)) (some ⟨w.heap.size + 1, 0, none⟩) L2 := by
    have := HL2.out (w.alloc (.cells (vaCells L1).toArray 23))
    rw [World.size_alloc] at this
    exact this
  rw [show (vaCells L1).toArray = #[.int .i64 2, .int .i64 0, .string ⟨#[]⟩, .int .i64 0, .int .i64 3, .string ⟨#[]⟩] from rfl, show (vaCells L2).toArray = #[.int .i64 1, .int .i64 0, .string ⟨#[97]⟩, .int .i64 0, .int .i64 3, .string ⟨#[]⟩] from rfl] at hv1 hv2 hw0
  have HV1 := Lib.hid hv1; have HV2 := Lib.hid hv2; have HW0 := Lib.hid hw0
  clear hv1 hv2 hw0 HL1 HL2
  by_cases e1 : tfE t t = 0
  · rw [e1, eV_zero, self_fits, show (decide ((0 : Int) = 0) && true) = true from rfl] at ctt
    have hli : liE t = 0 := by
      by_cases h : liE t = 0
      · exact h
      · rw [tfE, if_pos h] at e1; exact e1
    obtain ⟨b1, b2, b3, b4⟩ := lin_back hli
    have cpr := fun (W : World) (h : Below w.heap.size w W) => tprint_any B d t hmt hokt W (HBK.out W h) (HT.out W h)
    rw [hli, if_pos rfl, eV_zero] at cpr
    have cps := fun (W : World) (h : Below w.heap.size w W) => tparse_any (lin t) (by omega) (by omega) W (HT.out W h) (HE.out W h)
    rw [b1, b2, eV_zero] at cps
    have csm := fun (W : World) (h : Below w.heap.size w W) (C : Option Addr) (cc : Nat) (hC : Vals W C t) => same_tuple C B cc d t t W hC (HBK.out W h) hmt
    rw [decide_eq_true (rfl : t = t)] at csm
    have CTT := Lib.hid ctt; have CPR := Lib.hid cpr; have CPS := Lib.hid cps; have CSM := Lib.hid csm
    clear ctt cpr cps csm b1 b2 b3 b4 hli e1
    generalize lin t = tx at *
    by_cases e2 : tfE a t = 0
    · have ha := e2
      rw [tfE] at ha
      have hla : liE a = 0 := by
        by_cases h : liE a = 0
        · exact h
        · rw [if_pos h] at ha; exact absurd ha h
      have htu : tuE t = 0 := by rw [if_neg (by simp [hla])] at ha; exact ha
      obtain ⟨a0, a5, _⟩ := liE_iff.1 hla
      rw [e2, eV_zero, show (decide ((0 : Int) = 0) && fitB a t) = fitB a t from rfl] at cat
      by_cases hi : 0 ≤ i ∧ i < (a.length : Int)
      · obtain ⟨i0, i1⟩ := hi
        obtain ⟨m, rfl⟩ := Int.eq_ofNat_of_zero_le i0
        have hml : m < a.length := by omega
        have hwl := wide_like (i := m) hla
        have hwf := fun h => wide_fits (l := a) (t := t) (i := m) h
        have hokw : okL (a.set m anyV) := fun j hj => by
          rw [List.length_set] at hj
          rw [va_set hj]
          split
          · decide
          · exact hok j hj
        have cwt := fun (W : World) (h : Below w.heap.size w W) (C : Option Addr) (cc : Nat) (hC : Vals W C (a.set m anyV)) => tfits_any C cc (a.set m anyV) B d t (by rw [List.length_set]; exact hma) hmt hokw hokt W hC (HBK.out W h)
        rw [show tfE (a.set m anyV) t = 0 by rw [tfE, if_neg (by simp [hwl]), htu], eV_zero, List.length_set, show (decide ((0 : Int) = 0) && fitB (a.set m anyV) t) = fitB (a.set m anyV) t from rfl] at cwt
        have hn : (([] : List Va).length + a.length) * 32 ≤ 140737488355328 := by simp; omega
        have CWT := Lib.hid cwt; have HWF := Lib.hid hwf; have HN := Lib.hid hn; have CAT := Lib.hid cat
        generalize fitB (a.set m anyV) t = f2 at *
        generalize fitB a t = f1 at *
        clear cwt hwf hn hokw hwl cat ha hla htu e2
        go_enter Tryd.func5, Tryd.ntmps5
        go_wp2_with fail
        refine (C0.out _ _ _ HV1.out HV2.out).mono ?_
        rintro e w1 ⟨rfl, hb1⟩
        have HB1 := Lib.hid (bcl HW0.out hb1)
        clear hb1 HV1 HV2 HW0 C0
        go_wp2_with fail
        refine (CTT.out _ HB1.out).mono ?_
        rintro e w2 ⟨rfl, hb2⟩
        have HB2 := Lib.hid (bcl HB1.out hb2)
        clear hb2
        go_wp2_with fail
        refine (CPR.out _ HB2.out).mono ?_
        rintro e w3 ⟨rfl, hb3⟩
        have HB3 := Lib.hid (bcl HB2.out hb3)
        clear hb3
        go_wp2_with fail
        refine (CPS.out _ HB3.out).mono ?_
        rintro e w4 ⟨⟨C, cc, rfl, hC⟩, hb4⟩
        have HB4 := Lib.hid (bcl HB3.out hb4)
        have HC := Lib.hid hC.vals
        clear hb4 hC
        go_wp2_with fail
        refine (CSM.out _ HB4.out C cc HC.out).mono ?_
        rintro e w5 ⟨rfl, hb5⟩
        have HB5 := Lib.hid (bcl HB4.out hb5)
        clear hb5
        go_wp2_with fail
        refine (CAT.out _ HB5.out).mono ?_
        rintro e w6 ⟨rfl, hb6⟩
        have HB6 := Lib.hid (bcl HB5.out hb6)
        clear hb6
        go_wp2_with (at_builtin; refine wpList_append_vals rfl (.tmp 87) (.tmp 88) rfl w6.heap.size none 0 [] rfl OVals.nil A c a rfl (HAK.out _ HB6.out) HN.out (Nat.le_refl _) ?_; intro A2 c2 w7 ho7 hb7; rw [List.nil_append] at ho7; obtain ⟨g, rfl, hgb, hgl, hgf⟩ := own_at ho7 a0; obtain ⟨b', o', e', _, k0, k1, k2⟩ := ho7.vals.at_ hml; simp only [Option.some.injEq, Addr.mk.injEq, and_true] at e'; obtain ⟨rfl, rfl⟩ := e'; rw [Nat.zero_add] at k0 k1 k2; have g0 := hgf (m * 3); have g1 := hgf (m * 3 + 1); have g2 := hgf (m * 3 + 2); have HV7 := Lib.hid ho7.vals; have HB7 := Lib.hid (bcl HB6.out hb7); clear ho7 hb7 hgf)
        have hv8 := vals_set hml HV7.out anyV
        have hge : w.heap.size ≤ g := Nat.le_trans HB6.out.size hgb
        have hb8 : Below w.heap.size w (((w7.setCell ⟨g, m * 3, none⟩ (.int .i64 2)).setCell ⟨g, m * 3 + 1, none⟩ (.int .i64 0)).setCell ⟨g, m * 3 + 2, none⟩ (.string ⟨#[]⟩)) := ((HB7.out.setCell hge _).setCell hge _).setCell hge _
        refine (CWT.out _ hb8 (some ⟨g, 0, none⟩) c2 hv8).mono ?_
        rintro e w9 ⟨rfl, hb9⟩
        have HB9 := Lib.hid (hb8.trans (hb9.mono hb8.size))
        clear hb9 hb8 hv8
        cases f1 with
        | true =>
          obtain rfl : f2 = true := HWF.out rfl
          go_wp2_with fail
          go_ret
          exact ⟨rfl, HB9.out⟩
        | false =>
          go_wp2_with fail
          go_ret
          exact ⟨rfl, HB9.out⟩
      · have CAT := Lib.hid cat
        generalize fitB a t = fb at *
        have hx : decide (i < 0) = true ∨ (decide (i < 0) = false ∧ decide ((a.length : Int) ≤ i) = true) := by
          simp only [decide_eq_true_eq, decide_eq_false_iff_not]; omega
        clear cat ha hla htu hi e2
        rcases hx with x1 | ⟨x1, x2⟩
        all_goals
          go_enter Tryd.func5, Tryd.ntmps5
          go_wp2_with fail
          refine (C0.out _ _ _ HV1.out HV2.out).mono ?_
          rintro e w1 ⟨rfl, hb1⟩
          have HB1 := Lib.hid (bcl HW0.out hb1)
          clear hb1 HV1 HV2 HW0 C0
          go_wp2_with fail
          refine (CTT.out _ HB1.out).mono ?_
          rintro e w2 ⟨rfl, hb2⟩
          have HB2 := Lib.hid (bcl HB1.out hb2)
          clear hb2
          go_wp2_with fail
          refine (CPR.out _ HB2.out).mono ?_
          rintro e w3 ⟨rfl, hb3⟩
          have HB3 := Lib.hid (bcl HB2.out hb3)
          clear hb3
          go_wp2_with fail
          refine (CPS.out _ HB3.out).mono ?_
          rintro e w4 ⟨⟨C, cc, rfl, hC⟩, hb4⟩
          have HB4 := Lib.hid (bcl HB3.out hb4)
          have HC := Lib.hid hC.vals
          clear hb4 hC
          go_wp2_with fail
          refine (CSM.out _ HB4.out C cc HC.out).mono ?_
          rintro e w5 ⟨rfl, hb5⟩
          have HB5 := Lib.hid (bcl HB4.out hb5)
          clear hb5
          go_wp2_with fail
          refine (CAT.out _ HB5.out).mono ?_
          rintro e w6 ⟨rfl, hb6⟩
          have HB6 := Lib.hid (bcl HB5.out hb6)
          clear hb6
          go_wp2_with fail
          go_ret
          exact ⟨rfl, HB6.out⟩
    · rw [eV_of e2] at cat
      have CAT := Lib.hid cat
      generalize tfE a t = E at *
      clear cat e2
      go_enter Tryd.func5, Tryd.ntmps5
      go_wp2_with fail
      refine (C0.out _ _ _ HV1.out HV2.out).mono ?_
      rintro e w1 ⟨rfl, hb1⟩
      have HB1 := Lib.hid (bcl HW0.out hb1)
      clear hb1 HV1 HV2 HW0 C0
      go_wp2_with fail
      refine (CTT.out _ HB1.out).mono ?_
      rintro e w2 ⟨rfl, hb2⟩
      have HB2 := Lib.hid (bcl HB1.out hb2)
      clear hb2
      go_wp2_with fail
      refine (CPR.out _ HB2.out).mono ?_
      rintro e w3 ⟨rfl, hb3⟩
      have HB3 := Lib.hid (bcl HB2.out hb3)
      clear hb3
      go_wp2_with fail
      refine (CPS.out _ HB3.out).mono ?_
      rintro e w4 ⟨⟨C, cc, rfl, hC⟩, hb4⟩
      have HB4 := Lib.hid (bcl HB3.out hb4)
      have HC := Lib.hid hC.vals
      clear hb4 hC
      go_wp2_with fail
      refine (CSM.out _ HB4.out C cc HC.out).mono ?_
      rintro e w5 ⟨rfl, hb5⟩
      have HB5 := Lib.hid (bcl HB4.out hb5)
      clear hb5
      go_wp2_with fail
      refine (CAT.out _ HB5.out).mono ?_
      rintro e w6 ⟨rfl, hb6⟩
      have HB6 := Lib.hid (bcl HB5.out hb6)
      clear hb6
      go_wp2_with fail
      go_ret
      exact ⟨rfl, HB6.out⟩
  · have e2 : tfE a t ≠ 0 := by
      have h1 : tuE t ≠ 0 := by
        intro h
        rw [tfE, if_neg (by simp [(tuE_zero h).1]), h] at e1
        exact e1 rfl
      by_cases h : liE a = 0
      · rw [tfE, if_neg (by simp [h])]; exact h1
      · rw [tfE, if_pos h]; exact h
    rw [eV_of e1] at ctt
    rw [eV_of e2] at cat
    generalize tfE t t = E1 at *
    generalize tfE a t = E2 at *
    have CTT := Lib.hid ctt; have CAT := Lib.hid cat
    clear ctt cat e1 e2
    go_enter Tryd.func5, Tryd.ntmps5
    go_wp2_with fail
    refine (C0.out _ _ _ HV1.out HV2.out).mono ?_
    rintro e w1 ⟨rfl, hb1⟩
    have HB1 := Lib.hid (bcl HW0.out hb1)
    clear hb1 HV1 HV2 HW0 C0
    go_wp2_with fail
    refine (CTT.out _ HB1.out).mono ?_
    rintro e w2 ⟨rfl, hb2⟩
    have HB2 := Lib.hid (bcl HB1.out hb2)
    clear hb2
    go_wp2_with fail
    refine (CAT.out _ HB2.out).mono ?_
    rintro e w3 ⟨rfl, hb3⟩
    have HB3 := Lib.hid (bcl HB2.out hb3)
    clear hb3
    go_wp2_with fail
    go_ret
    exact ⟨rfl, HB3.out⟩
end Go.Proofs.YtamndgeeibfmhaaDoor.tupleFits
