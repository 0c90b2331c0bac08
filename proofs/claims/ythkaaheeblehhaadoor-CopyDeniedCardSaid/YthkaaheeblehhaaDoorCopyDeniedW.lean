/- CopyDenied: the walk. -/
import Derived.Test.YthkaaheeblehhaaDoorCpDo
import Derived.Test.YthkaaheeblehhaaDoorCpNew
import Derived.Test.YthkaaheeblehhaaDoorCpMark
import Derived.WalkKit
import Derived.WalkLawsBesides
import Derived.WalkSpells
import Derived.RegionTactic
import Derived.Deep.QuietTactic
import Derived.BigQuiet
import Derived.Outline
namespace Go.Proofs.YthkaaheeblehhaaDoor.copyDenied
open Go.ChangeShapes Go.WideShapes Go.ChangeAt Go.RowKit Go.Joins Go.Deep
set_option linter.unusedVariables false

theorem rul_nil : rulE [] = 0 := by rfl
theorem rx_nil (W : World) (base : Nat) : RX W base none [] := ⟨fun h => absurd h (by simp), fun x h => by simp at h⟩
theorem let_nil (who deed : Int) (t : List Va) : letR [] who deed t = false := by rfl
theorem fin_nil {a : List Va} (h : liE a = 0) : finE a [] = 5 := by
  rw [finE, if_neg (by rw [h]; decide), if_pos (show plc a [] < 0 from idx_neg.2 fun i hi => absurd hi (by simp))]
theorem ag_zero (a : Ak) : agB Cs.zero a = false := by simp [agB, Cs.zero]
/-- what is done of it -/
theorem dn_ok {a : Ak} (h : doE [] Cs.zero a = 0) : a.d ≠ 0 ∧ doS [] Cs.zero a = txNone ∧ (doC [] Cs.zero a).n = 1 := by
  obtain ⟨hq, h2 | ⟨h2, h3, h4⟩⟩ := doE_zero h
  · rw [ag_zero] at h2; cases h2
  · obtain ⟨_, _, _, _, hli, _⟩ := qcE_zero hq
    have hd : a.d ≠ 0 := fun e => by rw [nwE, if_pos e, let_nil] at h4; exact absurd h4 (by decide)
    have hf : finE a.t Cs.zero.L ≠ 0 := by rw [show Cs.zero.L = [] from rfl, fin_nil hli]; decide
    refine ⟨hd, ?_, ?_⟩
    · rw [doS_new h h2, nwS, if_neg hd, if_pos hf]
    · rw [doC_new h h2]; rfl
theorem not_cm {w : World} {o : Obj} {p q m : Nat} (hp : (w.alloc o).heap.size ≤ p) (hq : (w.alloc o).heap.size ≤ q) (hm : (w.alloc o).heap.size ≤ m) : ¬ CM p q none m w.heap.size := by
  have hz : (w.alloc o).heap.size = w.heap.size + 1 := by simp
  rintro (h | h | h | h)
  · omega
  · omega
  · cases h
  · omega
set_option maxHeartbeats 3200000 in
set_option maxRecDepth 100000 in
theorem walk (w : World) (ht : TT w) (a : Ak) (A : Option Addr) (c : Nat) (hc : a.t.length ≤ c) (hm : c ≤ maxLen) (hA : Vals w A a.t) (hok : okL a.t) (wa : I64 a.w) (wb : I64 a.q) (wd : I64 a.d) :
    Calls Tryd.prog 3 #[.agg #[.int .i64 a.w, .int .i64 a.q, .int .i64 a.d, .slice A a.t.length c]] w fun e w' => e = .returned (.bool true) ∧ Below w.heap.size w w' := by
  have htt : ∀ W, Below w.heap.size w W → TT W := fun W h => tab_stays (g := 2) (by kernel_rfl) ht h (Nat.le_refl _)
  have cn := fun (W : World) (hW : Below w.heap.size w W) => cpnew_ok (w := W) (base := w.heap.size) hW.size none 0 [] (rx_nil _ _) rul_nil (fun i hi => absurd hi (by simp))
  have cd := fun (W : World) (hW : Below w.heap.size w W) (p q m : Nat) (hC : Cpy W w.heap.size p q none m [] Cs.zero) => cpdo_any hC (fun W' h => htt W' (hW.trans h)) (by decide) a A c (Nat.le_trans hc hm) hok wb (hA.below hW (Nat.le_refl _))
  have cm := fun (W : World) (hW : Below w.heap.size w W) (p q m : Nat) (g : Option Nat) (hC : Cpy W w.heap.size p q g m [] (doC [] Cs.zero a)) => cpmark_any hC (fun W' h => htt W' (hW.trans h))
  have cs := fun (W : World) (p q m : Nat) (g : Option Nat) (hC : Cpy W w.heap.size p q g m [] (doC [] Cs.zero a)) => cpspace_any hC
  have hb0 : Below w.heap.size w (w.alloc (.cells #[.int .i64 a.w, .int .i64 a.q, .int .i64 a.d, .slice A a.t.length c] 24)) := bal1 _ _
  have hB := AtB.new w #[.int .i64 a.w, .int .i64 a.q, .int .i64 a.d, .slice A a.t.length c] 24
  have CN := Lib.hid cn; have HB0 := Lib.hid hb0; have HB := Lib.hid hB
  by_cases h : doE [] Cs.zero a = 0
  · obtain ⟨hd, hs, hn⟩ := dn_ok h
    rw [show txNone = ⟨#[110, 111, 110, 101]⟩ from rfl] at hs
    rw [h, eV_zero, hs] at cd
    rw [hn] at cm
    have CD := Lib.hid cd; have CM := Lib.hid cm; have CS := Lib.hid cs
    have d1 : (a.d != 0) = true := by simp [hd]
    have D := Lib.hid hd
    clear cn cd cm cs hb0 hA hok hd hs hn h htt ht hB
    generalize mkV (doC [] Cs.zero a) = V at *
    generalize doC [] Cs.zero a = S at *
    obtain ⟨x, q', d, t⟩ := a
    simp only [akv] at *
    go_enter Tryd.func3, Tryd.ntmps3
    go_wp2_with (first
      | (go_at_call 9; go_loud (refine (CN.out _ HB0.out).mono ?_; rintro e w1 ⟨p, q, m, rfl, hC1, hb1, hp1, hq1, hm1⟩); have HC1 := Lib.hid hC1; have HB1 := Lib.hid (bcl HB0.out hb1); have B1 := HB.out.below hb1 HB.out.lt; have HBX1 := Lib.hid B1; have e0 : w1.cell? ⟨w.heap.size, 0, none⟩ = some (.int .i64 x) := B1.cell rfl; have e1 : w1.cell? ⟨w.heap.size, 1, none⟩ = some (.int .i64 q') := B1.cell rfl; have e2 : w1.cell? ⟨w.heap.size, 2, none⟩ = some (.int .i64 d) := B1.cell rfl; have e3 : w1.cell? ⟨w.heap.size, 3, none⟩ = some (.slice A t.length c) := B1.cell rfl; have HNO := Lib.hid (not_cm hp1 hq1 hm1); clear hC1 hb1 hp1 hq1 hm1 B1)
      | (go_at_call 10; refine (CD.out _ HB1.out _ _ _ HC1.out).mono ?_; rintro e w2 ⟨rfl, g2, hC2, hc2, _⟩; have HC2 := Lib.hid hC2; have HB2 := Lib.hid (HB1.out.trans (hc2.below HC1.out.own HC1.out.hb)); have HBX2 := Lib.hid (HBX1.out.chs hc2 HNO.out); clear hC2 hc2)
      | (go_at_call 11; refine (CM.out _ HB2.out _ _ _ _ HC2.out).mono ?_; rintro e w3 ⟨rfl, hb3⟩; have k3 : w3.cell? ⟨w.heap.size, 2, none⟩ = some (.int .i64 d) := (HBX2.out.below hb3 HBX2.out.lt).cell rfl; have HB3 := Lib.hid (bcl HB2.out hb3); have HC3 := Lib.hid (HC2.out.keep hb3); clear hb3)
      | (go_at_call 12; refine (CS.out _ _ _ _ _ HC3.out).mono ?_; rintro e w4 ⟨A4, c4, rfl, _, hb4⟩))
    go_ret
    exact ⟨rfl, HB3.out⟩
  · have hC : doC [] Cs.zero a = Cs.zero := doC_no h
    rw [eV_of h, doS_no h] at cd
    rw [hC] at cd cm cs
    have CD := Lib.hid cd
    have CM := Lib.hid (fun (W : World) (hW : Below w.heap.size w W) (p q m : Nat) (g : Option Nat) (hC : Cpy W w.heap.size p q g m [] Cs.zero) => (show Calls Tryd.prog 11 #[.pointer (some ⟨p, 0, none⟩)] W fun e w' => e = .returned (.tuple #[.int .i64 0, .int .i64 (mkV Cs.zero)]) ∧ Below W.heap.size W w' from cm W hW p q m g hC))
    have CS := Lib.hid (fun (W : World) (p q m : Nat) (g : Option Nat) (hC : Cpy W w.heap.size p q g m [] Cs.zero) => (show Calls Tryd.prog 12 #[.pointer (some ⟨p, 0, none⟩)] W fun e w' => ∃ A' c', e = .returned (.slice A' 0 c') ∧ True ∧ Below W.heap.size W w' from (cs W p q m g hC).mono fun e w' ⟨A', c', h1, _, h3⟩ => ⟨A', c', h1, trivial, h3⟩))
    clear cn cd cm cs hb0 hA hok htt ht hB hC h
    generalize mkV Cs.zero = V at *
    generalize doE [] Cs.zero a = E at *
    obtain ⟨x, q', d, t⟩ := a
    simp only [akv] at *
    go_enter Tryd.func3, Tryd.ntmps3
    go_wp2_with (first
      | (go_at_call 9; go_loud (refine (CN.out _ HB0.out).mono ?_; rintro e w1 ⟨p, q, m, rfl, hC1, hb1, hp1, hq1, hm1⟩); have HC1 := Lib.hid hC1; have HB1 := Lib.hid (bcl HB0.out hb1); have B1 := HB.out.below hb1 HB.out.lt; have HBX1 := Lib.hid B1; have e0 : w1.cell? ⟨w.heap.size, 0, none⟩ = some (.int .i64 x) := B1.cell rfl; have e1 : w1.cell? ⟨w.heap.size, 1, none⟩ = some (.int .i64 q') := B1.cell rfl; have e2 : w1.cell? ⟨w.heap.size, 2, none⟩ = some (.int .i64 d) := B1.cell rfl; have e3 : w1.cell? ⟨w.heap.size, 3, none⟩ = some (.slice A t.length c) := B1.cell rfl; have HNO := Lib.hid (not_cm hp1 hq1 hm1); clear hC1 hb1 hp1 hq1 hm1 B1)
      | (go_at_call 10; refine (CD.out _ HB1.out _ _ _ HC1.out).mono ?_; rintro e w2 ⟨rfl, g2, hC2, hc2, _⟩; have HC2 := Lib.hid hC2; have HB2 := Lib.hid (HB1.out.trans (hc2.below HC1.out.own HC1.out.hb)); have HBX2 := Lib.hid (HBX1.out.chs hc2 HNO.out); clear hC2 hc2)
      | (go_at_call 11; refine (CM.out _ HB2.out _ _ _ _ HC2.out).mono ?_; rintro e w3 ⟨rfl, hb3⟩; have k3 : w3.cell? ⟨w.heap.size, 2, none⟩ = some (.int .i64 d) := (HBX2.out.below hb3 HBX2.out.lt).cell rfl; have HB3 := Lib.hid (bcl HB2.out hb3); have HC3 := Lib.hid (HC2.out.keep hb3); clear hb3)
      | (go_at_call 12; refine (CS.out _ _ _ _ _ HC3.out).mono ?_; rintro e w4 ⟨A4, c4, rfl, _, hb4⟩; have HB4 := Lib.hid (bcl HB3.out hb4); clear hb4))
    go_ret
    exact ⟨rfl, HB4.out⟩
end Go.Proofs.YthkaaheeblehhaaDoor.copyDenied
