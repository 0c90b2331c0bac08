/- The reference's space: First, Count, Put, Get; are two lists of tuples the same? -/
import Derived.Test.YthkaaheeblehhaaGreatDoorVRef
import Derived.Test.YthkaaheeblehhaaGreatDoorSpcTake
import Derived.Test.YthkaaheeblehhaaGreatDoorChs
namespace Go.Proofs.YthkaaheeblehhaaGreatDoor
open Go.ChangeShapes Go.WideShapes Go.ChangeAt Go.RowKit
set_option linter.unusedVariables false

set_option maxHeartbeats 800000 in
set_option maxRecDepth 100000 in
theorem same_tuples (A B : Option Addr) (c d : Nat) (a b : List (List Va)) (w : World) (hA : Many Vals w A a) (hB : Many Vals w B b) (hm : a.length ≤ maxLen) :
    Calls Tryz.prog 14 #[.slice A a.length c, .slice B b.length d] w fun e w' => e = .returned (.bool (decide (a = b))) ∧ Below w.heap.size w w' := by
  unfold maxLen at hm
  by_cases hl : a.length = b.length
  · have hne : ((a.length : Int) != (b.length : Int)) = false := by simp [hl]
    have HL := Lib.hid hl; clear hl
    go_enter Tryz.func14, Tryz.ntmps14
    go_wp2_with fail
    go_loopw [5, 6] (fun i _ wr => ∃ k : Nat, k ≤ a.length ∧ i = .int .i64 k ∧ Below w.heap.size w wr ∧ Hid (∀ j, j < k → gg a j = gg b j)) (fun i _ _ => a.length - (intOf i).toNat)
    case atStart => exact ⟨0, Nat.zero_le _, rfl, Below.refl _ _, fun j hj => absurd hj (by omega)⟩
    case round =>
      obtain ⟨k, hk, rfl, hb, he⟩ := hrel
      by_cases hlt : k < a.length
      · have hlt2 : k < b.length := by have := HL.out; omega
        have q1 : (0 : Int) ≤ k := by omega
        have q2 : (k : Int) < a.length := by omega
        have q3 : (k : Int) < b.length := by omega
        obtain ⟨g1, o1, B1, C1, rfl, hl1, x1, hv1, hc1, hm1⟩ := (many_below hA hb).vat hlt
        obtain ⟨g2, o2, B2, C2, rfl, hl2, y1, hv2, hc2, hm2⟩ := (many_below hB hb).vat hlt2
        have cs := same_tuple B1 B2 C1 C2 (gg a k) (gg b k) wr.drew hv1.drew hv2.drew (by omega)
        cases hq : decide (gg a k = gg b k) with
        | true =>
          have he2 : ∀ j, j < k + 1 → gg a j = gg b j := fun j hj => by
            by_cases e : j = k
            · subst e; exact of_decide_eq_true hq
            · exact he.out j (by omega)
          rw [hq] at cs
          have CS := Lib.hid cs; have HE := Lib.hid he2
          clear cs hq he2
          go_wp2_with fail
          go_region_held3 (fun w' => w'.cell? ⟨g1, o1 + k, none⟩ = some (.slice B1 (gg a k).length C1) ∧ w'.cell? ⟨g2, o2 + k, none⟩ = some (.slice B2 (gg b k).length C2)) (first | go_keep | exact ⟨(hb2.cell (p := ⟨g1, o1 + k, none⟩) hl1).trans x1, (hb2.cell (p := ⟨g2, o2 + k, none⟩) hl2).trans y1⟩) ((go_at_call 45; refine CS.out.mono ?_; rintro e w2 ⟨rfl, hb2⟩))
          go_wp2_with fail
          go_roundw
          case rel => exact ⟨k + 1, by omega, by go_num, bcl (bdr hb) hb2, HE⟩
          case measure => simp [intOf]; omega
        | false =>
          have hv : decide (a = b) = false := decide_eq_false fun h => of_decide_eq_false hq (by rw [h])
          rw [hq] at cs
          have CS := Lib.hid cs; have HV := Lib.hid hv
          clear cs hq hv
          go_wp2_with fail
          go_region_held3 (fun w' => w'.cell? ⟨g1, o1 + k, none⟩ = some (.slice B1 (gg a k).length C1) ∧ w'.cell? ⟨g2, o2 + k, none⟩ = some (.slice B2 (gg b k).length C2)) (first | go_keep | exact ⟨(hb2.cell (p := ⟨g1, o1 + k, none⟩) hl1).trans x1, (hb2.cell (p := ⟨g2, o2 + k, none⟩) hl2).trans y1⟩) ((go_at_call 45; refine CS.out.mono ?_; rintro e w2 ⟨rfl, hb2⟩))
          go_wp2_with fail
          rw [HV.out]
          go_ret
          exact ⟨rfl, bcl (bdr hb) hb2⟩
      · obtain rfl : k = a.length := by omega
        have hv : decide (a = b) = true := decide_eq_true (gg_ext HL.out he.out)
        have HV := Lib.hid hv; clear hv
        go_wp2_with fail
        rw [HV.out]
        go_ret
        exact ⟨rfl, hb⟩
  · have hne : ((a.length : Int) != (b.length : Int)) = true := by rw [bne_iff_ne]; omega
    have hv : decide (a = b) = false := decide_eq_false fun h => hl (by rw [h])
    have HV := Lib.hid hv; clear hv hl
    go_enter Tryz.func14, Tryz.ntmps14
    go_wp2_with fail
    rw [HV.out]
    go_ret
    exact ⟨rfl, Below.refl _ _⟩
set_option maxHeartbeats 800000 in
set_option maxRecDepth 100000 in
theorem rfirst_any (p : Nat) (A : Option Addr) (c : Nat) (a : List Va) (hm : a.length ≤ maxLen) (E : Option Addr) (cap : Nat) (L : List (List Va)) (hL : L.length ≤ maxLen) (w : World) (hA : Vals w A a) (hM : Many Vals w E L) (hc : w.cell? ⟨p, 0, none⟩ = some (.slice E L.length cap)) :
    Calls Tryz.prog 72 #[.pointer (some ⟨p, 0, none⟩), .slice A a.length c] w fun e w' => e = .returned (.int .i64 (plc a L)) ∧ Below w.heap.size w w' := by
  have hp : p < w.heap.size := lt_of_cell hc
  unfold maxLen at hL
  obtain ⟨P, hP⟩ : ∃ P : Nat → Bool, P = fun i => fitB a (gg L i) := ⟨_, rfl⟩
  have hv : plc a L = idx P L.length := by rw [hP]; rfl
  rw [hv]
  have HP := Lib.hid hP; have HM := Lib.hid hm
  clear hv hP hm
  go_enter Tryz.func72, Tryz.ntmps72
  go_wp2_with fail
  go_loopw [5, 6] (fun i _ wr => ∃ k : Nat, k ≤ L.length ∧ i = .int .i64 k ∧ Hid (fst' P k = none) ∧ Below w.heap.size w wr) (fun i _ _ => L.length - (intOf i).toNat)
  case atStart => exact ⟨0, Nat.zero_le _, rfl, rfl, Below.refl _ _⟩
  case round =>
    obtain ⟨k, hk, rfl, hf, hb⟩ := hrel
    have hcr : wr.cell? ⟨p, 0, none⟩ = some (.slice E L.length cap) := (hb.cell (p := ⟨p, 0, none⟩) hp).trans hc
    by_cases hlt : k < L.length
    · obtain ⟨b, off, B, C, rfl, hbl, hc0, hv, _, _⟩ := (many_below hM hb).vat (i := k) hlt
      have cf := rfits_any A c a B C (gg L k) HM.out wr (hA.below hb (Nat.le_refl _)) hv
      have hpk : P k = fitB a (gg L k) := by rw [HP.out]
      rw [← hpk] at cf
      cases e : P k with
      | true =>
        have HI := Lib.hid (idx_some (p := P) (k := k + 1) (i := k) (n := L.length) (by simp only [fst', hf.out, e, if_true]) (by omega))
        rw [e] at cf
        have CF := Lib.hid cf; clear cf hpk e
        go_wp2_with (go_at_call 93; refine CF.out.mono ?_; rintro e w2 ⟨rfl, hb2⟩)
        rw [HI.out]
        go_ret
        exact ⟨rfl, bcl hb hb2⟩
      | false =>
        have HN := Lib.hid (show fst' P (k + 1) = none by simp [fst', hf.out, e])
        rw [e] at cf
        have CF := Lib.hid cf; clear cf hpk e
        go_wp2_with (go_at_call 93; refine CF.out.mono ?_; rintro e w2 ⟨rfl, hb2⟩)
        go_roundw
        case rel => exact ⟨k + 1, by omega, by go_num, HN, bcl hb hb2⟩
        case measure => simp [intOf]; omega
    · obtain rfl : k = L.length := by omega
      have HI := Lib.hid (idx_none hf.out)
      go_wp2_with fail
      rw [HI.out]
      go_ret
      exact ⟨rfl, hb⟩
end Go.Proofs.YthkaaheeblehhaaGreatDoor
