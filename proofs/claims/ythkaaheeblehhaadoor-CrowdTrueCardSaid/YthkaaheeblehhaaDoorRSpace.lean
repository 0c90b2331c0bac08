/- The reference's space: First, Count, Put, Get; are two lists of tuples the same? -/
import Derived.Test.YthkaaheeblehhaaDoorVRef
import Derived.Test.YthkaaheeblehhaaDoorSpcTake
import Derived.Test.YthkaaheeblehhaaDoorChs
namespace Go.Proofs.YthkaaheeblehhaaDoor
open Go.ChangeShapes Go.WideShapes Go.ChangeAt Go.RowKit
set_option linter.unusedVariables false

set_option maxHeartbeats 800000 in
set_option maxRecDepth 100000 in
theorem same_tuples (A B : Option Addr) (c d : Nat) (a b : List (List Va)) (w : World) (hA : Many Vals w A a) (hB : Many Vals w B b) (hm : a.length ≤ maxLen) :
    Calls Tryd.prog 13 #[.slice A a.length c, .slice B b.length d] w fun e w' => e = .returned (.bool (decide (a = b))) ∧ Below w.heap.size w w' := by
  unfold maxLen at hm
  by_cases hl : a.length = b.length
  · have hne : ((a.length : Int) != (b.length : Int)) = false := by simp [hl]
    have HL := Lib.hid hl; clear hl
    go_enter Tryd.func13, Tryd.ntmps13
    go_wp2_with fail
    go_loopw [5, 6] (fun i _ wr => ∃ k : Nat, k ≤ a.length ∧ i = .int .i64 k ∧ Below w.heap.size w wr ∧ Hid (∀ j, j < k → gg a j = gg b j)) (fun i _ _ => a.length - (intOf i).toNat)
    case atStart => exact ⟨0, Nat.zero_le _, rfl, Below.refl _ _, fun j hj => absurd hj (by omega)⟩
    case round =>
      obtain ⟨k, hk, rfl, hb, he⟩ := hrel
      by_cases hlt : k < a.length
      · have hlt2 : k < b.length := by have := HL.out; omega
        have q1 : (0 : Int) ≤ k := by omega
        have q2 : (k : Int) < a.length := by omega
        have q3 : (k : Int) < b.length := by omega
        obtain ⟨g1, o1, B1, C1, rfl, hl1, x1, hv1, hc1, hm1⟩ := (many_below hA hb).vat hlt
        obtain ⟨g2, o2, B2, C2, rfl, hl2, y1, hv2, hc2, hm2⟩ := (many_below hB hb).vat hlt2
        have cs := same_tuple B1 B2 C1 C2 (gg a k) (gg b k) wr.drew hv1.drew hv2.drew (by omega)
        cases hq : decide (gg a k = gg b k) with
        | true =>
          have he2 : ∀ j, j < k + 1 → gg a j = gg b j := fun j hj => by
            by_cases e : j = k
            · subst e; exact of_decide_eq_true hq
            · exact he.out j (by omega)
          rw [hq] at cs
          have CS := Lib.hid cs; have HE := Lib.hid he2
          clear cs hq he2
          go_wp2_with fail
          go_region_held3 (fun w' => w'.cell? ⟨g1, o1 + k, none⟩ = some (.slice B1 (gg a k).length C1) ∧ w'.cell? ⟨g2, o2 + k, none⟩ = some (.slice B2 (gg b k).length C2)) (first | go_keep | exact ⟨(hb2.cell (p := ⟨g1, o1 + k, none⟩) hl1).trans x1, (hb2.cell (p := ⟨g2, o2 + k, none⟩) hl2).trans y1⟩) ((go_at_call 25; refine CS.out.mono ?_; rintro e w2 ⟨rfl, hb2⟩))
          go_wp2_with fail
          go_roundw
          case rel => exact ⟨k + 1, by omega, by go_num, bcl (bdr hb) hb2, HE⟩
          case measure => simp [intOf]; omega
        | false =>
          have hv : decide (a = b) = false := decide_eq_false fun h => of_decide_eq_false hq (by rw [h])
          rw [hq] at cs
          have CS := Lib.hid cs; have HV := Lib.hid hv
          clear cs hq hv
          go_wp2_with fail
          go_region_held3 (fun w' => w'.cell? ⟨g1, o1 + k, none⟩ = some (.slice B1 (gg a k).length C1) ∧ w'.cell? ⟨g2, o2 + k, none⟩ = some (.slice B2 (gg b k).length C2)) (first | go_keep | exact ⟨(hb2.cell (p := ⟨g1, o1 + k, none⟩) hl1).trans x1, (hb2.cell (p := ⟨g2, o2 + k, none⟩) hl2).trans y1⟩) ((go_at_call 25; refine CS.out.mono ?_; rintro e w2 ⟨rfl, hb2⟩))
          go_wp2_with fail
          rw [HV.out]
          go_ret
          exact ⟨rfl, bcl (bdr hb) hb2⟩
      · obtain rfl : k = a.length := by omega
        have hv : decide (a = b) = true := decide_eq_true (gg_ext HL.out he.out)
        have HV := Lib.hid hv; clear hv
        go_wp2_with fail
        rw [HV.out]
        go_ret
        exact ⟨rfl, hb⟩
  · have hne : ((a.length : Int) != (b.length : Int)) = true := by rw [bne_iff_ne]; omega
    have hv : decide (a = b) = false := decide_eq_false fun h => hl (by rw [h])
    have HV := Lib.hid hv; clear hv hl
    go_enter Tryd.func13, Tryd.ntmps13
    go_wp2_with fail
    rw [HV.out]
    go_ret
    exact ⟨rfl, Below.refl _ _⟩
end Go.Proofs.YthkaaheeblehhaaDoor
