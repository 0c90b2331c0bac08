/- The reference's space: First, Count, Put, Get; are two lists of tuples the same? -/
import Derived.Test.YtfelefkmbbfdjaaGreatDoorVRef
import Derived.Test.YtfelefkmbbfdjaaGreatDoorSpcTake
import Derived.Test.YtfelefkmbbfdjaaGreatDoorChs
namespace Go.Proofs.YtfelefkmbbfdjaaGreatDoor
open Go.ChangeShapes Go.WideShapes Go.ChangeAt Go.RowKit
set_option linter.unusedVariables false

set_option maxHeartbeats 800000 in
set_option maxRecDepth 100000 in
theorem rfirst_any (p : Nat) (A : Option Addr) (c : Nat) (a : List Va) (hm : a.length ≤ maxLen) (E : Option Addr) (cap : Nat) (L : List (List Va)) (hL : L.length ≤ maxLen) (w : World) (hA : Vals w A a) (hM : Many Vals w E L) (hc : w.cell? ⟨p, 0, none⟩ = some (.slice E L.length cap)) :
    Calls Tryz.prog 57 #[.pointer (some ⟨p, 0, none⟩), .slice A a.length c] w fun e w' => e = .returned (.int .i64 (plc a L)) ∧ Below w.heap.size w w' := by
  have hp : p < w.heap.size := lt_of_cell hc
  unfold maxLen at hL
  obtain ⟨P, hP⟩ : ∃ P : Nat → Bool, P = fun i => fitB a (gg L i) := ⟨_, rfl⟩
  have hv : plc a L = idx P L.length := by rw [hP]; rfl
  rw [hv]
  have HP := Lib.hid hP; have HM := Lib.hid hm
  clear hv hP hm
  go_enter Tryz.func57, Tryz.ntmps57
  go_wp2_with fail
  go_loopw [5, 6] (fun i _ wr => ∃ k : Nat, k ≤ L.length ∧ i = .int .i64 k ∧ Hid (fst' P k = none) ∧ Below w.heap.size w wr) (fun i _ _ => L.length - (intOf i).toNat)
  case atStart => exact ⟨0, Nat.zero_le _, rfl, rfl, Below.refl _ _⟩
  case round =>
    obtain ⟨k, hk, rfl, hf, hb⟩ := hrel
    have hcr : wr.cell? ⟨p, 0, none⟩ = some (.slice E L.length cap) := (hb.cell (p := ⟨p, 0, none⟩) hp).trans hc
    by_cases hlt : k < L.length
    · obtain ⟨b, off, B, C, rfl, hbl, hc0, hv, _, _⟩ := (many_below hM hb).vat (i := k) hlt
      have cf := rfits_any A c a B C (gg L k) HM.out wr (hA.below hb (Nat.le_refl _)) hv
      have hpk : P k = fitB a (gg L k) := by rw [HP.out]
      rw [← hpk] at cf
      cases e : P k with
      | true =>
        have HI := Lib.hid (idx_some (p := P) (k := k + 1) (i := k) (n := L.length) (by simp only [fst', hf.out, e, if_true]) (by omega))
        rw [e] at cf
        have CF := Lib.hid cf; clear cf hpk e
        go_wp2_with (go_at_call 83; refine CF.out.mono ?_; rintro e w2 ⟨rfl, hb2⟩)
        rw [HI.out]
        go_ret
        exact ⟨rfl, bcl hb hb2⟩
      | false =>
        have HN := Lib.hid (show fst' P (k + 1) = none by simp [fst', hf.out, e])
        rw [e] at cf
        have CF := Lib.hid cf; clear cf hpk e
        go_wp2_with (go_at_call 83; refine CF.out.mono ?_; rintro e w2 ⟨rfl, hb2⟩)
        go_roundw
        case rel => exact ⟨k + 1, by omega, by go_num, HN, bcl hb hb2⟩
        case measure => simp [intOf]; omega
    · obtain rfl : k = L.length := by omega
      have HI := Lib.hid (idx_none hf.out)
      go_wp2_with fail
      rw [HI.out]
      go_ret
      exact ⟨rfl, hb⟩
end Go.Proofs.YtfelefkmbbfdjaaGreatDoor
