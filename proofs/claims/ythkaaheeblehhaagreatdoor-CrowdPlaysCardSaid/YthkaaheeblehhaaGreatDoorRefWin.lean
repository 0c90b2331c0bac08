/- The second reference's Win: what it returns. -/
import Derived.Test.YthkaaheeblehhaaGreatDoorVotePlain
import Derived.Deep.QuietTactic
import Derived.BigQuiet
namespace Go.Proofs.YthkaaheeblehhaaGreatDoor
open Go.RowKit
set_option linter.unusedVariables false

def swV (ss : List ByteArray) (need : Int) : Value := match wn ss need ss.length with
  | some i => .tuple #[.string (gs ss i), .bool true]
  | none => .tuple #[.string ⟨#[]⟩, .bool false]
set_option maxHeartbeats 1600000 in
theorem swin_any (A : Option Addr) (cap : Nat) (ss : List ByteArray) (need : Int) (w : World) (hl : ss.length ≤ 7) (hA : Strs w A ss) :
    Calls Tryz.prog 18 #[.slice A ss.length cap, .int .i64 need] w fun e w' => e = .returned (swV ss need) ∧ Below w.heap.size w w' := by
  go_enter Tryz.func18, Tryz.ntmps18
  go_wp2_with fail
  go_loopw [6, 7, 8] (fun i _ _ wr => ∃ k : Nat, k ≤ ss.length ∧ i = .int .i64 k ∧ Hid (wn ss need k = none) ∧ Below w.heap.size w wr) (fun i _ _ _ => ss.length - (intOf i).toNat)
  case atStart => exact ⟨0, Nat.zero_le _, rfl, rfl, Below.refl _ _⟩
  case round =>
    obtain ⟨k, hk, rfl, hw, hb⟩ := hrel
    obtain ⟨wo, rfl⟩ : ∃ wo : World, wo = wr := ⟨_, rfl⟩
    by_cases hlt : k < ss.length
    · go_wp2_with fail
      go_loopw [7, 8] (fun n i wr => ∃ j : Nat, j ≤ k + 1 ∧ i = .int .i64 j ∧ n = .int .i64 (cn ss j (gs ss k)) ∧ Below w.heap.size w wr) (fun _ i _ => (k + 1) - (intOf i).toNat)
      case atStart => exact ⟨0, Nat.zero_le _, rfl, rfl, hb⟩
      case round =>
        obtain ⟨j, hj, rfl, rfl, hbj⟩ := hrel
        have hle := cn_le ss j (gs ss k)
        by_cases hjk : j < k + 1
        · obtain ⟨b, off, rfl, hbl, hc⟩ := (hA.below hbj (Nat.le_refl _)).at_ hlt
          obtain ⟨b2, off2, e2, hbl2, hd⟩ := (hA.below hbj (Nat.le_refl _)).at_ (i := j) (by omega)
          simp only [Option.some.injEq, Addr.mk.injEq, and_true] at e2
          obtain ⟨rfl, rfl⟩ := e2
          have hs := cn_succ ss j (gs ss k)
          have q1 : (0 : Int) ≤ j := by omega
          have q2 : (j : Int) < ss.length := by omega
          have q3 : (0 : Int) ≤ k := by omega
          have q4 : (k : Int) < ss.length := by omega
          by_cases he : gs ss k = gs ss j
          · rw [if_pos he] at hs
            have hq : ((gs ss j).toList == (gs ss k).toList) = true := by rw [he]; exact str_same _
            have HS := Lib.hid hs; clear hs he
            go_wp2_with fail
            go_quiet (fail)
            go_wp2_with fail
            go_roundw
            case rel => exact ⟨j + 1, by omega, by go_num, by rw [HS.out]; go_num, bdn hbj _⟩
            case measure => simp [intOf]; omega
          · rw [if_neg he] at hs
            have hq : ((gs ss j).toList == (gs ss k).toList) = false := str_other fun h => he h.symm
            have HS := Lib.hid hs; clear hs he
            go_wp2_with fail
            go_quiet (fail)
            go_wp2_with fail
            go_roundw
            case rel => exact ⟨j + 1, by omega, by go_num, by rw [HS.out]; go_num, bdn hbj _⟩
            case measure => simp [intOf]; omega
        · obtain rfl : j = k + 1 := by omega
          by_cases he : (cn ss (k + 1) (gs ss k) : Int) = need
          · have hv : swV ss need = .tuple #[.string (gs ss k), .bool true] := by
              have h1 : wn ss need (k + 1) = some k := by simp only [wn, hw.out]; rw [if_pos he]
              simp only [swV, wn_some h1 hlt]
            have hq : ((cn ss (k + 1) (gs ss k) : Int) == need) = true := beq_iff_eq.2 he
            have HV := Lib.hid hv; clear hv he
            obtain ⟨b, off, rfl, hbl, hc⟩ := (hA.below hbj (Nat.le_refl _)).at_ hlt
            go_wp2_with fail
            rw [HV.out]
            go_ret2
            exact ⟨rfl, hbj⟩
          · have hn : wn ss need (k + 1) = none := by simp only [wn, hw.out]; rw [if_neg he]
            have hq : ((cn ss (k + 1) (gs ss k) : Int) == need) = false := beq_eq_false_iff_ne.2 he
            have HN := Lib.hid hn; clear hn he
            go_wp2_with fail
            go_roundw
            case rel => exact ⟨k + 1, by omega, by go_num, HN, hbj⟩
            case measure => simp [intOf]; omega
    · obtain rfl : k = ss.length := by omega
      have hv : swV ss need = .tuple #[.string ⟨#[]⟩, .bool false] := by simp only [swV, hw.out]
      have HV := Lib.hid hv; clear hv
      go_wp2_with fail
      rw [HV.out]
      go_ret2
      exact ⟨rfl, hb⟩
end Go.Proofs.YthkaaheeblehhaaGreatDoor
