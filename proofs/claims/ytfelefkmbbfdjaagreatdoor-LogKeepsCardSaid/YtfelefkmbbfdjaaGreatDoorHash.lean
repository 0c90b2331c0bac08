/- Numbers made of bytes: digest.Of and the reference's Hash. -/
import Derived.Test.YtfelefkmbbfdjaaGreatDoorBMem
import Derived.Test.YtfelefkmbbfdjaaGreatDoorBase
import Derived.Test.YtfelefkmbbfdjaaGreatDoorValue
import Derived.Lib.SlBytesConst
namespace Go.Proofs.YtfelefkmbbfdjaaGreatDoor
open Go.RowKit
set_option linter.unusedVariables false

/-- the number made of the first k bytes -/
def hs (s : ByteArray) : Nat → Int
  | 0 => 7
  | k + 1 => (31 * hs s k + gB s k) % 10007
theorem hs_range (s : ByteArray) (k : Nat) : 0 ≤ hs s k ∧ hs s k ≤ 10006 := by
  cases k with
  | zero => exact ⟨by show (0 : Int) ≤ 7; decide, by show (7 : Int) ≤ 10006; decide⟩
  | succ k => unfold hs; omega
set_option maxHeartbeats 800000 in
theorem digof_any (s : ByteArray) (hm : s.size ≤ maxLen) (w : World) :
    Calls Tryz.prog 52 #[.string s] w fun e w' => e = .returned (.int .i64 (hs s s.size)) ∧ Below w.heap.size w w' := by
  unfold maxLen at hm
  have hcv := fun w => run_bytes_of_string (P := Tryz.prog) w 9 117 5 s Tryz.underlying9 Tryz.underlying117 Tryz.underlying5
  have hA := byts_lit w s 5
  have HA := Lib.hid hA
  clear hA
  go_enter Tryz.func52, Tryz.ntmps52
  go_wp2_with fail
  go_loopw [3, 5, 9] (fun n _ i wr => ∃ k : Nat, k ≤ s.size ∧ i = .int .i64 k ∧ n = .int .i64 (hs s k) ∧ Byts wr (some ⟨w.heap.size, 0, none⟩) s ∧ Below w.heap.size w wr) (fun _ _ i _ => s.size - (intOf i).toNat)
  case atStart => exact ⟨0, Nat.zero_le _, rfl, rfl, HA.out _ _ rfl, bal (bdr (Below.refl _ _)) _⟩
  case round =>
    obtain ⟨k, hk, rfl, rfl, hb, hbw⟩ := hrel
    obtain ⟨r0, r1⟩ := hs_range s k
    by_cases hlt : k < s.size
    · obtain ⟨b, off, e, hbl, hc⟩ := hb.at_ hlt
      simp only [Option.some.injEq, Addr.mk.injEq, and_true] at e
      obtain ⟨rfl, rfl⟩ := e
      rw [Nat.zero_add] at hc
      have hn : hs s (k + 1) = (31 * hs s k + gB s k) % 10007 := rfl
      have HN := Lib.hid hn
      obtain ⟨g0, g1⟩ := gB_range s k
      clear hn
      generalize hs s k = h at *
      generalize gB s k = z at *
      go_wp2_with fail
      go_roundw
      case rel => exact ⟨k + 1, by omega, by go_num, by rw [HN.out], hb, hbw⟩
      case measure => simp [intOf]; omega
    · obtain rfl : k = s.size := by omega
      go_wp2_with fail
      go_ret
      exact ⟨rfl, hbw⟩
set_option maxHeartbeats 800000 in
theorem rhash_any (s : ByteArray) (hm : s.size ≤ maxLen) (w : World) :
    Calls Tryz.prog 36 #[.string s] w fun e w' => e = .returned (.int .i64 (hs s s.size)) ∧ w = w' := by
  unfold maxLen at hm
  go_enter Tryz.func36, Tryz.ntmps36
  go_wp2_with fail
  go_loop [3, 4] (fun n i => ∃ k : Nat, k ≤ s.size ∧ i = .int .i64 k ∧ n = .int .i64 (hs s k)) (fun _ i => s.size - (intOf i).toNat)
  case atStart => exact ⟨0, Nat.zero_le _, rfl, rfl⟩
  case round =>
    obtain ⟨k, hk, rfl, rfl⟩ := hrel
    obtain ⟨r0, r1⟩ := hs_range s k
    by_cases hlt : k < s.size
    · have hn : hs s (k + 1) = (31 * hs s k + gB s k) % 10007 := rfl
      rw [gB_lt hlt] at hn
      have HN := Lib.hid hn
      obtain ⟨g0, g1⟩ := gB_range s k
      rw [gB_lt hlt] at g0 g1
      clear hn
      generalize hs s k = h at *
      go_wp2_with fail
      go_round
      case rel => exact ⟨k + 1, by omega, by go_num, by rw [HN.out]⟩
      case measure => simp [intOf]; omega
    · obtain rfl : k = s.size := by omega
      go_wp2_with fail
      go_ret
      exact ⟨rfl, rfl⟩
end Go.Proofs.YtfelefkmbbfdjaaGreatDoor
