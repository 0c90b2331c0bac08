/- The functions of package mod: what each returns. Leaves the world as it was. No premise but that ints are ints. -/
import Derived.Test.YtpgemofkolmabaaGreatDoorBase
import Derived.Test.YtpgemofkolmabaaGreatDoorMath
import Derived.WalkKit
import Derived.Lib.Hide
import Derived.WalkLawsBesides
import Derived.WalkSpells
import Derived.Deep.QuietTactic
import Derived.BigQuiet
namespace Go.Proofs.YtpgemofkolmabaaGreatDoor
open Go.RowKit


/-- is a number one of these? -/
def inB (n : Int) : Bool := decide (0 ≤ n) && decide (n < 257)
theorem inB_true {n : Int} : inB n = true ↔ 0 ≤ n ∧ n < 257 := by simp [inB]
theorem inB_false {n : Int} : inB n = false ↔ n < 0 ∨ 257 ≤ n := by
  rw [← Bool.not_eq_true, inB_true]; omega

theorem in_any (n : Int) (w : World) : Calls Tryz.prog 198 #[.int .i64 n] w fun e w' => e = .returned (.bool (inB n)) ∧ w = w' := by
  by_cases h0 : 0 ≤ n
  · by_cases h1 : n < 257
    · have hr : inB n = true := inB_true.2 ⟨h0, h1⟩
      rw [hr]
      clear hr
      go_enter Tryz.func198, Tryz.ntmps198
      go_wp2
      go_ret
      exact ⟨rfl, rfl⟩
    · have hr : inB n = false := inB_false.2 (by omega)
      rw [hr]
      clear hr
      go_enter Tryz.func198, Tryz.ntmps198
      go_wp2
      go_ret
      exact ⟨rfl, rfl⟩
  · have hr : inB n = false := inB_false.2 (by omega)
    rw [hr]
    clear hr
    go_enter Tryz.func198, Tryz.ntmps198
    go_wp2
    go_ret
    exact ⟨rfl, rfl⟩

theorem ofInt_i64 (a : Nat) (ha : a < 9223372036854775808) : (BitVec.ofInt 64 (a : Int)).toNat = a := by
  rw [BitVec.ofInt_natCast, BitVec.toNat_ofNat]; exact Nat.mod_eq_of_lt (by omega)
theorem and_one (n : Nat) (h : n < 9223372036854775808) : bits .and .i64 (n : Int) 1 = ((n % 2 : Nat) : Int) := by
  show IntKind.i64.wrap ((BitVec.ofInt 64 (n : Int) &&& BitVec.ofInt 64 ((1 : Nat) : Int)).toNat : Int) = _
  rw [BitVec.toNat_and, ofInt_i64 n h, ofInt_i64 1 (by omega), Nat.and_one_is_mod, IntKind.wrap_i64]
  omega

theorem mul_bd {x y b : Int} (hx : 0 ≤ x) (hx' : x < b) (hy : 0 ≤ y) (hy' : y < b) (hb : b ≤ 1000000) : 0 ≤ x * y ∧ x * y ≤ 1000000000000 := by
  refine ⟨Int.mul_nonneg hx hy, ?_⟩
  have := Int.mul_le_mul (a := x) (c := 1000000) (b := y) (d := 1000000) (by omega) (by omega) hy (by omega)
  omega

/-- may Power be asked of these? -/
def powB (a n by' : Int) : Bool := decide (2 ≤ by') && decide (by' ≤ 1000000) && decide (0 ≤ a) && decide (a < by') && decide (0 ≤ n) && decide (n ≤ 1000000)
theorem powB_true {a n by' : Int} : powB a n by' = true ↔ 2 ≤ by' ∧ by' ≤ 1000000 ∧ 0 ≤ a ∧ a < by' ∧ 0 ≤ n ∧ n ≤ 1000000 := by simp [powB, and_assoc]
end Go.Proofs.YtpgemofkolmabaaGreatDoor
