/- The functions of package mod: what each returns. Leaves the world as it was. No premise but that ints are ints. -/
import Derived.Test.YtamndgeeibfmhaaDoorBase
import Derived.Test.YtamndgeeibfmhaaDoorMath
import Derived.WalkKit
import Derived.Lib.Hide
import Derived.WalkLawsBesides
import Derived.WalkSpells
import Derived.Deep.QuietTactic
import Derived.BigQuiet
namespace Go.Proofs.YtamndgeeibfmhaaDoor
open Go.RowKit


/-- is a number one of these? -/
def inB (n : Int) : Bool := decide (0 ≤ n) && decide (n < 257)
theorem inB_true {n : Int} : inB n = true ↔ 0 ≤ n ∧ n < 257 := by simp [inB]
theorem inB_false {n : Int} : inB n = false ↔ n < 0 ∨ 257 ≤ n := by
  rw [← Bool.not_eq_true, inB_true]; omega

theorem in_any (n : Int) (w : World) : Calls Tryd.prog 57 #[.int .i64 n] w fun e w' => e = .returned (.bool (inB n)) ∧ w = w' := by
  by_cases h0 : 0 ≤ n
  · by_cases h1 : n < 257
    · have hr : inB n = true := inB_true.2 ⟨h0, h1⟩
      rw [hr]
      clear hr
      go_enter Tryd.func57, Tryd.ntmps57
      go_wp2
      go_ret
      exact ⟨rfl, rfl⟩
    · have hr : inB n = false := inB_false.2 (by omega)
      rw [hr]
      clear hr
      go_enter Tryd.func57, Tryd.ntmps57
      go_wp2
      go_ret
      exact ⟨rfl, rfl⟩
  · have hr : inB n = false := inB_false.2 (by omega)
    rw [hr]
    clear hr
    go_enter Tryd.func57, Tryd.ntmps57
    go_wp2
    go_ret
    exact ⟨rfl, rfl⟩

theorem ofInt_i64 (a : Nat) (ha : a < 9223372036854775808) : (BitVec.ofInt 64 (a : Int)).toNat = a := by
  rw [BitVec.ofInt_natCast, BitVec.toNat_ofNat]; exact Nat.mod_eq_of_lt (by omega)
theorem and_one (n : Nat) (h : n < 9223372036854775808) : bits .and .i64 (n : Int) 1 = ((n % 2 : Nat) : Int) := by
  show IntKind.i64.wrap ((BitVec.ofInt 64 (n : Int) &&& BitVec.ofInt 64 ((1 : Nat) : Int)).toNat : Int) = _
  rw [BitVec.toNat_and, ofInt_i64 n h, ofInt_i64 1 (by omega), Nat.and_one_is_mod, IntKind.wrap_i64]
  omega

theorem mul_bd {x y b : Int} (hx : 0 ≤ x) (hx' : x < b) (hy : 0 ≤ y) (hy' : y < b) (hb : b ≤ 1000000) : 0 ≤ x * y ∧ x * y ≤ 1000000000000 := by
  refine ⟨Int.mul_nonneg hx hy, ?_⟩
  have := Int.mul_le_mul (a := x) (c := 1000000) (b := y) (d := 1000000) (by omega) (by omega) hy (by omega)
  omega

set_option maxHeartbeats 400000 in
theorem raised_any (a n by' : Int) (w : World) (hby : 2 ≤ by') (hby' : by' ≤ 1000000) (ha : 0 ≤ a) (ha' : a < by') (hn : 0 ≤ n) (hn' : n ≤ 1000000) :
    Calls Tryd.prog 78 #[.int .i64 a, .int .i64 n, .int .i64 by'] w fun e w' => e = .returned (.int .i64 (a ^ n.toNat % by')) ∧ w = w' := by
  go_enter Tryd.func78, Tryd.ntmps78
  go_wp2
  go_loop [0, 1, 7] (fun a' n' o => ∃ (x y : Int) (k : Nat), 0 ≤ x ∧ x < by' ∧ 0 ≤ y ∧ y < by' ∧ k ≤ 1000000 ∧ a' = .int .i64 x ∧ n' = .int .i64 k ∧ o = .int .i64 y ∧ Hid (y * x ^ k % by' = a ^ n.toNat % by')) (fun _ n' _ => (intOf n').toNat)
  case atStart =>
    obtain ⟨m, rfl⟩ := Int.eq_ofNat_of_zero_le hn
    refine ⟨a, 1, m, ha, ha', by omega, by omega, by omega, rfl, rfl, rfl, ?_⟩
    show 1 * a ^ m % by' = a ^ (m : Int).toNat % by'
    rw [Int.one_mul, Int.toNat_natCast]
  case round =>
    obtain ⟨x, y, k, hx, hx', hy, hy', hk, rfl, rfl, rfl, he⟩ := hrel
    have h2 := and_one k (by omega)
    obtain ⟨hxx, hxx'⟩ := mul_bd hx hx' hx hx' hby'
    obtain ⟨hyx, hyx'⟩ := mul_bd hy hy' hx hx' hby'
    by_cases hk0 : 0 < k
    · rcases Nat.mod_two_eq_zero_or_one k with h0 | h0
      · have hb : ((k : Int) % 2 == 1) = false := beq_eq_false_iff_ne.2 (by omega)
        have H0 := Lib.hid h0; clear h0
        go_wp2
        go_round
        case rel =>
          refine ⟨x * x % by', y, k / 2, Int.emod_nonneg _ (by omega), Int.emod_lt_of_pos _ (by omega), hy, hy', by omega, rfl, rfl, rfl, ?_⟩
          show y * (x * x % by') ^ (k / 2) % by' = _
          have := PM.pow_step x y by' k
          rw [if_neg (by have := H0.out; omega)] at this
          rw [← this]; exact he.out
        case measure => simp [intOf]; omega
      · have hb : ((k : Int) % 2 == 1) = true := beq_iff_eq.2 (by omega)
        have H0 := Lib.hid h0; clear h0
        go_wp2
        go_round
        case rel =>
          refine ⟨x * x % by', y * x % by', k / 2, Int.emod_nonneg _ (by omega), Int.emod_lt_of_pos _ (by omega), Int.emod_nonneg _ (by omega), Int.emod_lt_of_pos _ (by omega), by omega, rfl, rfl, rfl, ?_⟩
          show y * x % by' * (x * x % by') ^ (k / 2) % by' = _
          have := PM.pow_step x y by' k
          rw [if_pos H0.out] at this
          rw [← this]; exact he.out
        case measure => simp [intOf]; omega
    · obtain rfl : k = 0 := by omega
      go_wp2
      go_ret
      have := he.out
      rw [Int.pow_zero, Int.mul_one, Int.emod_eq_of_lt hy hy'] at this
      exact ⟨ret_int this, rfl⟩

theorem turned_any (a : Int) (w : World) (ha : 0 ≤ a) (ha' : a < 257) :
    Calls Tryd.prog 81 #[.int .i64 a] w fun e w' => e = .returned (.int .i64 (PM.iv a)) ∧ w = w' := by
  have hc := fun W => raised_any a 255 257 W (by omega) (by omega) ha ha' (by omega) (by omega)
  have e : PM.iv a = a ^ (255 : Int).toNat % 257 := rfl
  rw [e]
  go_enter Tryd.func81, Tryd.ntmps81
  go_wp2_with (go_at_call 78; refine (hc _).mono ?_; rintro e w' ⟨rfl, rfl⟩)
  go_ret
  exact ⟨rfl, rfl⟩


/-- may Power be asked of these? -/
def powB (a n by' : Int) : Bool := decide (2 ≤ by') && decide (by' ≤ 1000000) && decide (0 ≤ a) && decide (a < by') && decide (0 ≤ n) && decide (n ≤ 1000000)
theorem powB_true {a n by' : Int} : powB a n by' = true ↔ 2 ≤ by' ∧ by' ≤ 1000000 ∧ 0 ≤ a ∧ a < by' ∧ 0 ≤ n ∧ n ≤ 1000000 := by simp [powB, and_assoc]
end Go.Proofs.YtamndgeeibfmhaaDoor
