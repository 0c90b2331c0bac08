/- ModFieldSaid: EACH BUT NOUGHT HAS ITS OTHER HALF (Fermat): for every five ints: what is asked of mod's sums, products, inverses and powers holds. -/
import Derived.Test.YtpmgmlmpiofnpaaRows
import Derived.Test.YtpmgmlmpiofnpaaMem
import Derived.Test.YtpmgmlmpiofnpaaMod
import Derived.WalkKit
import Derived.ProofKit
import Derived.OpenShut
import Derived.ShutString
import Derived.ChangeOld
import Derived.WalkLawsBesides
import Derived.WalkSpells
namespace Go.Proofs.Ytpmgmlmpiofnpaa.modField
open Go.ChangeShapes Go.WideShapes Go.ChangeAt Go.RowKit

/-- what a call returns, at other spelling -/
theorem spell {f : FuncId} {args : Array Value} {w : World} {v v' : Value} (h : Calls Try.prog f args w fun e w' => e = .returned v ∧ w = w') (e : v = v') : Calls Try.prog f args w fun e w' => e = .returned v' ∧ w = w' := by
  rw [← e]; exact h
theorem rng (z : Int) : 0 ≤ z % 257 ∧ z % 257 < 257 := by omega
theorem iv2 : PM.iv 2 = 129 := by decide +kernel
theorem dist (a b c : Int) : a * ((b + c) % 257) % 257 = (a * b % 257 + a * c % 257) % 257 := by
  rw [← Int.add_emod, ← Int.mul_add, Int.mul_emod, Int.emod_emod_of_dvd _ (Int.dvd_refl _), ← Int.mul_emod]
theorem pows (a : Int) (n m : Nat) : a ^ n % 257 * (a ^ m % 257) % 257 = a ^ (n + m) % 257 := by
  rw [← Int.mul_emod, ← Int.pow_add]

theorem tup2 {a b : Int} (h : a = b) : Value.tuple #[.int .i64 a, .nilIface] = Value.tuple #[.int .i64 b, .nilIface] := by rw [h]

/-- the powers' end: n, m out of bounds, or the three powers -/
def PW (a n m : Int) : Prop := (n < 0 ∨ m < 0 ∨ 500000 < n ∨ 500000 < m) ∨
  (0 ≤ n ∧ 0 ≤ m ∧ n ≤ 500000 ∧ m ≤ 500000 ∧ ∃ x y z : Int,
    (∀ W, Calls Try.prog 21 #[.int .i64 a, .int .i64 n, .int .i64 257] W fun e w' => e = .returned (.tuple #[.int .i64 x, .nilIface]) ∧ W = w') ∧
    (∀ W, Calls Try.prog 21 #[.int .i64 a, .int .i64 m, .int .i64 257] W fun e w' => e = .returned (.tuple #[.int .i64 y, .nilIface]) ∧ W = w') ∧
    (∀ W, Calls Try.prog 21 #[.int .i64 a, .int .i64 (n + m), .int .i64 257] W fun e w' => e = .returned (.tuple #[.int .i64 z, .nilIface]) ∧ W = w') ∧
    (∀ W, Calls Try.prog 19 #[.int .i64 x, .int .i64 y] W fun e w' => e = .returned (.tuple #[.int .i64 z, .nilIface]) ∧ W = w'))
theorem pw (a n m : Int) (a0 : 0 ≤ a) (a1 : a < 257) : PW a n m := by
  by_cases h : n < 0 ∨ m < 0 ∨ 500000 < n ∨ 500000 < m
  · exact .inl h
  · refine .inr ⟨by omega, by omega, by omega, by omega, a ^ n.toNat % 257, a ^ m.toNat % 257, a ^ (n + m).toNat % 257, fun W => ?_, fun W => ?_, fun W => ?_, fun W => ?_⟩
    · exact power_ok a n 257 W (powB_true.2 ⟨by omega, by omega, a0, a1, by omega, by omega⟩)
    · exact power_ok a m 257 W (powB_true.2 ⟨by omega, by omega, a0, a1, by omega, by omega⟩)
    · exact power_ok a (n + m) 257 W (powB_true.2 ⟨by omega, by omega, a0, a1, by omega, by omega⟩)
    · refine spell (times_ok _ _ W (rng _).1 (rng _).2 (rng _).1 (rng _).2) (tup2 ?_)
      rw [pows, show (n + m).toNat = n.toNat + m.toNat by omega]
/-- the sums' end: c is none of these, or all goes -/
def CW (a b c x : Int) : Prop :=
  (∀ W, Calls Try.prog 20 #[.int .i64 b, .int .i64 c] W fun e w' => e = .returned (.tuple #[.int .i64 0, errV 1]) ∧ W = w') ∨
  ∃ s t u : Int, (∀ W, Calls Try.prog 20 #[.int .i64 b, .int .i64 c] W fun e w' => e = .returned (.tuple #[.int .i64 s, .nilIface]) ∧ W = w') ∧
    (∀ W, Calls Try.prog 19 #[.int .i64 a, .int .i64 c] W fun e w' => e = .returned (.tuple #[.int .i64 t, .nilIface]) ∧ W = w') ∧
    (∀ W, Calls Try.prog 19 #[.int .i64 a, .int .i64 s] W fun e w' => e = .returned (.tuple #[.int .i64 u, .nilIface]) ∧ W = w') ∧
    (∀ W, Calls Try.prog 20 #[.int .i64 x, .int .i64 t] W fun e w' => e = .returned (.tuple #[.int .i64 u, .nilIface]) ∧ W = w')
theorem cw (a b c x : Int) (a0 : 0 ≤ a) (a1 : a < 257) (b0 : 0 ≤ b) (b1 : b < 257) (hx : a * b % 257 = x) : CW a b c x := by
  cases h : inB c
  · exact .inl fun W => add_no b c W (.inr h)
  · obtain ⟨c0, c1⟩ := inB_true.1 h
    subst hx
    refine .inr ⟨(b + c) % 257, a * c % 257, a * ((b + c) % 257) % 257, fun W => add_ok b c W b0 b1 c0 c1, fun W => times_ok a c W a0 a1 c0 c1, fun W => times_ok _ _ W a0 a1 (rng _).1 (rng _).2, fun W => ?_⟩
    exact spell (add_ok _ _ W (rng _).1 (rng _).2 (rng _).1 (rng _).2) (tup2 (dist a b c).symm)
/-- the inverse's part: a is 0, or its inverse -/
def IW (a : Int) : Prop := (∀ W, Calls Try.prog 23 #[.int .i64 a] W fun e w' => e = .returned (.tuple #[.int .i64 0, errV 5]) ∧ W = w') ∨
  ∃ i : Int, (∀ W, Calls Try.prog 23 #[.int .i64 a] W fun e w' => e = .returned (.tuple #[.int .i64 i, .nilIface]) ∧ W = w') ∧
    (∀ W, Calls Try.prog 19 #[.int .i64 a, .int .i64 i] W fun e w' => e = .returned (.tuple #[.int .i64 1, .nilIface]) ∧ W = w')
theorem iw (a : Int) (a0 : 0 ≤ a) (a1 : a < 257) : IW a := by
  by_cases h : a = 0
  · subst h; exact .inl fun W => inverse_zero W
  · exact .inr ⟨PM.iv a, fun W => inverse_ok a W (by omega) a1, fun W => spell (times_ok a _ W a0 a1 (PM.iv_range a).1 (PM.iv_range a).2) (tup2 (PM.iv_mul a (by omega) a1))⟩

set_option maxHeartbeats 4000000 in
set_option maxRecDepth 100000 in
theorem walk (w : World) (a : Int) (_ : I64 a) (b : Int) (_ : I64 b) (c : Int) (_ : I64 c) (n : Int) (_ : I64 n) (m : Int) (_ : I64 m) :
    Calls Try.prog 7 #[.int .i64 a, .int .i64 b, .int .i64 c, .int .i64 n, .int .i64 m] w fun e w' => e = .returned (.bool true) ∧ Below w.heap.size w w' := by
  have c2 : ∀ W, Calls Try.prog 23 #[.int .i64 2] W fun e w' => e = .returned (.tuple #[.int .i64 129, .nilIface]) ∧ W = w' := fun W =>
    spell (inverse_ok 2 W (by omega) (by omega)) (tup2 iv2)
  have C2 := Lib.hid c2; clear c2
  by_cases hab : inB a = true ∧ inB b = true
  · obtain ⟨ha, hb⟩ := hab
    obtain ⟨a0, a1⟩ := inB_true.1 ha
    obtain ⟨b0, b1⟩ := inB_true.1 hb
    clear ha hb
    obtain ⟨x, hx⟩ : ∃ x, a * b % 257 = x := ⟨_, rfl⟩
    have c3 : ∀ W, Calls Try.prog 19 #[.int .i64 a, .int .i64 b] W fun e w' => e = .returned (.tuple #[.int .i64 x, .nilIface]) ∧ W = w' := fun W =>
      spell (times_ok a b W a0 a1 b0 b1) (tup2 hx)
    have c4 : ∀ W, Calls Try.prog 19 #[.int .i64 b, .int .i64 a] W fun e w' => e = .returned (.tuple #[.int .i64 x, .nilIface]) ∧ W = w' := fun W =>
      spell (times_ok b a W b0 b1 a0 a1) (tup2 (by rw [Int.mul_comm]; exact hx))
    have c5 : ∀ W, Calls Try.prog 21 #[.int .i64 a, .int .i64 257, .int .i64 257] W fun e w' => e = .returned (.tuple #[.int .i64 a, .nilIface]) ∧ W = w' := fun W =>
      spell (power_ok a 257 257 W (powB_true.2 ⟨by omega, by omega, a0, a1, by omega, by omega⟩)) (tup2 (PM.pow257 a a0 a1))
    have C3 := Lib.hid c3; have C4 := Lib.hid c4; have C5 := Lib.hid c5
    have I := iw a a0 a1
    have P := pw a n m a0 a1
    have S := cw a b c x a0 a1 b0 b1 hx
    clear c3 c4 c5 hx a0 a1 b0 b1
    rcases I with c6 | ⟨i, c6, c7⟩
    · have C6 := Lib.hid c6; clear c6
      rcases S with s1 | ⟨s, t, u, s1, s2, s3, s4⟩
      · have S1 := Lib.hid s1; clear s1
        rcases P with hn | ⟨n0, m0, n1, m1, p, q, r, p1, p2, p3, p4⟩
        · rcases hn with hn | hn | hn | hn
          all_goals
            go_enter Try.func7, Try.ntmps7
            go_wp2_with fail
            refine (C2.out _).mono ?_
            rintro e w' ⟨rfl, rfl⟩
            go_wp2_with fail
            refine (C3.out _).mono ?_
            rintro e w' ⟨rfl, rfl⟩
            go_wp2_with fail
            refine (C4.out _).mono ?_
            rintro e w' ⟨rfl, rfl⟩
            go_wp2_with fail
            refine (C6.out _).mono ?_
            rintro e w' ⟨rfl, rfl⟩
            go_wp2_with fail
            refine (C5.out _).mono ?_
            rintro e w' ⟨rfl, rfl⟩
            go_wp2_with fail
            refine (S1.out _).mono ?_
            rintro e w' ⟨rfl, rfl⟩
            go_wp2_with fail
            all_goals go_ret
            all_goals exact ⟨ret_true (by first | rfl | (simp; done) | (simp; omega)), Below.refl _ _⟩
        · have P1 := Lib.hid p1; have P2 := Lib.hid p2; have P3 := Lib.hid p3; have P4 := Lib.hid p4; clear p1 p2 p3 p4
          go_enter Try.func7, Try.ntmps7
          go_wp2_with fail
          refine (C2.out _).mono ?_
          rintro e w' ⟨rfl, rfl⟩
          go_wp2_with fail
          refine (C3.out _).mono ?_
          rintro e w' ⟨rfl, rfl⟩
          go_wp2_with fail
          refine (C4.out _).mono ?_
          rintro e w' ⟨rfl, rfl⟩
          go_wp2_with fail
          refine (C6.out _).mono ?_
          rintro e w' ⟨rfl, rfl⟩
          go_wp2_with fail
          refine (C5.out _).mono ?_
          rintro e w' ⟨rfl, rfl⟩
          go_wp2_with fail
          refine (S1.out _).mono ?_
          rintro e w' ⟨rfl, rfl⟩
          go_wp2_with fail
          refine (P1.out _).mono ?_
          rintro e w' ⟨rfl, rfl⟩
          go_wp2_with fail
          refine (P2.out _).mono ?_
          rintro e w' ⟨rfl, rfl⟩
          go_wp2_with fail
          refine (P3.out _).mono ?_
          rintro e w' ⟨rfl, rfl⟩
          go_wp2_with fail
          refine (P4.out _).mono ?_
          rintro e w' ⟨rfl, rfl⟩
          go_wp2_with fail
          all_goals go_ret
          all_goals exact ⟨ret_true (by first | rfl | (simp; done) | (simp; omega)), Below.refl _ _⟩
      · have S1 := Lib.hid s1; have S2 := Lib.hid s2; have S3 := Lib.hid s3; have S4 := Lib.hid s4; clear s1 s2 s3 s4
        rcases P with hn | ⟨n0, m0, n1, m1, p, q, r, p1, p2, p3, p4⟩
        · rcases hn with hn | hn | hn | hn
          all_goals
            go_enter Try.func7, Try.ntmps7
            go_wp2_with fail
            refine (C2.out _).mono ?_
            rintro e w' ⟨rfl, rfl⟩
            go_wp2_with fail
            refine (C3.out _).mono ?_
            rintro e w' ⟨rfl, rfl⟩
            go_wp2_with fail
            refine (C4.out _).mono ?_
            rintro e w' ⟨rfl, rfl⟩
            go_wp2_with fail
            refine (C6.out _).mono ?_
            rintro e w' ⟨rfl, rfl⟩
            go_wp2_with fail
            refine (C5.out _).mono ?_
            rintro e w' ⟨rfl, rfl⟩
            go_wp2_with fail
            refine (S1.out _).mono ?_
            rintro e w' ⟨rfl, rfl⟩
            go_wp2_with fail
            refine (S2.out _).mono ?_
            rintro e w' ⟨rfl, rfl⟩
            go_wp2_with fail
            refine (S3.out _).mono ?_
            rintro e w' ⟨rfl, rfl⟩
            go_wp2_with fail
            refine (S4.out _).mono ?_
            rintro e w' ⟨rfl, rfl⟩
            go_wp2_with fail
            all_goals go_ret
            all_goals exact ⟨ret_true (by first | rfl | (simp; done) | (simp; omega)), Below.refl _ _⟩
        · have P1 := Lib.hid p1; have P2 := Lib.hid p2; have P3 := Lib.hid p3; have P4 := Lib.hid p4; clear p1 p2 p3 p4
          go_enter Try.func7, Try.ntmps7
          go_wp2_with fail
          refine (C2.out _).mono ?_
          rintro e w' ⟨rfl, rfl⟩
          go_wp2_with fail
          refine (C3.out _).mono ?_
          rintro e w' ⟨rfl, rfl⟩
          go_wp2_with fail
          refine (C4.out _).mono ?_
          rintro e w' ⟨rfl, rfl⟩
          go_wp2_with fail
          refine (C6.out _).mono ?_
          rintro e w' ⟨rfl, rfl⟩
          go_wp2_with fail
          refine (C5.out _).mono ?_
          rintro e w' ⟨rfl, rfl⟩
          go_wp2_with fail
          refine (S1.out _).mono ?_
          rintro e w' ⟨rfl, rfl⟩
          go_wp2_with fail
          refine (S2.out _).mono ?_
          rintro e w' ⟨rfl, rfl⟩
          go_wp2_with fail
          refine (S3.out _).mono ?_
          rintro e w' ⟨rfl, rfl⟩
          go_wp2_with fail
          refine (S4.out _).mono ?_
          rintro e w' ⟨rfl, rfl⟩
          go_wp2_with fail
          refine (P1.out _).mono ?_
          rintro e w' ⟨rfl, rfl⟩
          go_wp2_with fail
          refine (P2.out _).mono ?_
          rintro e w' ⟨rfl, rfl⟩
          go_wp2_with fail
          refine (P3.out _).mono ?_
          rintro e w' ⟨rfl, rfl⟩
          go_wp2_with fail
          refine (P4.out _).mono ?_
          rintro e w' ⟨rfl, rfl⟩
          go_wp2_with fail
          all_goals go_ret
          all_goals exact ⟨ret_true (by first | rfl | (simp; done) | (simp; omega)), Below.refl _ _⟩
    · have C6 := Lib.hid c6; have C7 := Lib.hid c7; clear c6 c7
      rcases S with s1 | ⟨s, t, u, s1, s2, s3, s4⟩
      · have S1 := Lib.hid s1; clear s1
        rcases P with hn | ⟨n0, m0, n1, m1, p, q, r, p1, p2, p3, p4⟩
        · rcases hn with hn | hn | hn | hn
          all_goals
            go_enter Try.func7, Try.ntmps7
            go_wp2_with fail
            refine (C2.out _).mono ?_
            rintro e w' ⟨rfl, rfl⟩
            go_wp2_with fail
            refine (C3.out _).mono ?_
            rintro e w' ⟨rfl, rfl⟩
            go_wp2_with fail
            refine (C4.out _).mono ?_
            rintro e w' ⟨rfl, rfl⟩
            go_wp2_with fail
            refine (C6.out _).mono ?_
            rintro e w' ⟨rfl, rfl⟩
            go_wp2_with fail
            refine (C7.out _).mono ?_
            rintro e w' ⟨rfl, rfl⟩
            go_wp2_with fail
            refine (C5.out _).mono ?_
            rintro e w' ⟨rfl, rfl⟩
            go_wp2_with fail
            refine (S1.out _).mono ?_
            rintro e w' ⟨rfl, rfl⟩
            go_wp2_with fail
            all_goals go_ret
            all_goals exact ⟨ret_true (by first | rfl | (simp; done) | (simp; omega)), Below.refl _ _⟩
        · have P1 := Lib.hid p1; have P2 := Lib.hid p2; have P3 := Lib.hid p3; have P4 := Lib.hid p4; clear p1 p2 p3 p4
          go_enter Try.func7, Try.ntmps7
          go_wp2_with fail
          refine (C2.out _).mono ?_
          rintro e w' ⟨rfl, rfl⟩
          go_wp2_with fail
          refine (C3.out _).mono ?_
          rintro e w' ⟨rfl, rfl⟩
          go_wp2_with fail
          refine (C4.out _).mono ?_
          rintro e w' ⟨rfl, rfl⟩
          go_wp2_with fail
          refine (C6.out _).mono ?_
          rintro e w' ⟨rfl, rfl⟩
          go_wp2_with fail
          refine (C7.out _).mono ?_
          rintro e w' ⟨rfl, rfl⟩
          go_wp2_with fail
          refine (C5.out _).mono ?_
          rintro e w' ⟨rfl, rfl⟩
          go_wp2_with fail
          refine (S1.out _).mono ?_
          rintro e w' ⟨rfl, rfl⟩
          go_wp2_with fail
          refine (P1.out _).mono ?_
          rintro e w' ⟨rfl, rfl⟩
          go_wp2_with fail
          refine (P2.out _).mono ?_
          rintro e w' ⟨rfl, rfl⟩
          go_wp2_with fail
          refine (P3.out _).mono ?_
          rintro e w' ⟨rfl, rfl⟩
          go_wp2_with fail
          refine (P4.out _).mono ?_
          rintro e w' ⟨rfl, rfl⟩
          go_wp2_with fail
          all_goals go_ret
          all_goals exact ⟨ret_true (by first | rfl | (simp; done) | (simp; omega)), Below.refl _ _⟩
      · have S1 := Lib.hid s1; have S2 := Lib.hid s2; have S3 := Lib.hid s3; have S4 := Lib.hid s4; clear s1 s2 s3 s4
        rcases P with hn | ⟨n0, m0, n1, m1, p, q, r, p1, p2, p3, p4⟩
        · rcases hn with hn | hn | hn | hn
          all_goals
            go_enter Try.func7, Try.ntmps7
            go_wp2_with fail
            refine (C2.out _).mono ?_
            rintro e w' ⟨rfl, rfl⟩
            go_wp2_with fail
            refine (C3.out _).mono ?_
            rintro e w' ⟨rfl, rfl⟩
            go_wp2_with fail
            refine (C4.out _).mono ?_
            rintro e w' ⟨rfl, rfl⟩
            go_wp2_with fail
            refine (C6.out _).mono ?_
            rintro e w' ⟨rfl, rfl⟩
            go_wp2_with fail
            refine (C7.out _).mono ?_
            rintro e w' ⟨rfl, rfl⟩
            go_wp2_with fail
            refine (C5.out _).mono ?_
            rintro e w' ⟨rfl, rfl⟩
            go_wp2_with fail
            refine (S1.out _).mono ?_
            rintro e w' ⟨rfl, rfl⟩
            go_wp2_with fail
            refine (S2.out _).mono ?_
            rintro e w' ⟨rfl, rfl⟩
            go_wp2_with fail
            refine (S3.out _).mono ?_
            rintro e w' ⟨rfl, rfl⟩
            go_wp2_with fail
            refine (S4.out _).mono ?_
            rintro e w' ⟨rfl, rfl⟩
            go_wp2_with fail
            all_goals go_ret
            all_goals exact ⟨ret_true (by first | rfl | (simp; done) | (simp; omega)), Below.refl _ _⟩
        · have P1 := Lib.hid p1; have P2 := Lib.hid p2; have P3 := Lib.hid p3; have P4 := Lib.hid p4; clear p1 p2 p3 p4
          go_enter Try.func7, Try.ntmps7
          go_wp2_with fail
          refine (C2.out _).mono ?_
          rintro e w' ⟨rfl, rfl⟩
          go_wp2_with fail
          refine (C3.out _).mono ?_
          rintro e w' ⟨rfl, rfl⟩
          go_wp2_with fail
          refine (C4.out _).mono ?_
          rintro e w' ⟨rfl, rfl⟩
          go_wp2_with fail
          refine (C6.out _).mono ?_
          rintro e w' ⟨rfl, rfl⟩
          go_wp2_with fail
          refine (C7.out _).mono ?_
          rintro e w' ⟨rfl, rfl⟩
          go_wp2_with fail
          refine (C5.out _).mono ?_
          rintro e w' ⟨rfl, rfl⟩
          go_wp2_with fail
          refine (S1.out _).mono ?_
          rintro e w' ⟨rfl, rfl⟩
          go_wp2_with fail
          refine (S2.out _).mono ?_
          rintro e w' ⟨rfl, rfl⟩
          go_wp2_with fail
          refine (S3.out _).mono ?_
          rintro e w' ⟨rfl, rfl⟩
          go_wp2_with fail
          refine (S4.out _).mono ?_
          rintro e w' ⟨rfl, rfl⟩
          go_wp2_with fail
          refine (P1.out _).mono ?_
          rintro e w' ⟨rfl, rfl⟩
          go_wp2_with fail
          refine (P2.out _).mono ?_
          rintro e w' ⟨rfl, rfl⟩
          go_wp2_with fail
          refine (P3.out _).mono ?_
          rintro e w' ⟨rfl, rfl⟩
          go_wp2_with fail
          refine (P4.out _).mono ?_
          rintro e w' ⟨rfl, rfl⟩
          go_wp2_with fail
          all_goals go_ret
          all_goals exact ⟨ret_true (by first | rfl | (simp; done) | (simp; omega)), Below.refl _ _⟩
  · have h : inB a = false ∨ inB b = false := by
      cases h1 : inB a
      · exact .inl rfl
      · cases h2 : inB b
        · exact .inr rfl
        · exact absurd ⟨h1, h2⟩ hab
    have c3 := fun W => times_no a b W h
    have c4 := fun W => times_no b a W h.symm
    have C3 := Lib.hid c3; have C4 := Lib.hid c4; clear c3 c4 h hab
    go_enter Try.func7, Try.ntmps7
    go_wp2_with fail
    refine (C2.out _).mono ?_
    rintro e w' ⟨rfl, rfl⟩
    go_wp2_with fail
    refine (C3.out _).mono ?_
    rintro e w' ⟨rfl, rfl⟩
    go_wp2_with fail
    refine (C4.out _).mono ?_
    rintro e w' ⟨rfl, rfl⟩
    go_wp2_with fail
    all_goals go_ret
    all_goals exact ⟨ret_true (by first | rfl | (simp; done) | (simp; omega)), Below.refl _ _⟩

/-! ### the row's frame -/
theorem own : ownKnob Try.prog.godebug = none := by kernel_rfl
theorem laidOut : laidOutB Try.prog = true := by kernel_rfl

set_option maxRecDepth 100000 in
theorem lifted (os : Os) (started : os.Started) (H : Type) (enc : TypeId × Value → H) :
    ReturnsInHanded {} Try.checked os 7 .any (Rows.modFieldSpec.pre6 enc Try.prog Try.f7 Rows.modFieldRow.domain false) (Rows.modFieldSpec.post enc Try.prog Try.f7 false true false false) := by
  refine returnsInHanded_of_change (C := Try.checked) own started (by kernel_rfl) Try.func7
    (ChangeSpec.witness6 (enc := enc) (C := Try.checked) false ⟨#[], #[.int .i64 0, .int .i64 0, .int .i64 0, .int .i64 0, .int .i64 0], []⟩ 8 (by kernel_rfl) (by kernel_rfl) (by kernel_rfl) (by kernel_rfl)) ?_
  intro W base args ds gs before hval0 hW hcnd _
  have hval : ∀ (j : Nat) t v, Try.f7.params[j]? = some t → args[j]? = some v → Value.okWide Try.prog W .any base t v := hval0
  have hW' := hW
  obtain ⟨p, q, hA0, hV, rfl, hfz, hnd⟩ := hW
  have hA : DataW.TrodAll enc Try.prog W 0 (fun _ => true) true Try.f7.params.toList args.toList ds p := hA0
  rw [Try.params7] at hA hval
  obtain ⟨v0, vs0, d0, ds0, p0, q0, hargs, rfl, rfl, h0, r0⟩ := trodAll_cons hA
  obtain ⟨v1, vs1, d1, ds1, p1, q1, rfl, rfl, rfl, h1, r1⟩ := trodAll_cons r0
  obtain ⟨v2, vs2, d2, ds2, p2, q2, rfl, rfl, rfl, h2, r2⟩ := trodAll_cons r1
  obtain ⟨v3, vs3, d3, ds3, p3, q3, rfl, rfl, rfl, h3, r3⟩ := trodAll_cons r2
  obtain ⟨v4, vs4, d4, ds4, p4, q4, rfl, rfl, rfl, h4, r4⟩ := trodAll_cons r3
  obtain ⟨rfl, rfl, rfl⟩ := trodAll_nil r4
  obtain rfl : args = #[v0, v1, v2, v3, v4] := by cases args; simp_all
  obtain ⟨rfl, rfl⟩ := trodVars_none hV
  have k0 := h0
  have lt0 : ∀ x ∈ p0, x.block < W.heap.size := by obtain ⟨m, hm⟩ := k0; exact DataW.trod_lt m _ _ _ hm
  obtain ⟨x0, rfl, w0⟩ := arg_int Try.underlying3 (hval 0 3 v0 rfl rfl) h0
  have k1 := h1
  have lt1 : ∀ x ∈ p1, x.block < W.heap.size := by obtain ⟨m, hm⟩ := k1; exact DataW.trod_lt m _ _ _ hm
  obtain ⟨x1, rfl, w1⟩ := arg_int Try.underlying3 (hval 1 3 v1 rfl rfl) h1
  have k2 := h2
  have lt2 : ∀ x ∈ p2, x.block < W.heap.size := by obtain ⟨m, hm⟩ := k2; exact DataW.trod_lt m _ _ _ hm
  obtain ⟨x2, rfl, w2⟩ := arg_int Try.underlying3 (hval 2 3 v2 rfl rfl) h2
  have k3 := h3
  have lt3 : ∀ x ∈ p3, x.block < W.heap.size := by obtain ⟨m, hm⟩ := k3; exact DataW.trod_lt m _ _ _ hm
  obtain ⟨x3, rfl, w3⟩ := arg_int Try.underlying3 (hval 3 3 v3 rfl rfl) h3
  have k4 := h4
  have lt4 : ∀ x ∈ p4, x.block < W.heap.size := by obtain ⟨m, hm⟩ := k4; exact DataW.trod_lt m _ _ _ hm
  obtain ⟨x4, rfl, w4⟩ := arg_int Try.underlying3 (hval 4 3 v4 rfl rfl) h4
  clear hA0 hval0
  refine (walk W x0 w0 x1 w1 x2 w2 x3 w3 x4 w4).mono fun e W' ⟨he, bel⟩ => ?_
  subst he
  exact ⟨_, rfl, _, _, _, [], _, [], hW', trodAll_mk1 (shut_bool Try.underlying4 _), (trodAll_cons_mk (Below.trod laidOut (by kernel_rfl) (of_decide_eq_true (by kernel_rfl)) k0 bel lt0) (trodAll_cons_mk (Below.trod laidOut (by kernel_rfl) (of_decide_eq_true (by kernel_rfl)) k1 bel lt1) (trodAll_cons_mk (Below.trod laidOut (by kernel_rfl) (of_decide_eq_true (by kernel_rfl)) k2 bel lt2) (trodAll_cons_mk (Below.trod laidOut (by kernel_rfl) (of_decide_eq_true (by kernel_rfl)) k3 bel lt3) (trodAll_cons_mk (Below.trod laidOut (by kernel_rfl) (of_decide_eq_true (by kernel_rfl)) k4 bel lt4) trodAll_mk0))))), rfl, bel.frame _, fun h => by cases h⟩

theorem over : Rows.modFieldRow.holds Try.pinned (OpenSpec.ofChange Rows.modFieldSpec) :=
  OpenClaim.holds_of_wide 7 Try.f7 rfl rfl rfl rfl rfl rfl rfl ⟨rfl, rfl, rfl, rfl, rfl⟩ rfl rfl rfl rfl rfl (by kernel_rfl) Try.func7 (by kernel_rfl)
    (of_decide_eq_true (by kernel_rfl)) (by unfold Func.isWrapper; first | (rw [if_pos (by decide +kernel)]; kernel_rfl) | (rw [if_neg (by decide +kernel)]; exact ⟨rfl, rfl⟩))
    (fun os started H enc _ => lifted os started H enc)

theorem proved : Rows.ModFieldSaid := over
#print axioms proved

end Go.Proofs.Ytpmgmlmpiofnpaa.modField
