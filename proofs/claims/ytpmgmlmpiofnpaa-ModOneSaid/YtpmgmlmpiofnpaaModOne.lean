/- ModOneSaid: ONE IS ONE: times 1 it is itself, to the power of 0 it is 1. For every two ints. -/
import Derived.Test.YtpmgmlmpiofnpaaRows
import Derived.Test.YtpmgmlmpiofnpaaMem
import Derived.Test.YtpmgmlmpiofnpaaMod
import Derived.WalkKit
import Derived.ProofKit
import Derived.OpenShut
import Derived.ShutString
import Derived.ChangeOld
import Derived.WalkLawsBesides
import Derived.WalkSpells
namespace Go.Proofs.Ytpmgmlmpiofnpaa.modOne
open Go.ChangeShapes Go.WideShapes Go.ChangeAt Go.RowKit

set_option maxHeartbeats 800000 in
theorem walk (w : World) (a : Int) (_ : I64 a) (by' : Int) (_ : I64 by') : Calls Try.prog 5 #[.int .i64 a, .int .i64 by'] w fun e w' => e = .returned (.bool true) ∧ Below w.heap.size w w' := by
  by_cases ha : inB a = true
  · obtain ⟨h0, h1⟩ := inB_true.1 ha
    have ct : ∀ W, Calls Try.prog 19 #[.int .i64 a, .int .i64 1] W fun e w' => e = .returned (.tuple #[.int .i64 a, .nilIface]) ∧ W = w' := fun W =>
      (times_ok a 1 W h0 h1 (by omega) (by omega)).mono fun e w' ⟨he, hw⟩ => ⟨by rw [he, Int.mul_one, Int.emod_eq_of_lt h0 h1], hw⟩
    have ca : ∀ W, Calls Try.prog 20 #[.int .i64 a, .int .i64 0] W fun e w' => e = .returned (.tuple #[.int .i64 a, .nilIface]) ∧ W = w' := fun W =>
      (add_ok a 0 W h0 h1 (by omega) (by omega)).mono fun e w' ⟨he, hw⟩ => ⟨by rw [he, Int.add_zero, Int.emod_eq_of_lt h0 h1], hw⟩
    have cp : ∀ W, Calls Try.prog 21 #[.int .i64 a, .int .i64 0, .int .i64 257] W fun e w' => e = .returned (.tuple #[.int .i64 1, .nilIface]) ∧ W = w' := fun W =>
      (power_ok a 0 257 W (powB_true.2 ⟨by omega, by omega, h0, h1, by omega, by omega⟩)).mono fun e w' ⟨he, hw⟩ => ⟨by rw [he]; simp, hw⟩
    have Ct := Lib.hid ct; have Ca := Lib.hid ca; have Cp := Lib.hid cp
    clear ct ca cp ha
    by_cases hp : powB 1 5 by' = true
    · obtain ⟨g1, g2, _⟩ := powB_true.1 hp
      have cq : ∀ W, Calls Try.prog 21 #[.int .i64 1, .int .i64 5, .int .i64 by'] W fun e w' => e = .returned (.tuple #[.int .i64 1, .nilIface]) ∧ W = w' := fun W =>
        (power_ok 1 5 by' W hp).mono fun e w' ⟨he, hw⟩ => ⟨by rw [he, Int.one_pow, Int.emod_eq_of_lt (by omega) (by omega)], hw⟩
      have Cq := Lib.hid cq
      clear cq hp
      go_enter Try.func5, Try.ntmps5
      go_wp2_with fail
      refine (Ct.out _).mono ?_
      rintro e w' ⟨rfl, rfl⟩
      go_wp2_with fail
      refine (Ca.out _).mono ?_
      rintro e w' ⟨rfl, rfl⟩
      go_wp2_with fail
      refine (Cp.out _).mono ?_
      rintro e w' ⟨rfl, rfl⟩
      go_wp2_with fail
      refine (Cq.out _).mono ?_
      rintro e w' ⟨rfl, rfl⟩
      go_wp2_with fail
      go_ret
      exact ⟨rfl, Below.refl _ _⟩
    · have hp : powB 1 5 by' = false := by simpa using hp
      have hb : by' < 2 ∨ 1000000 < by' := by
        have : ¬ (powB 1 5 by' = true) := by rw [hp]; decide
        rw [powB_true] at this; omega
      have cq := fun W => power_no 1 5 by' W hp
      have Cq := Lib.hid cq
      clear cq hp
      rcases hb with hb | hb
      all_goals
        go_enter Try.func5, Try.ntmps5
        go_wp2_with fail
        refine (Ct.out _).mono ?_
        rintro e w' ⟨rfl, rfl⟩
        go_wp2_with fail
        refine (Ca.out _).mono ?_
        rintro e w' ⟨rfl, rfl⟩
        go_wp2_with fail
        refine (Cp.out _).mono ?_
        rintro e w' ⟨rfl, rfl⟩
        go_wp2_with fail
        refine (Cq.out _).mono ?_
        rintro e w' ⟨rfl, rfl⟩
        go_wp2_with fail
        go_ret
        exact ⟨rfl, Below.refl _ _⟩
  · have ha : inB a = false := by simpa using ha
    have ct := fun W => times_no a 1 W (.inl ha)
    have Ct := Lib.hid ct
    clear ct
    rcases inB_false.1 ha with h0 | h0
    all_goals
      clear ha
      go_enter Try.func5, Try.ntmps5
      go_wp2_with fail
      refine (Ct.out _).mono ?_
      rintro e w' ⟨rfl, rfl⟩
      go_wp2_with fail
      go_ret
      exact ⟨ret_true (by first | (simp; done) | (simp; omega)), Below.refl _ _⟩

/-! ### the row's frame -/
theorem own : ownKnob Try.prog.godebug = none := by kernel_rfl
theorem laidOut : laidOutB Try.prog = true := by kernel_rfl

set_option maxRecDepth 100000 in
theorem lifted (os : Os) (started : os.Started) (H : Type) (enc : TypeId × Value → H) :
    ReturnsInHanded {} Try.checked os 5 .any (Rows.modOneSpec.pre6 enc Try.prog Try.f5 Rows.modOneRow.domain false) (Rows.modOneSpec.post enc Try.prog Try.f5 false true false false) := by
  refine returnsInHanded_of_change (C := Try.checked) own started (by kernel_rfl) Try.func5
    (ChangeSpec.witness6 (enc := enc) (C := Try.checked) false ⟨#[], #[.int .i64 0, .int .i64 0], []⟩ 8 (by kernel_rfl) (by kernel_rfl) (by kernel_rfl) (by kernel_rfl)) ?_
  intro W base args ds gs before hval0 hW hcnd _
  have hval : ∀ (j : Nat) t v, Try.f5.params[j]? = some t → args[j]? = some v → Value.okWide Try.prog W .any base t v := hval0
  have hW' := hW
  obtain ⟨p, q, hA0, hV, rfl, hfz, hnd⟩ := hW
  have hA : DataW.TrodAll enc Try.prog W 0 (fun _ => true) true Try.f5.params.toList args.toList ds p := hA0
  rw [Try.params5] at hA hval
  obtain ⟨v0, vs0, d0, ds0, p0, q0, hargs, rfl, rfl, h0, r0⟩ := trodAll_cons hA
  obtain ⟨v1, vs1, d1, ds1, p1, q1, rfl, rfl, rfl, h1, r1⟩ := trodAll_cons r0
  obtain ⟨rfl, rfl, rfl⟩ := trodAll_nil r1
  obtain rfl : args = #[v0, v1] := by cases args; simp_all
  obtain ⟨rfl, rfl⟩ := trodVars_none hV
  have k0 := h0
  have lt0 : ∀ x ∈ p0, x.block < W.heap.size := by obtain ⟨m, hm⟩ := k0; exact DataW.trod_lt m _ _ _ hm
  obtain ⟨x0, rfl, w0⟩ := arg_int Try.underlying3 (hval 0 3 v0 rfl rfl) h0
  have k1 := h1
  have lt1 : ∀ x ∈ p1, x.block < W.heap.size := by obtain ⟨m, hm⟩ := k1; exact DataW.trod_lt m _ _ _ hm
  obtain ⟨x1, rfl, w1⟩ := arg_int Try.underlying3 (hval 1 3 v1 rfl rfl) h1
  clear hA0 hval0
  refine (walk W x0 w0 x1 w1).mono fun e W' ⟨he, bel⟩ => ?_
  subst he
  exact ⟨_, rfl, _, _, _, [], _, [], hW', trodAll_mk1 (shut_bool Try.underlying4 _), (trodAll_cons_mk (Below.trod laidOut (by kernel_rfl) (of_decide_eq_true (by kernel_rfl)) k0 bel lt0) (trodAll_cons_mk (Below.trod laidOut (by kernel_rfl) (of_decide_eq_true (by kernel_rfl)) k1 bel lt1) trodAll_mk0)), rfl, bel.frame _, fun h => by cases h⟩

theorem over : Rows.modOneRow.holds Try.pinned (OpenSpec.ofChange Rows.modOneSpec) :=
  OpenClaim.holds_of_wide 5 Try.f5 rfl rfl rfl rfl rfl rfl rfl ⟨rfl, rfl, rfl, rfl, rfl⟩ rfl rfl rfl rfl rfl (by kernel_rfl) Try.func5 (by kernel_rfl)
    (of_decide_eq_true (by kernel_rfl)) (by unfold Func.isWrapper; first | (rw [if_pos (by decide +kernel)]; kernel_rfl) | (rw [if_neg (by decide +kernel)]; exact ⟨rfl, rfl⟩))
    (fun os started H enc _ => lifted os started H enc)

theorem proved : Rows.ModOneSaid := over
#print axioms proved

end Go.Proofs.Ytpmgmlmpiofnpaa.modOne
