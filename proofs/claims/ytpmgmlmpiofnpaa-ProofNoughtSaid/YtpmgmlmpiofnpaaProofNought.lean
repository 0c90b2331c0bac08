/- ProofNoughtSaid: OF NOUGHT IT IS ONE, and of one the base: for every place and number. -/
import Derived.Test.YtpmgmlmpiofnpaaRows
import Derived.Test.YtpmgmlmpiofnpaaProof
import Derived.WalkKit
import Derived.ProofKit
import Derived.OpenShut
import Derived.ShutString
import Derived.ChangeOld
import Derived.WalkLawsBesides
import Derived.WalkSpells
import Derived.RegionTactic
import Derived.ChangeAlike
namespace Go.Proofs.Ytpmgmlmpiofnpaa.proofNought
open Go.ChangeShapes Go.WideShapes Go.ChangeAt Go.RowKit
set_option linter.unusedVariables false

theorem cmt0 : cmt [0] = [1] := by decide
theorem cmt1 : cmt [1] = [64] := by decide
theorem tru0 (a i : Int) (h0 : 0 ≤ i) (h1 : i < 257) : truB [1] a i = (i == 0) := by
  have h := truB_cmt [0] (by decide) a i h0 h1
  rw [cmt0] at h
  rw [h]; simp [PM.hor]

set_option maxHeartbeats 1600000 in
set_option maxRecDepth 100000 in
theorem walk (w : World) (a : Int) (_ : I64 a) (i : Int) (_ : I64 i) : Calls Try.prog 8 #[.int .i64 a, .int .i64 i] w fun e w' => e = .returned (.bool true) ∧ Below w.heap.size w w' := by
  have c0 := fun W A cap (hW : Ints W A [0]) => commit_ok A cap [0] (by simp) (by simp) (by decide) W hW
  have c1 := fun W A cap (hW : Ints W A [1]) => commit_ok A cap [1] (by simp) (by simp) (by decide) W hW
  rw [cmt0] at c0
  rw [cmt1] at c1
  have C0 := Lib.hid c0; have C1 := Lib.hid c1; clear c0 c1
  have g0 : gi [1] 0 = 1 := rfl
  have g1 : gi [64] 0 = 64 := rfl
  by_cases hb : inB a = true ∧ inB i = true
  · obtain ⟨ha, hi⟩ := hb
    obtain ⟨a0, a1⟩ := inB_true.1 ha
    obtain ⟨i0, i1⟩ := inB_true.1 hi
    have ck := fun W A cap (hW : Ints W A [1]) => check_ok A cap [1] a i (chkE_of (by simp) (by simp) (by decide) ha hi) W hW
    rw [tru0 a i i0 i1] at ck
    have CK := Lib.hid ck; clear ck ha hi
    go_enter Try.func8, Try.ntmps8
    go_wp2_with fail
    refine (C0.out _ _ _ (one_ints _ _ _ (by simp))).mono ?_
    rintro e w1 ⟨A1, c1, rfl, ho1, hb1⟩
    obtain ⟨b1, o1, rfl, hl1, hc1⟩ := ho1.ints.at_ (i := 0) (by simp)
    rw [g0, Nat.add_zero] at hc1
    go_wp2_with fail
    refine (C1.out _ _ _ (one_ints _ _ _ (by simp))).mono ?_
    rintro e w2 ⟨A2, c2, rfl, ho2, hb2⟩
    obtain ⟨b2, o2, rfl, hl2, hc2⟩ := ho2.ints.at_ (i := 0) (by simp)
    rw [g1, Nat.add_zero] at hc2
    have hb12 : Below w1.heap.size w1 w2 := bcl (bal (Below.refl _ _) _) hb2
    have hc1' := (hb12.cell (p := ⟨b1, o1, none⟩) hl1).trans hc1
    have hI1 := ho1.ints.below hb12 (Nat.le_refl _)
    clear hc1
    go_wp2_with fail
    refine (CK.out _ _ _ hI1).mono ?_
    rintro e w3 ⟨rfl, hb3⟩
    go_wp2_with fail
    all_goals go_ret
    all_goals exact ⟨ret_true (by first | rfl | (simp; done) | (simp; omega)), (by repeat (first | exact Below.refl _ _ | assumption | refine bal ?_ _ | refine bdn ?_ _ | refine bdr ?_ | refine bcl ?_ (by assumption)))⟩
  · have hbad : chkE [1] a i = 1 := by
      have hab : (inB a && inB i) = false := by
        cases h1 : inB a
        · rfl
        · cases h2 : inB i
          · rfl
          · exact absurd ⟨h1, h2⟩ hb
      simp [chkE, hab]
    have hout : a < 0 ∨ 257 ≤ a ∨ i < 0 ∨ 257 ≤ i := by
      rw [inB_true, inB_true] at hb; omega
    have ck := fun W A cap (hW : Ints W A [1]) => check_no A cap [1] a i (by rw [hbad]; decide) W hW
    rw [hbad] at ck
    have CK := Lib.hid ck; clear ck hb hbad
    rcases hout with h | h | h | h
    all_goals
      go_enter Try.func8, Try.ntmps8
      go_wp2_with fail
      refine (C0.out _ _ _ (one_ints _ _ _ (by simp))).mono ?_
      rintro e w1 ⟨A1, c1, rfl, ho1, hb1⟩
      obtain ⟨b1, o1, rfl, hl1, hc1⟩ := ho1.ints.at_ (i := 0) (by simp)
      rw [g0, Nat.add_zero] at hc1
      go_wp2_with fail
      refine (C1.out _ _ _ (one_ints _ _ _ (by simp))).mono ?_
      rintro e w2 ⟨A2, c2, rfl, ho2, hb2⟩
      obtain ⟨b2, o2, rfl, hl2, hc2⟩ := ho2.ints.at_ (i := 0) (by simp)
      rw [g1, Nat.add_zero] at hc2
      have hb12 : Below w1.heap.size w1 w2 := bcl (bal (Below.refl _ _) _) hb2
      have hc1' := (hb12.cell (p := ⟨b1, o1, none⟩) hl1).trans hc1
      have hI1 := ho1.ints.below hb12 (Nat.le_refl _)
      clear hc1
      go_wp2_with fail
      refine (CK.out _ _ _ hI1).mono ?_
      rintro e w3 ⟨rfl, hb3⟩
      go_wp2_with fail
      all_goals go_ret
      all_goals exact ⟨ret_true (by first | rfl | (simp; done) | (simp; omega)), (by repeat (first | exact Below.refl _ _ | assumption | refine bal ?_ _ | refine bdn ?_ _ | refine bdr ?_ | refine bcl ?_ (by assumption)))⟩

/-! ### the row's frame -/
theorem own : ownKnob Try.prog.godebug = none := by kernel_rfl
theorem laidOut : laidOutB Try.prog = true := by kernel_rfl

set_option maxRecDepth 100000 in
theorem lifted (os : Os) (started : os.Started) (H : Type) (enc : TypeId × Value → H) :
    ReturnsInHanded {} Try.checked os 8 .any (Rows.proofNoughtSpec.pre6 enc Try.prog Try.f8 Rows.proofNoughtRow.domain false) (Rows.proofNoughtSpec.post enc Try.prog Try.f8 false true false false) := by
  refine returnsInHanded_of_change (C := Try.checked) own started (by kernel_rfl) Try.func8
    (ChangeSpec.witness6 (enc := enc) (C := Try.checked) false ⟨#[], #[.int .i64 0, .int .i64 0], []⟩ 8 (by kernel_rfl) (by kernel_rfl) (by kernel_rfl) (by kernel_rfl)) ?_
  intro W base args ds gs before hval0 hW hcnd _
  have hval : ∀ (j : Nat) t v, Try.f8.params[j]? = some t → args[j]? = some v → Value.okWide Try.prog W .any base t v := hval0
  have hW' := hW
  obtain ⟨p, q, hA0, hV, rfl, hfz, hnd⟩ := hW
  have hA : DataW.TrodAll enc Try.prog W 0 (fun _ => true) true Try.f8.params.toList args.toList ds p := hA0
  rw [Try.params8] at hA hval
  obtain ⟨v0, vs0, d0, ds0, p0, q0, hargs, rfl, rfl, h0, r0⟩ := trodAll_cons hA
  obtain ⟨v1, vs1, d1, ds1, p1, q1, rfl, rfl, rfl, h1, r1⟩ := trodAll_cons r0
  obtain ⟨rfl, rfl, rfl⟩ := trodAll_nil r1
  obtain rfl : args = #[v0, v1] := by cases args; simp_all
  obtain ⟨rfl, rfl⟩ := trodVars_none hV
  have k0 := h0
  have lt0 : ∀ x ∈ p0, x.block < W.heap.size := by obtain ⟨m, hm⟩ := k0; exact DataW.trod_lt m _ _ _ hm
  obtain ⟨x0, rfl, w0⟩ := arg_int Try.underlying3 (hval 0 3 v0 rfl rfl) h0
  have k1 := h1
  have lt1 : ∀ x ∈ p1, x.block < W.heap.size := by obtain ⟨m, hm⟩ := k1; exact DataW.trod_lt m _ _ _ hm
  obtain ⟨x1, rfl, w1⟩ := arg_int Try.underlying3 (hval 1 3 v1 rfl rfl) h1
  clear hA0 hval0
  refine (walk W x0 w0 x1 w1).mono fun e W' ⟨he, bel⟩ => ?_
  subst he
  exact ⟨_, rfl, _, _, _, [], _, [], hW', trodAll_mk1 (shut_bool Try.underlying4 _), (trodAll_cons_mk (Below.trod laidOut (by kernel_rfl) (of_decide_eq_true (by kernel_rfl)) k0 bel lt0) (trodAll_cons_mk (Below.trod laidOut (by kernel_rfl) (of_decide_eq_true (by kernel_rfl)) k1 bel lt1) trodAll_mk0)), rfl, bel.frame _, fun h => by cases h⟩

theorem over : Rows.proofNoughtRow.holds Try.pinned (OpenSpec.ofChange Rows.proofNoughtSpec) :=
  OpenClaim.holds_of_wide 8 Try.f8 rfl rfl rfl rfl rfl rfl rfl ⟨rfl, rfl, rfl, rfl, rfl⟩ rfl rfl rfl rfl rfl (by kernel_rfl) Try.func8 (by kernel_rfl)
    (of_decide_eq_true (by kernel_rfl)) (by unfold Func.isWrapper; first | (rw [if_pos (by decide +kernel)]; kernel_rfl) | (rw [if_neg (by decide +kernel)]; exact ⟨rfl, rfl⟩))
    (fun os started H enc _ => lifted os started H enc)

theorem proved : Rows.ProofNoughtSaid := over
#print axioms proved


end Go.Proofs.Ytpmgmlmpiofnpaa.proofNought
