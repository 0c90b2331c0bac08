/- PolyFlatSaid: OF ONE FACTOR IT IS THAT ANYWHERE; through one point, too: for every two ints. -/
import Derived.Test.YtpmgmlmpiofnpaaRows
import Derived.Test.YtpmgmlmpiofnpaaPolyThr
import Derived.WalkKit
import Derived.ProofKit
import Derived.OpenShut
import Derived.ShutString
import Derived.ChangeOld
import Derived.WalkLawsBesides
import Derived.WalkSpells
import Derived.RegionTactic
import Derived.ChangeAlike
namespace Go.Proofs.Ytpmgmlmpiofnpaa.polyFlat
open Go.ChangeShapes Go.WideShapes Go.ChangeAt Go.RowKit
set_option linter.unusedVariables false

theorem poi1 (n : Int) (h : inB n = true) : poiE [((3 : Int), n)] = 0 := by
  have h3 : inB 3 = true := by decide
  simp [poiE, ptE, pinB, ga, gb, h, h3, wasB]
theorem poi1' (n : Int) (h : inB n = false) : poiE [((3 : Int), n)] = 1 := by
  simp [poiE, ptE, pinB, ga, gb, h]
theorem hor1 (n x : Int) (h0 : 0 ≤ n) (h1 : n < 257) : PM.hor [n] x = n := by
  simp only [PM.hor]; rw [Int.zero_mul, Int.zero_add]; exact Int.emod_eq_of_lt h0 h1
theorem thr1 (n x : Int) (h : inB n = true) : PM.thr (ga [((3 : Int), n)]) (gb [((3 : Int), n)]) 1 x 1 = n := by
  obtain ⟨n0, n1⟩ := inB_true.1 h
  have hp := (poi_pts _ (poi1 n h)).2.2
  have := PM.thr_hor (n := 1) hp [n] (by simp) (fun i hi => by
    obtain rfl : i = 0 := by omega
    rw [hor1 n _ n0 n1]; simp [gb]) x
  rw [this, hor1 n x n0 n1]

set_option maxHeartbeats 1600000 in
set_option maxRecDepth 100000 in
theorem walk (w : World) (n : Int) (_ : I64 n) (x : Int) (_ : I64 x) : Calls Try.prog 10 #[.int .i64 n, .int .i64 x] w fun e w' => e = .returned (.bool true) ∧ Below w.heap.size w w' := by
  have l1 : [n].length = 1 := rfl
  have l2 : [((3 : Int), n)].length = 1 := rfl
  cases hn : inB n with
  | true =>
    obtain ⟨n0, n1⟩ := inB_true.1 hn
    have hi : allIn [n] [n].length = true := by simp [allIn, gi, hn]
    cases hx : inB x with
    | true =>
      have ca := fun W A cap (hW : Ints W A [n]) => at_ok A cap [n] x (by simp) hi hx W hW
      have cn := fun W A cap (h0 : 1 ≤ cap) (hm : cap ≤ maxLen) (hW : Shares W A [((3 : Int), n)]) => next_ok A cap [((3 : Int), n)] x h0 hm (poi1 n hn) hx W hW
      rw [hor1 n x n0 n1, l1] at ca
      rw [l2, thr1 n x hn] at cn
      have CA := Lib.hid ca; have CN := Lib.hid cn; clear ca cn hi hn hx l1 l2
      go_enter Try.func10, Try.ntmps10
      go_wp2_with fail
      refine (CA.out _ _ _ (one_ints _ _ _ (by simp))).mono ?_
      rintro e w1 ⟨rfl, hb1⟩
      go_wp2_with fail
      refine (CN.out _ _ _ (by decide) (by decide) (one_shares _ _ _ _ (by simp))).mono ?_
      rintro e w2 ⟨rfl, hb2⟩
      go_wp2_with fail
      all_goals go_ret
      all_goals exact ⟨ret_true (by first | rfl | (simp; done) | (simp; omega)), (by repeat (first | exact Below.refl _ _ | assumption | refine bal ?_ _ | refine bdn ?_ _ | refine bdr ?_ | refine bcl ?_ (by assumption)))⟩
    | false =>
      have hx2 := inB_false.1 hx
      have ca := fun W A cap (hW : Ints W A [n]) => at_place A cap [n] x (by simp) hi hx W hW
      have cn := fun W A cap (h0 : 1 ≤ cap) (hm : cap ≤ maxLen) (hW : Shares W A [((3 : Int), n)]) => next_place A cap [((3 : Int), n)] x h0 hm (poi1 n hn) hx W hW
      rw [l1] at ca
      rw [l2] at cn
      have CA := Lib.hid ca; have CN := Lib.hid cn; clear ca cn hi hn hx l1 l2
      rcases hx2 with hx2 | hx2
      all_goals
        go_enter Try.func10, Try.ntmps10
        go_wp2_with fail
        refine (CA.out _ _ _ (one_ints _ _ _ (by simp))).mono ?_
        rintro e w1 ⟨rfl, rfl⟩
        go_wp2_with fail
        refine (CN.out _ _ _ (by decide) (by decide) (one_shares _ _ _ _ (by simp))).mono ?_
        rintro e w2 ⟨rfl, hb2⟩
        go_wp2_with fail
        all_goals go_ret
        all_goals exact ⟨ret_true (by first | rfl | (simp; done) | (simp; omega)), (by repeat (first | exact Below.refl _ _ | assumption | refine bal ?_ _ | refine bdn ?_ _ | refine bdr ?_ | refine bcl ?_ (by assumption)))⟩
  | false =>
    have hn2 := inB_false.1 hn
    have hf : facV [n] = errV 1 := by simp [facV, allIn, gi, hn]
    have ca := fun W A cap (hW : Ints W A [n]) => at_fac A cap [n] x 1 hf W hW
    have cn := fun W A cap (h0 : 1 ≤ cap) (hm : cap ≤ maxLen) (hW : Shares W A [((3 : Int), n)]) => next_poi A cap [((3 : Int), n)] x h0 hm (by rw [poi1' n hn]; decide) W hW
    rw [l1] at ca
    rw [l2, poi1' n hn] at cn
    have CA := Lib.hid ca; have CN := Lib.hid cn; clear ca cn hf hn l1 l2
    rcases hn2 with hn2 | hn2
    all_goals
      go_enter Try.func10, Try.ntmps10
      go_wp2_with fail
      refine (CA.out _ _ _ (one_ints _ _ _ (by simp))).mono ?_
      rintro e w1 ⟨rfl, rfl⟩
      go_wp2_with fail
      refine (CN.out _ _ _ (by decide) (by decide) (one_shares _ _ _ _ (by simp))).mono ?_
      rintro e w2 ⟨rfl, hb2⟩
      go_wp2_with fail
      all_goals go_ret
      all_goals exact ⟨ret_true (by first | rfl | (simp; done) | (simp; omega)), (by repeat (first | exact Below.refl _ _ | assumption | refine bal ?_ _ | refine bdn ?_ _ | refine bdr ?_ | refine bcl ?_ (by assumption)))⟩

/-! ### the row's frame -/
theorem own : ownKnob Try.prog.godebug = none := by kernel_rfl
theorem laidOut : laidOutB Try.prog = true := by kernel_rfl

set_option maxRecDepth 100000 in
theorem lifted (os : Os) (started : os.Started) (H : Type) (enc : TypeId × Value → H) :
    ReturnsInHanded {} Try.checked os 10 .any (Rows.polyFlatSpec.pre6 enc Try.prog Try.f10 Rows.polyFlatRow.domain false) (Rows.polyFlatSpec.post enc Try.prog Try.f10 false true false false) := by
  refine returnsInHanded_of_change (C := Try.checked) own started (by kernel_rfl) Try.func10
    (ChangeSpec.witness6 (enc := enc) (C := Try.checked) false ⟨#[], #[.int .i64 0, .int .i64 0], []⟩ 8 (by kernel_rfl) (by kernel_rfl) (by kernel_rfl) (by kernel_rfl)) ?_
  intro W base args ds gs before hval0 hW hcnd _
  have hval : ∀ (j : Nat) t v, Try.f10.params[j]? = some t → args[j]? = some v → Value.okWide Try.prog W .any base t v := hval0
  have hW' := hW
  obtain ⟨p, q, hA0, hV, rfl, hfz, hnd⟩ := hW
  have hA : DataW.TrodAll enc Try.prog W 0 (fun _ => true) true Try.f10.params.toList args.toList ds p := hA0
  rw [Try.params10] at hA hval
  obtain ⟨v0, vs0, d0, ds0, p0, q0, hargs, rfl, rfl, h0, r0⟩ := trodAll_cons hA
  obtain ⟨v1, vs1, d1, ds1, p1, q1, rfl, rfl, rfl, h1, r1⟩ := trodAll_cons r0
  obtain ⟨rfl, rfl, rfl⟩ := trodAll_nil r1
  obtain rfl : args = #[v0, v1] := by cases args; simp_all
  obtain ⟨rfl, rfl⟩ := trodVars_none hV
  have k0 := h0
  have lt0 : ∀ x ∈ p0, x.block < W.heap.size := by obtain ⟨m, hm⟩ := k0; exact DataW.trod_lt m _ _ _ hm
  obtain ⟨x0, rfl, w0⟩ := arg_int Try.underlying3 (hval 0 3 v0 rfl rfl) h0
  have k1 := h1
  have lt1 : ∀ x ∈ p1, x.block < W.heap.size := by obtain ⟨m, hm⟩ := k1; exact DataW.trod_lt m _ _ _ hm
  obtain ⟨x1, rfl, w1⟩ := arg_int Try.underlying3 (hval 1 3 v1 rfl rfl) h1
  clear hA0 hval0
  refine (walk W x0 w0 x1 w1).mono fun e W' ⟨he, bel⟩ => ?_
  subst he
  exact ⟨_, rfl, _, _, _, [], _, [], hW', trodAll_mk1 (shut_bool Try.underlying4 _), (trodAll_cons_mk (Below.trod laidOut (by kernel_rfl) (of_decide_eq_true (by kernel_rfl)) k0 bel lt0) (trodAll_cons_mk (Below.trod laidOut (by kernel_rfl) (of_decide_eq_true (by kernel_rfl)) k1 bel lt1) trodAll_mk0)), rfl, bel.frame _, fun h => by cases h⟩

theorem over : Rows.polyFlatRow.holds Try.pinned (OpenSpec.ofChange Rows.polyFlatSpec) :=
  OpenClaim.holds_of_wide 10 Try.f10 rfl rfl rfl rfl rfl rfl rfl ⟨rfl, rfl, rfl, rfl, rfl⟩ rfl rfl rfl rfl rfl (by kernel_rfl) Try.func10 (by kernel_rfl)
    (of_decide_eq_true (by kernel_rfl)) (by unfold Func.isWrapper; first | (rw [if_pos (by decide +kernel)]; kernel_rfl) | (rw [if_neg (by decide +kernel)]; exact ⟨rfl, rfl⟩))
    (fun os started H enc _ => lifted os started H enc)

theorem proved : Rows.PolyFlatSaid := over
#print axioms proved


end Go.Proofs.Ytpmgmlmpiofnpaa.polyFlat
