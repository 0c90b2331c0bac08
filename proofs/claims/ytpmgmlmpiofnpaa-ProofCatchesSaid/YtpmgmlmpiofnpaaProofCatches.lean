/- ProofCatchesSaid: A TRUE SHARE IS TOLD, A FALSE ONE CAUGHT (Feldman): for every list of factors, place and number. -/
import Derived.Test.YtpmgmlmpiofnpaaRows
import Derived.Test.YtpmgmlmpiofnpaaProof
import Derived.WalkKit
import Derived.ProofKit
import Derived.OpenShut
import Derived.ShutString
import Derived.ChangeOld
import Derived.WalkLawsBesides
import Derived.WalkSpells
import Derived.RegionTactic
import Derived.ChangeAlike
namespace Go.Proofs.Ytpmgmlmpiofnpaa.proofCatches
open Go.ChangeShapes Go.WideShapes Go.ChangeAt Go.RowKit
set_option linter.unusedVariables false

def fl : List Int := [0, 1, 2]
theorem cmtf : cmt fl = [1, 64, 1010] := by decide

set_option maxHeartbeats 4000000 in
set_option maxRecDepth 100000 in
theorem walk (w : World) (A : Option Addr) (c : Nat) (p : List Int) (_ : p.length ≤ c) (_ : c ≤ maxLen) (hA : Ints w A p) (_ : ∀ i, i < p.length → I64 (gi p i)) (a : Int) (_ : I64 a) (i : Int) (_ : I64 i) :
    Calls Try.prog 9 #[.slice A p.length c, .int .i64 a, .int .i64 i] w fun e w' => e = .returned (.bool true) ∧ Below w.heap.size w w' := by
  have cf := fun W A cap (hW : Ints W A fl) => commit_ok A cap fl (by decide) (by decide) (by decide) W hW
  rw [cmtf] at cf
  have l3 : fl.length = 3 := rfl
  rw [l3] at cf
  have CF := Lib.hid cf; clear cf l3
  have g0 : gi [1, 64, 1010] 0 = 1 := rfl
  have g1 : gi [1, 64, 1010] 1 = 64 := rfl
  have g2 : gi [1, 64, 1010] 2 = 1010 := rfl
  by_cases h0 : p.length = 0
  · have hp : p = [] := List.eq_nil_of_length_eq_zero h0
    subst hp
    have cc := fun W => commit_none A c W
    have CC := Lib.hid cc; clear cc
    go_enter Try.func9, Try.ntmps9
    go_wp2_with fail
    refine (CF.out _ _ _ (lit_ints _ fl _ (by simp))).mono ?_
    rintro e w1 ⟨A1, c1, rfl, ho1, hb1⟩
    obtain ⟨b1, o1, rfl, hl1, k0⟩ := ho1.ints.at_ (i := 0) (by simp)
    obtain ⟨b1', o1', e1, _, k1⟩ := ho1.ints.at_ (i := 1) (by simp)
    obtain ⟨b1'', o1'', e2, _, k2⟩ := ho1.ints.at_ (i := 2) (by simp)
    simp only [Option.some.injEq, Addr.mk.injEq, and_true] at e1 e2
    obtain ⟨rfl, rfl⟩ := e1
    obtain ⟨rfl, rfl⟩ := e2
    rw [g0, Nat.add_zero] at k0
    rw [g1] at k1
    rw [g2] at k2
    have hb1' : Below w.heap.size w w1 := bcl (bal1 _ _) hb1
    go_wp2_with fail
    refine (CC.out _).mono ?_
    rintro e w2 ⟨rfl, rfl⟩
    go_wp2_with fail
    all_goals go_ret
    all_goals exact ⟨ret_true (by first | rfl | (simp; done) | (simp; omega)), (by repeat (first | exact Below.refl _ _ | assumption | refine bal ?_ _ | refine bdn ?_ _ | refine bdr ?_ | refine bcl ?_ (by assumption)))⟩
  · rcases facV_cases p with ⟨hl, hin⟩ | hf
    · have cc := fun W (hW : Ints W A p) => commit_ok A c p (by omega) hl hin W hW
      have CC := Lib.hid cc
      have hpos : 0 < p.length := by omega
      clear cc h0
      have hlc : (cmt p).length = p.length := by simp [cmt]
      cases ha : inB a with
      | false =>
        have ct := fun W (hW : Ints W A p) => at_place A c p a hl hin ha W hW
        have CT := Lib.hid ct; clear ct hin ha hlc
        go_enter Try.func9, Try.ntmps9
        go_wp2_with fail
        refine (CF.out _ _ _ (lit_ints _ fl _ (by simp))).mono ?_
        rintro e w1 ⟨A1, c1, rfl, ho1, hb1⟩
        obtain ⟨b1, o1, rfl, hl1, k0⟩ := ho1.ints.at_ (i := 0) (by simp)
        obtain ⟨b1', o1', e1, _, k1⟩ := ho1.ints.at_ (i := 1) (by simp)
        obtain ⟨b1'', o1'', e2, _, k2⟩ := ho1.ints.at_ (i := 2) (by simp)
        simp only [Option.some.injEq, Addr.mk.injEq, and_true] at e1 e2
        obtain ⟨rfl, rfl⟩ := e1
        obtain ⟨rfl, rfl⟩ := e2
        rw [g0, Nat.add_zero] at k0
        rw [g1] at k1
        rw [g2] at k2
        have hb1' : Below w.heap.size w w1 := bcl (bal1 _ _) hb1
        go_wp2_with fail
        refine (CC.out _ (hA.below hb1' (Nat.le_refl _))).mono ?_
        rintro e w2 ⟨A2, c2, rfl, ho2, hb2⟩
        have hb2' := bcl hb1' hb2
        clear k0 k1 k2
        go_wp2_with fail
        refine (CT.out _ (hA.below hb2' (Nat.le_refl _))).mono ?_
        rintro e w3 ⟨rfl, rfl⟩
        go_wp2_with fail
        all_goals go_ret
        all_goals exact ⟨ret_true (by first | rfl | (simp; done) | (simp; omega)), (by repeat (first | exact Below.refl _ _ | assumption | refine bal ?_ _ | refine bdn ?_ _ | refine bdr ?_ | refine bcl ?_ (by assumption)))⟩
      | true =>
        have ct := fun W (hW : Ints W A p) => at_ok A c p a hl hin ha W hW
        obtain ⟨n, hn⟩ : ∃ n, PM.hor p a = n := ⟨_, rfl⟩
        have hr := PM.hor_range p a
        rw [hn] at hr
        have hgood := cmt_good p (cmt p).length (Nat.le_refl _)
        have hin_n : inB n = true := inB_true.2 hr
        have ck := fun W A2 c2 (hW : Ints W A2 (cmt p)) => check_ok A2 c2 (cmt p) a n (chkE_of (by omega) (by omega) hgood ha hin_n) W hW
        rw [truB_cmt p hin a n hr.1 hr.2, hn, hlc, beq_self_eq_true] at ck
        rw [hn] at ct
        have CT := Lib.hid ct; have CK := Lib.hid ck; clear ct ck
        cases hi : inB i with
        | true =>
          obtain ⟨i0, i1⟩ := inB_true.1 hi
          have cz := fun W A2 c2 (hW : Ints W A2 (cmt p)) => check_ok A2 c2 (cmt p) a i (chkE_of (by omega) (by omega) hgood ha hi) W hW
          rw [truB_cmt p hin a i i0 i1, hn, hlc] at cz
          have CZ := Lib.hid cz; have HN := Lib.hid hn; clear cz hn hgood hin ha hi hin_n hlc
          go_enter Try.func9, Try.ntmps9
          go_wp2_with fail
          refine (CF.out _ _ _ (lit_ints _ fl _ (by simp))).mono ?_
          rintro e w1 ⟨A1, c1, rfl, ho1, hb1⟩
          obtain ⟨b1, o1, rfl, hl1, k0⟩ := ho1.ints.at_ (i := 0) (by simp)
          obtain ⟨b1', o1', e1, _, k1⟩ := ho1.ints.at_ (i := 1) (by simp)
          obtain ⟨b1'', o1'', e2, _, k2⟩ := ho1.ints.at_ (i := 2) (by simp)
          simp only [Option.some.injEq, Addr.mk.injEq, and_true] at e1 e2
          obtain ⟨rfl, rfl⟩ := e1
          obtain ⟨rfl, rfl⟩ := e2
          rw [g0, Nat.add_zero] at k0
          rw [g1] at k1
          rw [g2] at k2
          have hb1' : Below w.heap.size w w1 := bcl (bal1 _ _) hb1
          go_wp2_with fail
          refine (CC.out _ (hA.below hb1' (Nat.le_refl _))).mono ?_
          rintro e w2 ⟨A2, c2, rfl, ho2, hb2⟩
          have hb2' := bcl hb1' hb2
          clear k0 k1 k2
          go_wp2_with fail
          refine (CT.out _ (hA.below hb2' (Nat.le_refl _))).mono ?_
          rintro e w3 ⟨rfl, hb3⟩
          have ho3 := ho2.keep hb3
          have hb3' := bcl hb2' hb3
          go_wp2_with fail
          refine (CK.out _ _ _ ho3.ints).mono ?_
          rintro e w4 ⟨rfl, hb4⟩
          have ho4 := ho3.keep hb4
          have hb4' := bcl hb3' hb4
          go_wp2_with fail
          refine (CZ.out _ _ _ ho4.ints).mono ?_
          rintro e w5 ⟨rfl, hb5⟩
          have hb5' := bcl hb4' hb5
          go_wp2_with fail
          all_goals go_ret
          all_goals exact ⟨ret_true (by first | rfl | (simp; done)), hb5'⟩
        | false =>
          have hz : chkE (cmt p) a i = 1 := by
            rw [chkE, if_neg (by omega), if_neg (by omega), if_neg (by rw [hgood]; decide), if_pos (by rw [hi]; simp)]
          have cz := fun W A2 c2 (hW : Ints W A2 (cmt p)) => check_no A2 c2 (cmt p) a i (by rw [hz]; decide) W hW
          rw [hz, hlc] at cz
          have CZ := Lib.hid cz; have HN := Lib.hid hn; clear cz hn hgood hin ha hi hin_n hlc hz
          go_enter Try.func9, Try.ntmps9
          go_wp2_with fail
          refine (CF.out _ _ _ (lit_ints _ fl _ (by simp))).mono ?_
          rintro e w1 ⟨A1, c1, rfl, ho1, hb1⟩
          obtain ⟨b1, o1, rfl, hl1, k0⟩ := ho1.ints.at_ (i := 0) (by simp)
          obtain ⟨b1', o1', e1, _, k1⟩ := ho1.ints.at_ (i := 1) (by simp)
          obtain ⟨b1'', o1'', e2, _, k2⟩ := ho1.ints.at_ (i := 2) (by simp)
          simp only [Option.some.injEq, Addr.mk.injEq, and_true] at e1 e2
          obtain ⟨rfl, rfl⟩ := e1
          obtain ⟨rfl, rfl⟩ := e2
          rw [g0, Nat.add_zero] at k0
          rw [g1] at k1
          rw [g2] at k2
          have hb1' : Below w.heap.size w w1 := bcl (bal1 _ _) hb1
          go_wp2_with fail
          refine (CC.out _ (hA.below hb1' (Nat.le_refl _))).mono ?_
          rintro e w2 ⟨A2, c2, rfl, ho2, hb2⟩
          have hb2' := bcl hb1' hb2
          clear k0 k1 k2
          go_wp2_with fail
          refine (CT.out _ (hA.below hb2' (Nat.le_refl _))).mono ?_
          rintro e w3 ⟨rfl, hb3⟩
          have ho3 := ho2.keep hb3
          have hb3' := bcl hb2' hb3
          go_wp2_with fail
          refine (CK.out _ _ _ ho3.ints).mono ?_
          rintro e w4 ⟨rfl, hb4⟩
          have ho4 := ho3.keep hb4
          have hb4' := bcl hb3' hb4
          go_wp2_with fail
          refine (CZ.out _ _ _ ho4.ints).mono ?_
          rintro e w5 ⟨rfl, hb5⟩
          have hb5' := bcl hb4' hb5
          go_wp2_with fail
          all_goals go_ret
          all_goals exact ⟨ret_true (by first | rfl | (simp; done)), hb5'⟩
    · have hf' : ∃ n, facV p = errV n := by
        rcases hf with h | h
        · exact ⟨_, h⟩
        · exact ⟨_, h⟩
      obtain ⟨n, hn⟩ := hf'
      have cc := fun W (hW : Ints W A p) => commit_fac A c p n (by omega) hn W hW
      have CC := Lib.hid cc; clear cc h0 hf hn
      go_enter Try.func9, Try.ntmps9
      go_wp2_with fail
      refine (CF.out _ _ _ (lit_ints _ fl _ (by simp))).mono ?_
      rintro e w1 ⟨A1, c1, rfl, ho1, hb1⟩
      obtain ⟨b1, o1, rfl, hl1, k0⟩ := ho1.ints.at_ (i := 0) (by simp)
      obtain ⟨b1', o1', e1, _, k1⟩ := ho1.ints.at_ (i := 1) (by simp)
      obtain ⟨b1'', o1'', e2, _, k2⟩ := ho1.ints.at_ (i := 2) (by simp)
      simp only [Option.some.injEq, Addr.mk.injEq, and_true] at e1 e2
      obtain ⟨rfl, rfl⟩ := e1
      obtain ⟨rfl, rfl⟩ := e2
      rw [g0, Nat.add_zero] at k0
      rw [g1] at k1
      rw [g2] at k2
      have hb1' : Below w.heap.size w w1 := bcl (bal1 _ _) hb1
      go_wp2_with fail
      refine (CC.out _ (hA.below hb1' (Nat.le_refl _))).mono ?_
      rintro e w2 ⟨rfl, rfl⟩
      go_wp2_with fail
      all_goals go_ret
      all_goals exact ⟨ret_true (by first | rfl | (simp; done) | (simp; omega)), (by repeat (first | exact Below.refl _ _ | assumption | refine bal ?_ _ | refine bdn ?_ _ | refine bdr ?_ | refine bcl ?_ (by assumption)))⟩

/-! ### the row's frame -/
theorem own : ownKnob Try.prog.godebug = none := by kernel_rfl
theorem laidOut : laidOutB Try.prog = true := by kernel_rfl

set_option maxRecDepth 100000 in
theorem lifted (os : Os) (started : os.Started) (H : Type) (enc : TypeId × Value → H) :
    ReturnsInHanded {} Try.checked os 9 .any (Rows.proofCatchesSpec.pre6 enc Try.prog Try.f9 Rows.proofCatchesRow.domain false) (Rows.proofCatchesSpec.post enc Try.prog Try.f9 false true false false) := by
  refine returnsInHanded_of_change (C := Try.checked) own started (by kernel_rfl) Try.func9
    (ChangeSpec.witness6 (enc := enc) (C := Try.checked) false ⟨#[], #[.slice none 0 0, .int .i64 0, .int .i64 0], []⟩ 8 (by kernel_rfl) (by kernel_rfl) (by kernel_rfl) (by kernel_rfl)) ?_
  intro W base args ds gs before hval0 hW hcnd _
  have hval : ∀ (j : Nat) t v, Try.f9.params[j]? = some t → args[j]? = some v → Value.okWide Try.prog W .any base t v := hval0
  have hW' := hW
  obtain ⟨p, q, hA0, hV, rfl, hfz, hnd⟩ := hW
  have hA : DataW.TrodAll enc Try.prog W 0 (fun _ => true) true Try.f9.params.toList args.toList ds p := hA0
  rw [Try.params9] at hA hval
  obtain ⟨v0, vs0, d0, ds0, p0, q0, hargs, rfl, rfl, h0, r0⟩ := trodAll_cons hA
  obtain ⟨v1, vs1, d1, ds1, p1, q1, rfl, rfl, rfl, h1, r1⟩ := trodAll_cons r0
  obtain ⟨v2, vs2, d2, ds2, p2, q2, rfl, rfl, rfl, h2, r2⟩ := trodAll_cons r1
  obtain ⟨rfl, rfl, rfl⟩ := trodAll_nil r2
  obtain rfl : args = #[v0, v1, v2] := by cases args; simp_all
  obtain ⟨rfl, rfl⟩ := trodVars_none hV
  have k0 := h0
  have lt0 : ∀ x ∈ p0, x.block < W.heap.size := by obtain ⟨m, hm⟩ := k0; exact DataW.trod_lt m _ _ _ hm
  obtain ⟨A0, c0, x0, rfl, hc0, hm0, hA0, w0⟩ := arg_Ints Try.underlying36 Try.underlying3 (by kernel_rfl) (hval 0 36 v0 rfl rfl) h0
  have k1 := h1
  have lt1 : ∀ x ∈ p1, x.block < W.heap.size := by obtain ⟨m, hm⟩ := k1; exact DataW.trod_lt m _ _ _ hm
  obtain ⟨x1, rfl, w1⟩ := arg_int Try.underlying3 (hval 1 3 v1 rfl rfl) h1
  have k2 := h2
  have lt2 : ∀ x ∈ p2, x.block < W.heap.size := by obtain ⟨m, hm⟩ := k2; exact DataW.trod_lt m _ _ _ hm
  obtain ⟨x2, rfl, w2⟩ := arg_int Try.underlying3 (hval 2 3 v2 rfl rfl) h2
  clear hA0 hval0
  refine (walk W A0 c0 x0 hc0 hm0 hA0 w0 x1 w1 x2 w2).mono fun e W' ⟨he, bel⟩ => ?_
  subst he
  exact ⟨_, rfl, _, _, _, [], _, [], hW', trodAll_mk1 (shut_bool Try.underlying4 _), (trodAll_cons_mk (Below.trod laidOut (by kernel_rfl) (of_decide_eq_true (by kernel_rfl)) k0 bel lt0) (trodAll_cons_mk (Below.trod laidOut (by kernel_rfl) (of_decide_eq_true (by kernel_rfl)) k1 bel lt1) (trodAll_cons_mk (Below.trod laidOut (by kernel_rfl) (of_decide_eq_true (by kernel_rfl)) k2 bel lt2) trodAll_mk0))), rfl, bel.frame _, fun h => by cases h⟩

theorem over : Rows.proofCatchesRow.holds Try.pinned (OpenSpec.ofChange Rows.proofCatchesSpec) :=
  OpenClaim.holds_of_wide 9 Try.f9 rfl rfl rfl rfl rfl rfl rfl ⟨rfl, rfl, rfl, rfl, rfl⟩ rfl rfl rfl rfl rfl (by kernel_rfl) Try.func9 (by kernel_rfl)
    (of_decide_eq_true (by kernel_rfl)) (by unfold Func.isWrapper; first | (rw [if_pos (by decide +kernel)]; kernel_rfl) | (rw [if_neg (by decide +kernel)]; exact ⟨rfl, rfl⟩))
    (fun os started H enc _ => lifted os started H enc)

theorem proved : Rows.ProofCatchesSaid := over
#print axioms proved


end Go.Proofs.Ytpmgmlmpiofnpaa.proofCatches
