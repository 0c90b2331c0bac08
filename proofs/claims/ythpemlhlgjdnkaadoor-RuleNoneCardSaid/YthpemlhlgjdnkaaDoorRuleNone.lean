/- RuleNoneCardSaid: WITHOUT A RULE NOBODY MAY: for every two ints and tuple. -/
import Derived.Test.YthpemlhlgjdnkaaDoorTupleIs
import Derived.Test.YthpemlhlgjdnkaaDoorVArg
import Derived.Test.YthpemlhlgjdnkaaDoorDoor
import Derived.Test.YthpemlhlgjdnkaaDoorTie
import Derived.Test.YthpemlhlgjdnkaaDoorCards
import Derived.WalkKit
import Derived.ProofKit
import Derived.OpenShut
import Derived.ShutString
import Derived.ChangeOld
import Derived.WalkLawsBesides
import Derived.WalkSpells
import Derived.RegionTactic
import Derived.ChangeAlike
import Derived.SevenTiedAt
import Derived.Outline
namespace Go.Proofs.YthpemlhlgjdnkaaDoor.ruleNone
open Go.ChangeShapes Go.WideShapes Go.ChangeAt Go.RowKit
set_option linter.unusedVariables false

def whoB (n : Int) : Bool := decide (0 ≤ n) && decide (n ≤ 1000000)
def deedB (n : Int) : Bool := decide (0 ≤ n) && decide (n ≤ 2)
theorem who_any (n : Int) (w : World) : Calls Tryd.prog 73 #[.int .i64 n] w fun e w' => e = .returned (.bool (whoB n)) ∧ w = w' := by
  by_cases h : 0 ≤ n
  · by_cases h1 : n ≤ 1000000
    · rw [whoB, decide_eq_true h, decide_eq_true h1]
      go_enter Tryd.func73, Tryd.ntmps73
      go_wp2
      go_ret
      exact ⟨rfl, rfl⟩
    · rw [whoB, decide_eq_true h, decide_eq_false h1]
      have hq : decide (n ≤ 1000000) = false := decide_eq_false h1
      go_enter Tryd.func73, Tryd.ntmps73
      go_wp2
      go_ret
      exact ⟨rfl, rfl⟩
  · rw [whoB, decide_eq_false h, Bool.false_and]
    have hq : decide (0 ≤ n) = false := decide_eq_false h
    go_enter Tryd.func73, Tryd.ntmps73
    go_wp2
    go_ret
    exact ⟨rfl, rfl⟩
theorem deed_any (n : Int) (w : World) : Calls Tryd.prog 82 #[.int .i64 n] w fun e w' => e = .returned (.bool (deedB n)) ∧ w = w' := by
  by_cases h : 0 ≤ n
  · by_cases h1 : n ≤ 2
    · rw [deedB, decide_eq_true h, decide_eq_true h1]
      go_enter Tryd.func82, Tryd.ntmps82
      go_wp2
      go_ret
      exact ⟨rfl, rfl⟩
    · rw [deedB, decide_eq_true h, decide_eq_false h1]
      have hq : decide (n ≤ 2) = false := decide_eq_false h1
      go_enter Tryd.func82, Tryd.ntmps82
      go_wp2
      go_ret
      exact ⟨rfl, rfl⟩
  · rw [deedB, decide_eq_false h, Bool.false_and]
    have hq : decide (0 ≤ n) = false := decide_eq_false h
    go_enter Tryd.func82, Tryd.ntmps82
    go_wp2
    go_ret
    exact ⟨rfl, rfl⟩
theorem rucheck_nil (w : World) : Calls Tryd.prog 37 #[.slice none 0 0] w fun e w' => e = .returned .nilIface ∧ Below w.heap.size w w' := by
  go_enter Tryd.func37, Tryd.ntmps37
  go_wp2_with fail
  refine wp_loop_rounds 1 ?_
  rw [rounds_succ]
  go_wp2_with fail
  go_ret
  exact ⟨rfl, (by repeat (first | exact Below.refl _ _ | assumption | refine bal ?_ _ | refine bdn ?_ _ | refine bdr ?_ | refine bcl ?_ (by assumption)))⟩
theorem ruidx_nil (f : Value) (w : World) : Calls Tryd.prog 103 #[.slice none 0 0, f] w fun e w' => e = .returned (.int .i64 (-1)) ∧ w = w' := by
  go_enter Tryd.func103, Tryd.ntmps103
  go_wp2
  refine wp_loop_rounds 1 ?_
  rw [rounds_succ]
  go_wp2
  go_ret
  exact ⟨rfl, rfl⟩
theorem place_nil (who deed : Int) (A : Option Addr) (n c : Nat) (w : World) : Calls Tryd.prog 81 #[.slice none 0 0, .int .i64 who, .int .i64 deed, .slice A n c] w fun e w' => e = .returned (.int .i64 (-1)) ∧ Below w.heap.size w w' := by
  go_enter Tryd.func81, Tryd.ntmps81
  go_wp2_with (go_at_call 103; refine (ruidx_nil _ _).mono ?_; rintro e w' ⟨rfl, rfl⟩)
  go_ret
  exact ⟨rfl, (by repeat (first | exact Below.refl _ _ | assumption | refine bal ?_ _ | refine bdn ?_ _ | refine bdr ?_ | refine bcl ?_ (by assumption)))⟩
theorem let_nil (who deed : Int) (A : Option Addr) (n c : Nat) (w : World) : Calls Tryd.prog 80 #[.slice none 0 0, .int .i64 who, .int .i64 deed, .slice A n c] w fun e w' => e = .returned (.bool false) ∧ Below w.heap.size w w' := by
  go_enter Tryd.func80, Tryd.ntmps80
  go_wp2_with (go_at_call 81; refine (place_nil _ _ _ _ _ _).mono ?_; rintro e w1 ⟨rfl, hb1⟩)
  go_ret
  exact ⟨rfl, (by repeat (first | exact Below.refl _ _ | assumption | refine bal ?_ _ | refine bdn ?_ _ | refine bdr ?_ | refine bcl ?_ (by assumption)))⟩
/-- what is wrong with what is done -/
def rcE (who deed : Int) (t : List Va) : Int := if (whoB who && deedB deed) = false then 1 else tuE t
set_option maxHeartbeats 400000 in
theorem both_nil (who deed : Int) (A : Option Addr) (c : Nat) (t : List Va) (hm : t.length ≤ maxLen) (hok : okL t) (w : World) (hA : Vals w A t) :
    Calls Tryd.prog 79 #[.slice none 0 0, .int .i64 who, .int .i64 deed, .slice A t.length c] w fun e w' => e = .returned (eV (rcE who deed t)) ∧ Below w.heap.size w w' := by
  have cc := fun (W : World) (hW : Vals W A t) => tcheck_any A c t hm hok W hW
  have CC := Lib.hid cc
  unfold rcE
  cases h1 : whoB who with
  | false =>
    rw [Bool.false_and, if_pos rfl, show eV 1 = errV 1 from rfl]
    have c1 := fun W => who_any who W
    rw [h1] at c1
    have C1 := Lib.hid c1; clear c1 h1 cc
    go_enter Tryd.func79, Tryd.ntmps79
    go_wp2_with (first | (go_at_call 37; refine (rucheck_nil _).mono ?_; rintro e w1 ⟨rfl, hb1⟩) | (go_at_call 73; refine (C1.out _).mono ?_; rintro e w2 ⟨rfl, rfl⟩))
    go_ret
    exact ⟨rfl, (by repeat (first | exact Below.refl _ _ | assumption | refine bal ?_ _ | refine bdn ?_ _ | refine bdr ?_ | refine bcl ?_ (by assumption)))⟩
  | true =>
    cases h2 : deedB deed with
    | false =>
      rw [Bool.and_false, if_pos rfl, show eV 1 = errV 1 from rfl]
      have c1 := fun W => who_any who W
      have c2 := fun W => deed_any deed W
      rw [h1] at c1; rw [h2] at c2
      have C1 := Lib.hid c1; have C2 := Lib.hid c2; clear c1 c2 h1 h2 cc
      go_enter Tryd.func79, Tryd.ntmps79
      go_wp2_with (first | (go_at_call 37; refine (rucheck_nil _).mono ?_; rintro e w1 ⟨rfl, hb1⟩) | (go_at_call 73; refine (C1.out _).mono ?_; rintro e w2 ⟨rfl, rfl⟩) | (go_at_call 82; refine (C2.out _).mono ?_; rintro e w3 ⟨rfl, rfl⟩))
      go_ret
      exact ⟨rfl, (by repeat (first | exact Below.refl _ _ | assumption | refine bal ?_ _ | refine bdn ?_ _ | refine bdr ?_ | refine bcl ?_ (by assumption)))⟩
    | true =>
      rw [Bool.and_self, if_neg (by decide)]
      have c1 := fun W => who_any who W
      have c2 := fun W => deed_any deed W
      rw [h1] at c1; rw [h2] at c2
      generalize tuE t = E at *
      have C1 := Lib.hid c1; have C2 := Lib.hid c2; clear c1 c2 h1 h2 cc
      go_enter Tryd.func79, Tryd.ntmps79
      go_wp2_with (first | (go_at_call 37; refine (rucheck_nil _).mono ?_; rintro e w1 ⟨rfl, hb1⟩) | (go_at_call 73; refine (C1.out _).mono ?_; rintro e w2 ⟨rfl, rfl⟩) | (go_at_call 82; refine (C2.out _).mono ?_; rintro e w3 ⟨rfl, rfl⟩) | (go_at_call 45; refine (CC.out _ (hA.below hb1 (Nat.le_refl _))).mono ?_; rintro e w4 ⟨rfl, hb4⟩))
      go_ret
      exact ⟨rfl, (by repeat (first | exact Below.refl _ _ | assumption | refine bal ?_ _ | refine bdn ?_ _ | refine bdr ?_ | refine bcl ?_ (by assumption)))⟩
def rcB (who deed : Int) (t : List Va) : Int := if rcE who deed t = 0 then 5 else rcE who deed t
set_option maxHeartbeats 400000 in
theorem may_nil (who deed : Int) (A : Option Addr) (c : Nat) (t : List Va) (hm : t.length ≤ maxLen) (hok : okL t) (w : World) (hA : Vals w A t) :
    Calls Tryd.prog 34 #[.slice none 0 0, .int .i64 who, .int .i64 deed, .slice A t.length c] w fun e w' => e = .returned (.tuple #[.bool false, eV (rcE who deed t)]) ∧ Below w.heap.size w w' := by
  have c1 := both_nil who deed A c t hm hok w hA
  by_cases h : rcE who deed t = 0
  · rw [h, eV_zero] at c1
    rw [h, eV_zero]
    have C1 := Lib.hid c1; clear c1 h
    go_enter Tryd.func34, Tryd.ntmps34
    go_wp2_with (first | (go_at_call 79; refine C1.out.mono ?_; rintro e w1 ⟨rfl, hb1⟩) | (go_at_call 80; refine (let_nil _ _ _ _ _ _).mono ?_; rintro e w2 ⟨rfl, hb2⟩))
    go_ret2
    exact ⟨rfl, (by repeat (first | exact Below.refl _ _ | assumption | refine bal ?_ _ | refine bdn ?_ _ | refine bdr ?_ | refine bcl ?_ (by assumption)))⟩
  · rw [eV_of h] at c1
    rw [eV_of h]
    generalize rcE who deed t = E at *
    have C1 := Lib.hid c1; clear c1 h
    go_enter Tryd.func34, Tryd.ntmps34
    go_wp2_with (go_at_call 79; refine C1.out.mono ?_; rintro e w1 ⟨rfl, hb1⟩)
    go_ret2
    exact ⟨rfl, (by repeat (first | exact Below.refl _ _ | assumption | refine bal ?_ _ | refine bdn ?_ _ | refine bdr ?_ | refine bcl ?_ (by assumption)))⟩
set_option maxHeartbeats 400000 in
theorem first_nil (who deed : Int) (A : Option Addr) (c : Nat) (t : List Va) (hm : t.length ≤ maxLen) (hok : okL t) (w : World) (hA : Vals w A t) :
    Calls Tryd.prog 35 #[.slice none 0 0, .int .i64 who, .int .i64 deed, .slice A t.length c] w fun e w' => e = .returned (.tuple #[.int .i64 0, errV (rcB who deed t)]) ∧ Below w.heap.size w w' := by
  have c1 := both_nil who deed A c t hm hok w hA
  by_cases h : rcE who deed t = 0
  · rw [rcB, if_pos h]
    rw [h, eV_zero] at c1
    have C1 := Lib.hid c1; clear c1 h
    go_enter Tryd.func35, Tryd.ntmps35
    go_wp2_with (first | (go_at_call 79; refine C1.out.mono ?_; rintro e w1 ⟨rfl, hb1⟩) | (go_at_call 81; refine (place_nil _ _ _ _ _ _).mono ?_; rintro e w2 ⟨rfl, hb2⟩))
    go_ret2
    exact ⟨rfl, (by repeat (first | exact Below.refl _ _ | assumption | refine bal ?_ _ | refine bdn ?_ _ | refine bdr ?_ | refine bcl ?_ (by assumption)))⟩
  · rw [rcB, if_neg h]
    rw [eV_of h] at c1
    generalize rcE who deed t = E at *
    have C1 := Lib.hid c1; clear c1 h
    go_enter Tryd.func35, Tryd.ntmps35
    go_wp2_with (go_at_call 79; refine C1.out.mono ?_; rintro e w1 ⟨rfl, hb1⟩)
    go_ret2
    exact ⟨rfl, (by repeat (first | exact Below.refl _ _ | assumption | refine bal ?_ _ | refine bdn ?_ _ | refine bdr ?_ | refine bcl ?_ (by assumption)))⟩
set_option maxHeartbeats 400000 in
theorem walk (w : World) (hg : HG w) (who : Int) (_ : I64 who) (deed : Int) (_ : I64 deed) (A : Option Addr) (c : Nat) (t : List Va) (hc : t.length ≤ c) (hm : c ≤ maxLen) (hA : Vals w A t) (hok : okL t) :
    Calls Tryd.prog 8 #[.int .i64 who, .int .i64 deed, .slice A t.length c] w fun e w' => e = .returned (.bool true) ∧ Below w.heap.size w w' := by
  have hd0 : DG w w := DG.refl hg
  have hm2 : t.length ≤ maxLen := by omega
  have c1 := fun (W : World) (hW : Vals W A t) => may_nil who deed A c t hm2 hok W hW
  have c2 := fun (W : World) (hW : Vals W A t) => first_nil who deed A c t hm2 hok W hW
  by_cases h : rcE who deed t = 0
  · rw [rcB, if_pos h] at c2
    rw [h, eV_zero] at c1
    have C1 := Lib.hid c1; have C2 := Lib.hid c2; clear c1 c2 h
    go_enter Tryd.func8, Tryd.ntmps8
    go_wp2_with (first | (go_at_call 34; refine (C1.out _ hA).mono ?_; rintro e w1 ⟨rfl, hb1⟩; have hd1 := DG.below (w0 := w) hd0 hb1) | (go_at_call 35; refine (C2.out _ (hA.below hb1 (Nat.le_refl _))).mono ?_; rintro e w2 ⟨rfl, hb2⟩; have hd2 := DG.below (w0 := w) hd1 hb2) | (go_at_call 24; refine (same_err _ w _ (by assumption)).mono ?_; rintro e w3 ⟨rfl, hd3⟩))
    go_ret
    exact ⟨ret_true (by first | rfl | (simp; done) | (simp; omega)), hd3.b⟩
  · rw [rcB, if_neg h] at c2
    rw [eV_of h] at c1
    generalize rcE who deed t = E at *
    have C1 := Lib.hid c1; have C2 := Lib.hid c2; clear c1 c2 h
    go_enter Tryd.func8, Tryd.ntmps8
    go_wp2_with (first | (go_at_call 34; refine (C1.out _ hA).mono ?_; rintro e w1 ⟨rfl, hb1⟩; have hd1 := DG.below (w0 := w) hd0 hb1) | (go_at_call 35; refine (C2.out _ (hA.below hb1 (Nat.le_refl _))).mono ?_; rintro e w2 ⟨rfl, hb2⟩; have hd2 := DG.below (w0 := w) hd1 hb2))
    go_ret
    exact ⟨ret_true (by first | rfl | (simp; done) | (simp; omega)), hd2.b⟩

/-! ### the card's frame -/
set_option maxRecDepth 100000 in
theorem lifted (os : Os) (started : os.Started) (H : Type) (enc : TypeId × Value → H) :
    ReturnsInHanded {} Tryd.checked os 8 .any (fun w args => (Rows.ruleNoneSpec.pre enc Tryd.prog Tryd.f8 [] false w args ∧ laidMetH Tryd.prog laidL w) ∧ sizedMet enc Tryd.prog Tryd.f8 (OpenSpec.ofChange Rows.ruleNoneSpec) false w args) (Rows.ruleNoneSpec.post enc Tryd.prog Tryd.f8 false true false false) := by
  refine returnsInHanded_of_change_and (C := Tryd.checked) (X := fun w _ => laidMetH Tryd.prog laidL w) (fun _ _ _ hh h => h.of_heap hh) door.own started (by kernel_rfl) Tryd.func8
    (ChangeSpec.witness_at (enc := enc) (C := Tryd.checked) (os := os) (X := fun w _ => laidMetH Tryd.prog laidL w) false (laidWorld os) #[.int .i64 0, .int .i64 0, .slice none 0 0] 8 rfl (by kernel_rfl) (by kernel_rfl) (by kernel_rfl) (by kernel_rfl) (by kernel_rfl) (laidWorld_met os _)) ?_
  intro W base args ds gs before hval0 hW _ _ hL _
  have hg := handle_of_laid hL
  have hval : ∀ (j : Nat) t v, Tryd.f8.params[j]? = some t → args[j]? = some v → Value.okWide Tryd.prog W .any base t v := hval0
  have hW' := hW
  obtain ⟨p, q, hA0, hV, rfl, hfz, hnd⟩ := hW
  have hA : DataW.TrodAll enc Tryd.prog W 0 (fun _ => true) true Tryd.f8.params.toList args.toList ds p := hA0
  rw [Tryd.params8] at hA hval
  obtain ⟨v0, vs0, d0, ds0, p0, q0, hargs, rfl, rfl, h0, r0⟩ := trodAll_cons hA
  obtain ⟨v1, vs1, d1, ds1, p1, q1, rfl, rfl, rfl, h1, r1⟩ := trodAll_cons r0
  obtain ⟨v2, vs2, d2, ds2, p2, q2, rfl, rfl, rfl, h2, r2⟩ := trodAll_cons r1
  obtain ⟨rfl, rfl, rfl⟩ := trodAll_nil r2
  obtain rfl : args = #[v0, v1, v2] := by cases args; simp_all
  obtain ⟨rfl, rfl⟩ := trodVars_none hV
  have k0 := h0
  have lt0 : ∀ x ∈ p0, x.block < W.heap.size := by obtain ⟨m, hm⟩ := k0; exact DataW.trod_lt m _ _ _ hm
  obtain ⟨x0, rfl, w0⟩ := arg_int Tryd.underlying3 (hval 0 3 v0 rfl rfl) h0
  have k1 := h1
  have lt1 : ∀ x ∈ p1, x.block < W.heap.size := by obtain ⟨m, hm⟩ := k1; exact DataW.trod_lt m _ _ _ hm
  obtain ⟨x1, rfl, w1⟩ := arg_int Tryd.underlying3 (hval 1 3 v1 rfl rfl) h1
  have k2 := h2
  have lt2 : ∀ x ∈ p2, x.block < W.heap.size := by obtain ⟨m, hm⟩ := k2; exact DataW.trod_lt m _ _ _ hm
  obtain ⟨A2, c2, x2, rfl, hc2, hm2, hA2, w2⟩ := arg_Vals Tryd.underlying29 Tryd.underlying28 (by kernel_rfl) (by kernel_rfl) Tryd.underlying3 Tryd.underlying3 Tryd.underlying9 (hval 2 29 v2 rfl rfl) h2
  clear hA0 hval0
  refine (walk W hg x0 w0 x1 w1 A2 c2 x2 hc2 hm2 hA2 w2).mono fun e W' ⟨he, bel⟩ => ?_
  subst he
  exact ⟨_, rfl, _, _, _, [], _, [], hW', trodAll_mk1 (shut_bool Tryd.underlying4 _), (trodAll_cons_mk (Below.trod door.laidOut (by kernel_rfl) (of_decide_eq_true (by kernel_rfl)) k0 bel lt0) (trodAll_cons_mk (Below.trod door.laidOut (by kernel_rfl) (of_decide_eq_true (by kernel_rfl)) k1 bel lt1) (trodAll_cons_mk (Below.trod door.laidOut (by kernel_rfl) (of_decide_eq_true (by kernel_rfl)) k2 bel lt2) trodAll_mk0))), rfl, bel.frame _, fun h => by cases h⟩

theorem over : Rows.RuleNoneSaid :=
  OpenClaim.holds_of_wide 8 Tryd.f8 rfl rfl rfl rfl rfl rfl rfl ⟨rfl, rfl, rfl, rfl, rfl⟩ rfl rfl rfl rfl rfl (by kernel_rfl) Tryd.func8 (by kernel_rfl)
    (of_decide_eq_true (by kernel_rfl)) (by unfold Func.isWrapper; first | (rw [if_pos (by decide +kernel)]; kernel_rfl) | (rw [if_neg (by decide +kernel)]; exact ⟨rfl, rfl⟩))
    (fun os started H enc _ => lifted os started H enc)

theorem proved : Rows.RuleNoneCardSaid :=
  Claim7.holds_tied_plain_at .later [] [.handle] true _ true over (fun _ h => by cases h) (by kernel_rfl) (fun _ h => by cases h) ruleNone_row_tie rfl ⟨rfl, rfl⟩ (by kernel_rfl) rfl
    (fun f fn hf hfn => by
      obtain rfl : f = 8 := Option.some.inj ((show Tryd.prog.funcNamed Rows.ruleNoneRow.func = some 8 by kernel_rfl).symm.trans hf) |>.symm
      obtain rfl : fn = Tryd.f8 := (Option.some.inj (Tryd.func8.symm.trans hfn)).symm
      exact ⟨by kernel_rfl, fun j t ht => by
        rw [Tryd.params8] at ht
        have hm : t ∈ [3, 3, 29] := by simpa using Array.mem_of_getElem? ht
        have hall : ([3, 3, 29].all fun u => !Tryd.prog.wantsStandIn u) = true := by kernel_rfl
        exact (show Tryd.prog.wantsStandIn t = false by simpa using List.all_eq_true.1 hall t hm)⟩)
    (by kernel_rfl)
#print axioms proved

end Go.Proofs.YthpemlhlgjdnkaaDoor.ruleNone
