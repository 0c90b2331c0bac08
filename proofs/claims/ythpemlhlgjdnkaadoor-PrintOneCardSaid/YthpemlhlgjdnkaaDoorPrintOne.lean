/- PrintOneCardSaid: OF ONE BYTE IT IS TOLD AT ONCE: for every int. -/
import Derived.Test.YthpemlhlgjdnkaaDoorDoorT
import Derived.Test.YthpemlhlgjdnkaaDoorTie
import Derived.Test.YthpemlhlgjdnkaaDoorCards
import Derived.WalkKit
import Derived.ProofKit
import Derived.OpenShut
import Derived.ShutString
import Derived.ChangeOld
import Derived.WalkLawsBesides
import Derived.WalkSpells
import Derived.RegionTactic
import Derived.ChangeAlike
import Derived.SevenTiedAt
namespace Go.Proofs.YthpemlhlgjdnkaaDoor.printOne
open Go.ChangeShapes Go.WideShapes Go.ChangeAt Go.RowKit
set_option linter.unusedVariables false

theorem dg_any : dgv ⟨2, 0, ⟨#[]⟩⟩ = 259 := by decide
theorem dg_one (n : Int) (h0 : 0 ≤ n) (h9 : n ≤ 9) : dgv ⟨0, n, ⟨#[]⟩⟩ = 265 + n := by
  obtain ⟨m, rfl⟩ := Int.eq_ofNat_of_zero_le h0
  have hm : m ≤ 9 := by omega
  have hw : wrd ⟨0, (m : Int), ⟨#[]⟩⟩ = ⟨#[UInt8.ofNat (48 + m)]⟩ := by rw [wrd, if_pos rfl]; show ByteArray.mk (Lib.itoa m).toArray = _; rw [Lib.itoa_nonneg, Lib.decDigits_one (by omega)]
  rw [dgv, hw]
  rcases (show m = 0 ∨ m = 1 ∨ m = 2 ∨ m = 3 ∨ m = 4 ∨ m = 5 ∨ m = 6 ∨ m = 7 ∨ m = 8 ∨ m = 9 by omega) with rfl | rfl | rfl | rfl | rfl | rfl | rfl | rfl | rfl | rfl <;> decide
theorem va_ok (n : Int) (h0 : 0 ≤ n) (h9 : n ≤ 9) : vaE ⟨0, n, ⟨#[]⟩⟩ = 0 := by rw [vaE, if_neg (by simp; omega), if_neg (by simp), if_neg (by simp [okS_empty, ByteArray.size])]
set_option maxHeartbeats 800000 in
theorem walk (w : World) (ht : TT w) (n : Int) (hn : I64 n) :
    Calls Tryd.prog 7 #[.int .i64 n] w fun e w' => e = .returned (.bool true) ∧ Below w.heap.size w w' := by
  by_cases h : 0 ≤ n ∧ n ≤ 9
  · obtain ⟨h0, h9⟩ := h
    have c := digvalue_any ⟨0, n, ⟨#[]⟩⟩ (show (0 : Nat) ≤ _ by omega) w ht
    rw [va_ok n h0 h9, if_pos rfl, eV_zero, dg_one n h0 h9] at c
    have q1 : decide (n < 0) = false := decide_eq_false (by omega)
    have q2 : decide (9 < n) = false := decide_eq_false (by omega)
    have C := Lib.hid c
    clear c ht hn
    go_enter Tryd.func7, Tryd.ntmps7
    go_wp2_with (go_at_call 33; refine C.out.mono ?_; rintro e w1 ⟨rfl, hb1⟩)
    go_ret
    exact ⟨ret_true (by first | rfl | (simp; done) | (simp; omega)), hb1⟩
  · have c := digvalue_any ⟨2, 0, ⟨#[]⟩⟩ (show (0 : Nat) ≤ _ by omega) w ht
    rw [show vaE ⟨2, 0, ⟨#[]⟩⟩ = 0 by decide, if_pos rfl, eV_zero, dg_any] at c
    have hq : decide (n < 0) = true ∨ decide (n < 0) = false ∧ decide (9 < n) = true := by
      by_cases h2 : n < 0
      · exact .inl (decide_eq_true h2)
      · exact .inr ⟨decide_eq_false h2, decide_eq_true (by omega)⟩
    have C := Lib.hid c
    clear c ht hn h
    rcases hq with q1 | ⟨q1, q2⟩
    all_goals
      go_enter Tryd.func7, Tryd.ntmps7
      go_wp2_with (go_at_call 33; refine C.out.mono ?_; rintro e w1 ⟨rfl, hb1⟩)
      go_ret
      exact ⟨ret_true (by first | rfl | (simp; done) | (simp; omega)), hb1⟩

/-! ### the card's frame -/
set_option maxRecDepth 100000 in
theorem lifted (os : Os) (started : os.Started) (H : Type) (enc : TypeId × Value → H) :
    ReturnsInHanded {} Tryd.checked os 7 .any (fun w args => (Rows.printOneSpec.pre enc Tryd.prog Tryd.f7 [] false w args ∧ laidMetH Tryd.prog laidT w) ∧ sizedMet enc Tryd.prog Tryd.f7 (OpenSpec.ofChange Rows.printOneSpec) false w args) (Rows.printOneSpec.post enc Tryd.prog Tryd.f7 false true false false) := by
  refine returnsInHanded_of_change_and (C := Tryd.checked) (X := fun w _ => laidMetH Tryd.prog laidT w) (fun _ _ _ hh h => h.of_heap hh) door.own started (by kernel_rfl) Tryd.func7
    (ChangeSpec.witness_at (enc := enc) (C := Tryd.checked) (os := os) (X := fun w _ => laidMetH Tryd.prog laidT w) false (laidWorldT os) #[.int .i64 0] 8 rfl (by kernel_rfl) (by kernel_rfl) (by kernel_rfl) (by kernel_rfl) (by kernel_rfl) (laidWorldT_met os _)) ?_
  intro W base args ds gs before hval0 hW _ hsz hL _
  have hg := tt_of_laid hL
  have hval : ∀ (j : Nat) t v, Tryd.f7.params[j]? = some t → args[j]? = some v → Value.okWide Tryd.prog W .any base t v := hval0
  have hW' := hW
  obtain ⟨p, q, hT0, hV, rfl, hfz, hnd⟩ := hW
  have hA : DataW.TrodAll enc Tryd.prog W 0 (fun _ => true) true Tryd.f7.params.toList args.toList ds p := hT0
  rw [Tryd.params7] at hA hval
  obtain ⟨v0, vs0, d0, ds0, p0, q0, hargs, rfl, rfl, h0, r0⟩ := trodAll_cons hA
  obtain ⟨rfl, rfl, rfl⟩ := trodAll_nil r0
  obtain rfl : args = #[v0] := by cases args; simp_all
  obtain ⟨rfl, rfl⟩ := trodVars_none hV
  have k0 := h0
  have lt0 : ∀ x ∈ p0, x.block < W.heap.size := by obtain ⟨m, hm⟩ := k0; exact DataW.trod_lt m _ _ _ hm
  obtain ⟨x0, rfl, w0⟩ := arg_int Tryd.underlying3 (hval 0 3 v0 rfl rfl) h0
  clear hT0 hval0
  refine (walk W hg x0 w0).mono fun e W' ⟨he, bel⟩ => ?_
  subst he
  exact ⟨_, rfl, _, _, _, [], _, [], hW', trodAll_mk1 (shut_bool Tryd.underlying4 _), (trodAll_cons_mk (Below.trod door.laidOut (by kernel_rfl) (of_decide_eq_true (by kernel_rfl)) k0 bel lt0) trodAll_mk0), rfl, bel.frame _, fun h => by cases h⟩

theorem fr.fn : Tryd.prog.funcNamed Rows.printOneRow.func = some 7 := by kernel_rfl
theorem fr.cl : joinedFacts Tryd.prog 7 Tryd.f7 Rows.printOneSpec Rows.printOneRow = true := by kernel_rfl
theorem fr.is : Tryd.f7.isInstance Tryd.prog Rows.printOneRow.origin Rows.printOneRow.targs := of_decide_eq_true (by kernel_rfl)
theorem fr.wr : Tryd.f7.isWrapper Tryd.prog Rows.printOneRow.wrapper Rows.printOneRow.mainSum := by
  unfold Func.isWrapper; first | (rw [if_pos (by decide +kernel)]; kernel_rfl) | (rw [if_neg (by decide +kernel)]; exact ⟨rfl, rfl⟩)
theorem over : Rows.PrintOneSaid :=
  OpenClaim.holds_of_wide 7 Tryd.f7 rfl rfl rfl rfl rfl rfl rfl ⟨rfl, rfl, rfl, rfl, rfl⟩ rfl rfl rfl rfl rfl fr.fn Tryd.func7 fr.cl fr.is fr.wr
    (fun os started H enc _ => lifted os started H enc)

theorem fr.hw : Rows.printOneRow.wfByText (OpenSpec.ofChange Rows.printOneSpec) = true := by kernel_rfl
theorem fr.hm : Tryd.pinned.checked.prog.mainIs = some (Rows.printOneCard.stood.harness.1, Rows.printOneCard.stood.harness.2.toList) := by kernel_rfl
theorem fr.lk : true = Tryd.prog.looks [] := by kernel_rfl
theorem fr.ws : ([3].all fun u => !Tryd.prog.wantsStandIn u) = true := by kernel_rfl
theorem fr.go : false = Rows.printOneRow.goesBy Tryd.pinned.checked.prog := by kernel_rfl
theorem proved : Rows.PrintOneCardSaid :=
  Claim7.holds_tied_plain_at .later [] [.data, .data, .data] true Rows.printOneCard.stood.harness true over (fun _ h => by cases h) fr.hw (fun _ h => by cases h) printOne_row_tie rfl ⟨rfl, rfl⟩ fr.hm rfl
    (fun f fn hf hfn => by
      obtain rfl : f = 7 := Option.some.inj (fr.fn.symm.trans hf) |>.symm
      obtain rfl : fn = Tryd.f7 := (Option.some.inj (Tryd.func7.symm.trans hfn)).symm
      exact ⟨fr.lk, fun j t ht => by
        rw [Tryd.params7] at ht
        have hm : t ∈ [3] := by simpa using Array.mem_of_getElem? ht
        exact (show Tryd.prog.wantsStandIn t = false by simpa using List.all_eq_true.1 fr.ws t hm)⟩)
    fr.go
#print axioms proved

end Go.Proofs.YthpemlhlgjdnkaaDoor.printOne
