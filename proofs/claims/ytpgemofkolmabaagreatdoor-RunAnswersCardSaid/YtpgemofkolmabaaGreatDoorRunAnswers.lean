/- RunAnswersCardSaid: ANY SESSION IS ANSWERED AS CHAPTER 20 SAYS. -/
import Derived.Test.YtpgemofkolmabaaGreatDoorRaAll
import Derived.Test.YtpgemofkolmabaaGreatDoorDoor
import Derived.Test.YtpgemofkolmabaaGreatDoorTie
import Derived.Test.YtpgemofkolmabaaGreatDoorCards
import Derived.WalkKit
import Derived.ProofKit
import Derived.OpenShut
import Derived.ShutString
import Derived.ChangeOld
import Derived.WalkLawsBesides
import Derived.WalkSpells
import Derived.RegionTactic
import Derived.ChangeAlike
import Derived.SevenTiedAt
import Derived.Deep.DeepCutAuto
import Derived.Outline
namespace Go.Proofs.YtpgemofkolmabaaGreatDoor.runAnswers
open Go.ChangeShapes Go.WideShapes Go.ChangeAt Go.RowKit
set_option linter.unusedVariables false

/-! ### the card's frame -/
set_option maxRecDepth 100000 in
theorem lifted (os : Os) (started : os.Started) (H : Type) (enc : TypeId × Value → H) :
    ReturnsInHanded {} Tryz.checked os 4 .any (fun w args => (Rows.runAnswersSpec.pre enc Tryz.prog Tryz.f4 [] false w args ∧ laidMetH Tryz.prog laidR w) ∧ sizedMet enc Tryz.prog Tryz.f4 (OpenSpec.ofChange Rows.runAnswersSpec) false w args) (Rows.runAnswersSpec.post enc Tryz.prog Tryz.f4 false true false false) := by
  refine returnsInHanded_of_change_and (C := Tryz.checked) (X := fun w _ => laidMetH Tryz.prog laidR w) (fun _ _ _ hh h => h.of_heap hh) door.own started (by kernel_rfl) Tryz.func4
    (ChangeSpec.witness_shaped (enc := enc) (C := Tryz.checked) (os := os) (X := fun w _ => laidMetH Tryz.prog laidR w) false (laidWorldR os) #[.string ByteArray.empty] 8 rfl (laidWorldR_shaped os _) (by kernel_rfl) (by kernel_rfl) (by kernel_rfl) (laidWorldR_met os _)) ?_
  intro W base args ds gs before hval0 hW _ hsz hL _
  have hg := tr_of_laid hL
  have hval : ∀ (j : Nat) t v, Tryz.f4.params[j]? = some t → args[j]? = some v → Value.okWide Tryz.prog W .any base t v := hval0
  have hW' := hW
  obtain ⟨p, q, hT0, hV, rfl, hfz, hnd⟩ := hW
  have hA : DataW.TrodAll enc Tryz.prog W 0 (fun _ => true) true Tryz.f4.params.toList args.toList ds p := hT0
  rw [Tryz.params4] at hA hval
  obtain ⟨v0, vs0, d0, ds0, p0, q0, hargs, rfl, rfl, h0, r0⟩ := trodAll_cons hA
  obtain ⟨rfl, rfl, rfl⟩ := trodAll_nil r0
  obtain rfl : args = #[v0] := by cases args; simp_all
  obtain ⟨rfl, rfl⟩ := trodVars_none hV
  have k0 := h0
  have lt0 : ∀ x ∈ p0, x.block < W.heap.size := by obtain ⟨m, hm⟩ := k0; exact DataW.trod_lt m _ _ _ hm
  obtain ⟨x0, rfl, w0⟩ := arg_string Tryz.underlying9 (hval 0 9 v0 rfl rfl) h0
  clear hT0 hval0
  refine (walk W hg x0 w0).mono fun e W' ⟨he, bel⟩ => ?_
  subst he
  exact ⟨_, rfl, _, _, _, [], _, [], hW', trodAll_mk1 (shut_bool Tryz.underlying4 _), (trodAll_cons_mk (Below.trod door.laidOut (by kernel_rfl) (of_decide_eq_true (by kernel_rfl)) k0 bel lt0) trodAll_mk0), rfl, bel.frame _, fun h => by cases h⟩

theorem fr.fn : Tryz.prog.funcNamed Rows.runAnswersRow.func = some 4 := by kernel_rfl
theorem fr.cl : joinedFacts Tryz.prog 4 Tryz.f4 Rows.runAnswersSpec Rows.runAnswersRow = true := by kernel_rfl
theorem fr.is : Tryz.f4.isInstance Tryz.prog Rows.runAnswersRow.origin Rows.runAnswersRow.targs := of_decide_eq_true (by kernel_rfl)
theorem fr.wr : Tryz.f4.isWrapper Tryz.prog Rows.runAnswersRow.wrapper Rows.runAnswersRow.mainSum := by
  unfold Func.isWrapper; first | (rw [if_pos (by decide +kernel)]; kernel_rfl) | (rw [if_neg (by decide +kernel)]; exact ⟨rfl, rfl⟩)
theorem over : Rows.RunAnswersSaid :=
  OpenClaim.holds_of_wide 4 Tryz.f4 rfl rfl rfl rfl rfl rfl rfl ⟨rfl, rfl, rfl, rfl, rfl⟩ rfl rfl rfl rfl rfl fr.fn Tryz.func4 fr.cl fr.is fr.wr
    (fun os started H enc _ => lifted os started H enc)

theorem fr.hw : Rows.runAnswersRow.wfByText (OpenSpec.ofChange Rows.runAnswersSpec) = true := by kernel_rfl
theorem fr.hm : Tryz.pinned.checked.prog.mainIs = some (Rows.runAnswersCard.stood.harness.1, Rows.runAnswersCard.stood.harness.2.toList) := by kernel_rfl
theorem fr.lk : true = Tryz.prog.looks [] := by kernel_rfl
theorem fr.ws : ([9].all fun u => !Tryz.prog.wantsStandIn u) = true := by kernel_rfl
theorem fr.go : false = Rows.runAnswersRow.goesBy Tryz.pinned.checked.prog := by kernel_rfl
theorem proved : Rows.RunAnswersCardSaid :=
  Claim7.holds_tied_plain_at .later [] [.data, .data, .data, .data, .handle, .sentinel, .sentinel, .wider, .pinned] true Rows.runAnswersCard.stood.harness true over (fun _ h => by cases h) fr.hw (fun _ h => by cases h) runAnswers_row_tie rfl ⟨rfl, rfl⟩ fr.hm rfl
    (fun f fn hf hfn => by
      obtain rfl : f = 4 := Option.some.inj (fr.fn.symm.trans hf) |>.symm
      obtain rfl : fn = Tryz.f4 := (Option.some.inj (Tryz.func4.symm.trans hfn)).symm
      exact ⟨fr.lk, fun j t ht => by
        rw [Tryz.params4] at ht
        have hm : t ∈ [9] := by simpa using Array.mem_of_getElem? ht
        exact (show Tryz.prog.wantsStandIn t = false by simpa using List.all_eq_true.1 fr.ws t hm)⟩)
    fr.go
#print axioms proved

end Go.Proofs.YtpgemofkolmabaaGreatDoor.runAnswers
