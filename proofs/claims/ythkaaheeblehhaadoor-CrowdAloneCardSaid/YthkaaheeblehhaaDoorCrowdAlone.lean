/- CrowdAloneCardSaid: ONE ALONE IS BELIEVED, WHATEVER IT SAYS. -/
import Derived.Test.YthkaaheeblehhaaDoorCrowdAloneW
import Derived.Test.YthkaaheeblehhaaDoorDoorT
import Derived.Test.YthkaaheeblehhaaDoorDoor
import Derived.Test.YthkaaheeblehhaaDoorTie
import Derived.Test.YthkaaheeblehhaaDoorCards
import Derived.WalkKit
import Derived.ProofKit
import Derived.OpenShut
import Derived.ShutString
import Derived.ChangeOld
import Derived.WalkLawsBesides
import Derived.WalkSpells
import Derived.RegionTactic
import Derived.ChangeAlike
import Derived.SevenTiedAt
import Derived.Deep.DeepCutAuto
import Derived.Outline
namespace Go.Proofs.YthkaaheeblehhaaDoor.crowdAlone
open Go.ChangeShapes Go.WideShapes Go.ChangeAt Go.RowKit
set_option linter.unusedVariables false

/-! ### the card's frame -/
set_option maxRecDepth 100000 in
theorem lifted (os : Os) (started : os.Started) (H : Type) (enc : TypeId × Value → H) :
    ReturnsInHanded {} Tryd.checked os 5 .any (fun w args => (Rows.crowdAloneSpec.pre enc Tryd.prog Tryd.f5 [] false w args ∧ laidMetH Tryd.prog laidT w) ∧ sizedMet enc Tryd.prog Tryd.f5 (OpenSpec.ofChange Rows.crowdAloneSpec) false w args) (Rows.crowdAloneSpec.post enc Tryd.prog Tryd.f5 false true false false) := by
  refine returnsInHanded_of_change_and (C := Tryd.checked) (X := fun w _ => laidMetH Tryd.prog laidT w) (fun _ _ _ hh h => h.of_heap hh) door.own started (by kernel_rfl) Tryd.func5
    (ChangeSpec.witness_at (enc := enc) (C := Tryd.checked) (os := os) (X := fun w _ => laidMetH Tryd.prog laidT w) false (laidWorldT os) #[.string ByteArray.empty, .int .i64 0] 8 rfl (by kernel_rfl) (by kernel_rfl) (by kernel_rfl) (by kernel_rfl) (by kernel_rfl) (laidWorldT_met os _)) ?_
  intro W base args ds gs before hval0 hW _ hsz hL _
  have hg := tt_of_laid hL
  have hval : ∀ (j : Nat) t v, Tryd.f5.params[j]? = some t → args[j]? = some v → Value.okWide Tryd.prog W .any base t v := hval0
  have hW' := hW
  obtain ⟨p, q, hT0, hV, rfl, hfz, hnd⟩ := hW
  have hA : DataW.TrodAll enc Tryd.prog W 0 (fun _ => true) true Tryd.f5.params.toList args.toList ds p := hT0
  rw [Tryd.params5] at hA hval
  obtain ⟨v0, vs0, d0, ds0, p0, q0, hargs, rfl, rfl, h0, r0⟩ := trodAll_cons hA
  obtain ⟨v1, vs1, d1, ds1, p1, q1, rfl, rfl, rfl, h1, r1⟩ := trodAll_cons r0
  obtain ⟨rfl, rfl, rfl⟩ := trodAll_nil r1
  obtain rfl : args = #[v0, v1] := by cases args; simp_all
  obtain ⟨rfl, rfl⟩ := trodVars_none hV
  have k0 := h0
  have lt0 : ∀ x ∈ p0, x.block < W.heap.size := by obtain ⟨m, hm⟩ := k0; exact DataW.trod_lt m _ _ _ hm
  obtain ⟨x0, rfl, w0⟩ := arg_string Tryd.underlying9 (hval 0 9 v0 rfl rfl) h0
  have k1 := h1
  have lt1 : ∀ x ∈ p1, x.block < W.heap.size := by obtain ⟨m, hm⟩ := k1; exact DataW.trod_lt m _ _ _ hm
  obtain ⟨x1, rfl, w1⟩ := arg_int Tryd.underlying3 (hval 1 3 v1 rfl rfl) h1
  clear hT0 hval0
  refine (walk W hg x0 w0 x1 w1).mono fun e W' ⟨he, bel⟩ => ?_
  subst he
  exact ⟨_, rfl, _, _, _, [], _, [], hW', trodAll_mk1 (shut_bool Tryd.underlying4 _), (trodAll_cons_mk (Below.trod door.laidOut (by kernel_rfl) (of_decide_eq_true (by kernel_rfl)) k0 bel lt0) (trodAll_cons_mk (Below.trod door.laidOut (by kernel_rfl) (of_decide_eq_true (by kernel_rfl)) k1 bel lt1) trodAll_mk0)), rfl, bel.frame _, fun h => by cases h⟩

theorem fr.fn : Tryd.prog.funcNamed Rows.crowdAloneRow.func = some 5 := by kernel_rfl
theorem fr.cl : joinedFacts Tryd.prog 5 Tryd.f5 Rows.crowdAloneSpec Rows.crowdAloneRow = true := by kernel_rfl
theorem fr.is : Tryd.f5.isInstance Tryd.prog Rows.crowdAloneRow.origin Rows.crowdAloneRow.targs := of_decide_eq_true (by kernel_rfl)
theorem fr.wr : Tryd.f5.isWrapper Tryd.prog Rows.crowdAloneRow.wrapper Rows.crowdAloneRow.mainSum := by
  unfold Func.isWrapper; first | (rw [if_pos (by decide +kernel)]; kernel_rfl) | (rw [if_neg (by decide +kernel)]; exact ⟨rfl, rfl⟩)
theorem over : Rows.CrowdAloneSaid :=
  OpenClaim.holds_of_wide 5 Tryd.f5 rfl rfl rfl rfl rfl rfl rfl ⟨rfl, rfl, rfl, rfl, rfl⟩ rfl rfl rfl rfl rfl fr.fn Tryd.func5 fr.cl fr.is fr.wr
    (fun os started H enc _ => lifted os started H enc)

theorem fr.hw : Rows.crowdAloneRow.wfByText (OpenSpec.ofChange Rows.crowdAloneSpec) = true := by kernel_rfl
theorem fr.hm : Tryd.pinned.checked.prog.mainIs = some (Rows.crowdAloneCard.stood.harness.1, Rows.crowdAloneCard.stood.harness.2.toList) := by kernel_rfl
theorem fr.lk : true = Tryd.prog.looks [] := by kernel_rfl
theorem fr.ws : ([9, 3].all fun u => !Tryd.prog.wantsStandIn u) = true := by kernel_rfl
theorem fr.go : false = Rows.crowdAloneRow.goesBy Tryd.pinned.checked.prog := by kernel_rfl
theorem proved : Rows.CrowdAloneCardSaid :=
  Claim7.holds_tied_plain_at .later [] [.data, .data, .data] true Rows.crowdAloneCard.stood.harness true over (fun _ h => by cases h) fr.hw (fun _ h => by cases h) crowdAlone_row_tie rfl ⟨rfl, rfl⟩ fr.hm rfl
    (fun f fn hf hfn => by
      obtain rfl : f = 5 := Option.some.inj (fr.fn.symm.trans hf) |>.symm
      obtain rfl : fn = Tryd.f5 := (Option.some.inj (Tryd.func5.symm.trans hfn)).symm
      exact ⟨fr.lk, fun j t ht => by
        rw [Tryd.params5] at ht
        have hm : t ∈ [9, 3] := by simpa using Array.mem_of_getElem? ht
        exact (show Tryd.prog.wantsStandIn t = false by simpa using List.all_eq_true.1 fr.ws t hm)⟩)
    fr.go
#print axioms proved

end Go.Proofs.YthkaaheeblehhaaDoor.crowdAlone
