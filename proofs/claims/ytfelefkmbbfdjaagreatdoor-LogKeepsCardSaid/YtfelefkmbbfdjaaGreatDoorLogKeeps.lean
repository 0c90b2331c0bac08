/- LogKeepsCardSaid: WHAT IS SAFE IS KEPT: behind a crash there is a copy that did as many deeds as are whole among the bytes that are left; what stopped did nothing. For any rules, asks, syncs, fails and keeps. -/
import Derived.Test.YtfelefkmbbfdjaaGreatDoorLkAll4
import Derived.Test.YtfelefkmbbfdjaaGreatDoorDoorX
import Derived.Test.YtfelefkmbbfdjaaGreatDoorDoor
import Derived.Test.YtfelefkmbbfdjaaGreatDoorTie
import Derived.Test.YtfelefkmbbfdjaaGreatDoorCards
import Derived.WalkKit
import Derived.ProofKit
import Derived.OpenShut
import Derived.ShutString
import Derived.ChangeOld
import Derived.WalkLawsBesides
import Derived.WalkSpells
import Derived.RegionTactic
import Derived.ChangeAlike
import Derived.SevenTiedAt
import Derived.Deep.DeepCutAuto
import Derived.Outline
namespace Go.Proofs.YtfelefkmbbfdjaaGreatDoor.logKeeps
open Go.ChangeShapes Go.WideShapes Go.ChangeAt Go.RowKit
set_option linter.unusedVariables false

/-! ### the card's frame -/
set_option maxRecDepth 100000 in
theorem lifted (os : Os) (started : os.Started) (H : Type) (enc : TypeId × Value → H) :
    ReturnsInHanded {} Tryz.checked os 3 .any (fun w args => (Rows.logKeepsSpec.pre enc Tryz.prog Tryz.f3 [] false w args ∧ laidMetH Tryz.prog laidWH w) ∧ sizedMet enc Tryz.prog Tryz.f3 (OpenSpec.ofChange Rows.logKeepsSpec) false w args) (Rows.logKeepsSpec.post enc Tryz.prog Tryz.f3 false true false false) := by
  refine returnsInHanded_of_change_and (C := Tryz.checked) (X := fun w _ => laidMetH Tryz.prog laidWH w) (fun _ _ _ hh h => h.of_heap hh) door.own started (by kernel_rfl) Tryz.func3
    (ChangeSpec.witness_shaped (enc := enc) (C := Tryz.checked) (os := os) (X := fun w _ => laidMetH Tryz.prog laidWH w) false (laidWorldWH os) #[.slice none 0 0, .slice none 0 0, .slice none 0 0, .slice none 0 0, .slice none 0 0] 8 rfl (laidWorldWH_shaped os _) (by kernel_rfl) (by kernel_rfl) (by kernel_rfl) (laidWorldWH_met os _)) ?_
  intro W base args ds gs before hval0 hW _ hsz hL _
  have hg := twh_of_laid hL
  have hval : ∀ (j : Nat) t v, Tryz.f3.params[j]? = some t → args[j]? = some v → Value.okWide Tryz.prog W .any base t v := hval0
  have hW' := hW
  obtain ⟨p, q, hT0, hV, rfl, hfz, hnd⟩ := hW
  have hA : DataW.TrodAll enc Tryz.prog W 0 (fun _ => true) true Tryz.f3.params.toList args.toList ds p := hT0
  rw [Tryz.params3] at hA hval
  obtain ⟨v0, vs0, d0, ds0, p0, q0, hargs, rfl, rfl, h0, r0⟩ := trodAll_cons hA
  obtain ⟨v1, vs1, d1, ds1, p1, q1, rfl, rfl, rfl, h1, r1⟩ := trodAll_cons r0
  obtain ⟨v2, vs2, d2, ds2, p2, q2, rfl, rfl, rfl, h2, r2⟩ := trodAll_cons r1
  obtain ⟨v3, vs3, d3, ds3, p3, q3, rfl, rfl, rfl, h3, r3⟩ := trodAll_cons r2
  obtain ⟨v4, vs4, d4, ds4, p4, q4, rfl, rfl, rfl, h4, r4⟩ := trodAll_cons r3
  obtain ⟨rfl, rfl, rfl⟩ := trodAll_nil r4
  obtain rfl : args = #[v0, v1, v2, v3, v4] := by cases args; simp_all
  obtain ⟨rfl, rfl⟩ := trodVars_none hV
  have k0 := h0
  have lt0 : ∀ x ∈ p0, x.block < W.heap.size := by obtain ⟨m, hm⟩ := k0; exact DataW.trod_lt m _ _ _ hm
  obtain ⟨A0, c0, x0, rfl, hc0, hm0, hA0, w0⟩ := arg_Rls Tryz.underlying22 Tryz.underlying34 (by kernel_rfl) (by kernel_rfl) Tryz.underlying3 Tryz.underlying3 Tryz.underlying32 Tryz.underlying4 Tryz.underlying31 (by kernel_rfl) (by kernel_rfl) Tryz.underlying3 Tryz.underlying3 Tryz.underlying9 (hval 0 22 v0 rfl rfl) h0
  have k1 := h1
  have lt1 : ∀ x ∈ p1, x.block < W.heap.size := by obtain ⟨m, hm⟩ := k1; exact DataW.trod_lt m _ _ _ hm
  obtain ⟨A1, c1, x1, rfl, hc1, hm1, hA1, w1⟩ := arg_Aks Tryz.underlying23 Tryz.underlying38 (by kernel_rfl) (by kernel_rfl) Tryz.underlying3 Tryz.underlying3 Tryz.underlying3 Tryz.underlying32 Tryz.underlying31 (by kernel_rfl) (by kernel_rfl) Tryz.underlying3 Tryz.underlying3 Tryz.underlying9 (hval 1 23 v1 rfl rfl) h1
  have k2 := h2
  have lt2 : ∀ x ∈ p2, x.block < W.heap.size := by obtain ⟨m, hm⟩ := k2; exact DataW.trod_lt m _ _ _ hm
  obtain ⟨A2, c2, x2, rfl, hc2, hm2, hA2, w2⟩ := arg_Ints Tryz.underlying24 Tryz.underlying3 (by kernel_rfl) (hval 2 24 v2 rfl rfl) h2
  have k3 := h3
  have lt3 : ∀ x ∈ p3, x.block < W.heap.size := by obtain ⟨m, hm⟩ := k3; exact DataW.trod_lt m _ _ _ hm
  obtain ⟨A3, c3, x3, rfl, hc3, hm3, hA3, w3⟩ := arg_Ints Tryz.underlying24 Tryz.underlying3 (by kernel_rfl) (hval 3 24 v3 rfl rfl) h3
  have k4 := h4
  have lt4 : ∀ x ∈ p4, x.block < W.heap.size := by obtain ⟨m, hm⟩ := k4; exact DataW.trod_lt m _ _ _ hm
  obtain ⟨A4, c4, x4, rfl, hc4, hm4, hA4, w4⟩ := arg_Ints Tryz.underlying24 Tryz.underlying3 (by kernel_rfl) (hval 4 24 v4 rfl rfl) h4
  clear hT0 hval0
  refine (walk W hg A0 c0 x0 hc0 hm0 hA0 w0 A1 c1 x1 hc1 hm1 hA1 w1 A2 c2 x2 hc2 hm2 hA2 w2 A3 c3 x3 hc3 hm3 hA3 w3 A4 c4 x4 hc4 hm4 hA4 w4).mono fun e W' ⟨he, bel⟩ => ?_
  subst he
  exact ⟨_, rfl, _, _, _, [], _, [], hW', trodAll_mk1 (shut_bool Tryz.underlying4 _), (trodAll_cons_mk (Below.trod door.laidOut (by kernel_rfl) (of_decide_eq_true (by kernel_rfl)) k0 bel lt0) (trodAll_cons_mk (Below.trod door.laidOut (by kernel_rfl) (of_decide_eq_true (by kernel_rfl)) k1 bel lt1) (trodAll_cons_mk (Below.trod door.laidOut (by kernel_rfl) (of_decide_eq_true (by kernel_rfl)) k2 bel lt2) (trodAll_cons_mk (Below.trod door.laidOut (by kernel_rfl) (of_decide_eq_true (by kernel_rfl)) k3 bel lt3) (trodAll_cons_mk (Below.trod door.laidOut (by kernel_rfl) (of_decide_eq_true (by kernel_rfl)) k4 bel lt4) trodAll_mk0))))), rfl, bel.frame _, fun h => by cases h⟩

theorem fr.fn : Tryz.prog.funcNamed Rows.logKeepsRow.func = some 3 := by kernel_rfl
theorem fr.cl : joinedFacts Tryz.prog 3 Tryz.f3 Rows.logKeepsSpec Rows.logKeepsRow = true := by kernel_rfl
theorem fr.is : Tryz.f3.isInstance Tryz.prog Rows.logKeepsRow.origin Rows.logKeepsRow.targs := of_decide_eq_true (by kernel_rfl)
theorem fr.wr : Tryz.f3.isWrapper Tryz.prog Rows.logKeepsRow.wrapper Rows.logKeepsRow.mainSum := by
  unfold Func.isWrapper; first | (rw [if_pos (by decide +kernel)]; kernel_rfl) | (rw [if_neg (by decide +kernel)]; exact ⟨rfl, rfl⟩)
theorem over : Rows.LogKeepsSaid :=
  OpenClaim.holds_of_wide 3 Tryz.f3 rfl rfl rfl rfl rfl rfl rfl ⟨rfl, rfl, rfl, rfl, rfl⟩ rfl rfl rfl rfl rfl fr.fn Tryz.func3 fr.cl fr.is fr.wr
    (fun os started H enc _ => lifted os started H enc)

theorem fr.hw : Rows.logKeepsRow.wfByText (OpenSpec.ofChange Rows.logKeepsSpec) = true := by kernel_rfl
theorem fr.hm : Tryz.pinned.checked.prog.mainIs = some (Rows.logKeepsCard.stood.harness.1, Rows.logKeepsCard.stood.harness.2.toList) := by kernel_rfl
theorem fr.lk : true = Tryz.prog.looks [] := by kernel_rfl
theorem fr.ws : ([22, 23, 24, 24, 24].all fun u => !Tryz.prog.wantsStandIn u) = true := by kernel_rfl
theorem fr.go : false = Rows.logKeepsRow.goesBy Tryz.pinned.checked.prog := by kernel_rfl
theorem proved : Rows.LogKeepsCardSaid :=
  Claim7.holds_tied_plain_at .later [] [.data, .data, .data, .data, .handle, .sentinel, .sentinel, .listed, .data, .pinned] true Rows.logKeepsCard.stood.harness true over (fun _ h => by cases h) fr.hw (fun _ h => by cases h) logKeeps_row_tie rfl ⟨rfl, rfl⟩ fr.hm rfl
    (fun f fn hf hfn => by
      obtain rfl : f = 3 := Option.some.inj (fr.fn.symm.trans hf) |>.symm
      obtain rfl : fn = Tryz.f3 := (Option.some.inj (Tryz.func3.symm.trans hfn)).symm
      exact ⟨fr.lk, fun j t ht => by
        rw [Tryz.params3] at ht
        have hm : t ∈ [22, 23, 24, 24, 24] := by simpa using Array.mem_of_getElem? ht
        exact (show Tryz.prog.wantsStandIn t = false by simpa using List.all_eq_true.1 fr.ws t hm)⟩)
    fr.go
#print axioms proved

end Go.Proofs.YtfelefkmbbfdjaaGreatDoor.logKeeps
