/- VaultPlaysCardSaid: anything that is put into a vault, and got of it: what is refused, and what is told. -/
import Derived.Test.YtamndgeeibfmhaaDoorVaultPlaysW
import Derived.Test.YtamndgeeibfmhaaDoorDoor
import Derived.Test.YtamndgeeibfmhaaDoorTie
import Derived.Test.YtamndgeeibfmhaaDoorCards
import Derived.WalkKit
import Derived.ProofKit
import Derived.OpenShut
import Derived.ShutString
import Derived.ChangeOld
import Derived.WalkLawsBesides
import Derived.WalkSpells
import Derived.RegionTactic
import Derived.ChangeAlike
import Derived.SevenTiedAt
import Derived.Deep.DeepCutAuto
import Derived.Outline
namespace Go.Proofs.YtamndgeeibfmhaaDoor.vaultPlays
open Go.ChangeShapes Go.WideShapes Go.ChangeAt Go.RowKit
set_option linter.unusedVariables false

/-! ### the card's frame -/
set_option maxRecDepth 100000 in
theorem lifted (os : Os) (started : os.Started) (H : Type) (enc : TypeId × Value → H) :
    ReturnsInHanded {} Tryd.checked os 6 .any (fun w args => (Rows.vaultPlaysSpec.pre enc Tryd.prog Tryd.f6 [] false w args ∧ laidMetH Tryd.prog laidL w) ∧ sizedMet enc Tryd.prog Tryd.f6 (OpenSpec.ofChange Rows.vaultPlaysSpec) false w args) (Rows.vaultPlaysSpec.post enc Tryd.prog Tryd.f6 false true false false) := by
  refine returnsInHanded_of_change_and (C := Tryd.checked) (X := fun w _ => laidMetH Tryd.prog laidL w) (fun _ _ _ hh h => h.of_heap hh) door.own started (by kernel_rfl) Tryd.func6
    (ChangeSpec.witness_at (enc := enc) (C := Tryd.checked) (os := os) (X := fun w _ => laidMetH Tryd.prog laidL w) false (laidWorld os) #[.int .i64 0, .int .i64 0, .slice none 0 0, .slice none 0 0, .slice none 0 0, .slice none 0 0] 8 rfl (by kernel_rfl) (by kernel_rfl) (by kernel_rfl) (by kernel_rfl) (by kernel_rfl) (laidWorld_met os _)) ?_
  intro W base args ds gs before hval0 hW _ hsz hL _
  have hg := handle_of_laid hL
  have hval : ∀ (j : Nat) t v, Tryd.f6.params[j]? = some t → args[j]? = some v → Value.okWide Tryd.prog W .any base t v := hval0
  have hW' := hW
  obtain ⟨p, q, hT0, hV, rfl, hfz, hnd⟩ := hW
  have hA : DataW.TrodAll enc Tryd.prog W 0 (fun _ => true) true Tryd.f6.params.toList args.toList ds p := hT0
  rw [Tryd.params6] at hA hval
  obtain ⟨v0, vs0, d0, ds0, p0, q0, hargs, rfl, rfl, h0, r0⟩ := trodAll_cons hA
  obtain ⟨v1, vs1, d1, ds1, p1, q1, rfl, rfl, rfl, h1, r1⟩ := trodAll_cons r0
  obtain ⟨v2, vs2, d2, ds2, p2, q2, rfl, rfl, rfl, h2, r2⟩ := trodAll_cons r1
  obtain ⟨v3, vs3, d3, ds3, p3, q3, rfl, rfl, rfl, h3, r3⟩ := trodAll_cons r2
  obtain ⟨v4, vs4, d4, ds4, p4, q4, rfl, rfl, rfl, h4, r4⟩ := trodAll_cons r3
  obtain ⟨v5, vs5, d5, ds5, p5, q5, rfl, rfl, rfl, h5, r5⟩ := trodAll_cons r4
  obtain ⟨rfl, rfl, rfl⟩ := trodAll_nil r5
  obtain rfl : args = #[v0, v1, v2, v3, v4, v5] := by cases args; simp_all
  obtain ⟨rfl, rfl⟩ := trodVars_none hV
  have k0 := h0
  have lt0 : ∀ x ∈ p0, x.block < W.heap.size := by obtain ⟨m, hm⟩ := k0; exact DataW.trod_lt m _ _ _ hm
  obtain ⟨x0, rfl, w0⟩ := arg_int Tryd.underlying3 (hval 0 3 v0 rfl rfl) h0
  have k1 := h1
  have lt1 : ∀ x ∈ p1, x.block < W.heap.size := by obtain ⟨m, hm⟩ := k1; exact DataW.trod_lt m _ _ _ hm
  obtain ⟨x1, rfl, w1⟩ := arg_int Tryd.underlying3 (hval 1 3 v1 rfl rfl) h1
  have k2 := h2
  have lt2 : ∀ x ∈ p2, x.block < W.heap.size := by obtain ⟨m, hm⟩ := k2; exact DataW.trod_lt m _ _ _ hm
  obtain ⟨A2, c2, x2, rfl, hc2, hm2, hA2, w2⟩ := arg_Strs Tryd.underlying50 Tryd.underlying9 (by kernel_rfl) (hval 2 50 v2 rfl rfl) h2
  have k3 := h3
  have lt3 : ∀ x ∈ p3, x.block < W.heap.size := by obtain ⟨m, hm⟩ := k3; exact DataW.trod_lt m _ _ _ hm
  obtain ⟨A3, c3, x3, rfl, hc3, hm3, hA3, w3⟩ := arg_Ints Tryd.underlying51 Tryd.underlying3 (by kernel_rfl) (hval 3 51 v3 rfl rfl) h3
  have k4 := h4
  have lt4 : ∀ x ∈ p4, x.block < W.heap.size := by obtain ⟨m, hm⟩ := k4; exact DataW.trod_lt m _ _ _ hm
  obtain ⟨A4, c4, x4, rfl, hc4, hm4, hA4, w4⟩ := arg_Many (Q := Ints) (R := fun l => ∀ i, i < l.length → I64 (gi l i)) Tryd.underlying52 (by kernel_rfl) (fun _ _ _ h => open_Ints Tryd.underlying51 Tryd.underlying3 (by kernel_rfl) h) (hval 4 52 v4 rfl rfl) h4
  have k5 := h5
  have lt5 : ∀ x ∈ p5, x.block < W.heap.size := by obtain ⟨m, hm⟩ := k5; exact DataW.trod_lt m _ _ _ hm
  obtain ⟨A5, c5, x5, rfl, hc5, hm5, hA5, w5⟩ := arg_Many (Q := Shares) (R := fun l => ∀ i, i < l.length → I64 (ga l i) ∧ I64 (gb l i)) Tryd.underlying53 (by kernel_rfl) (fun _ _ _ h => open_Shares Tryd.underlying58 Tryd.underlying64 (by kernel_rfl) (by kernel_rfl) Tryd.underlying3 Tryd.underlying3 h) (hval 5 53 v5 rfl rfl) h5
  clear hT0 hval0
  refine (walk W hg x0 w0 x1 w1 A2 c2 x2 hc2 hm2 hA2 w2 A3 c3 x3 hc3 hm3 hA3 w3 A4 c4 x4 hc4 hm4 hA4 w4 A5 c5 x5 hc5 hm5 hA5 w5).mono fun e W' ⟨he, bel⟩ => ?_
  subst he
  exact ⟨_, rfl, _, _, _, [], _, [], hW', trodAll_mk1 (shut_bool Tryd.underlying4 _), (trodAll_cons_mk (Below.trod door.laidOut (by kernel_rfl) (of_decide_eq_true (by kernel_rfl)) k0 bel lt0) (trodAll_cons_mk (Below.trod door.laidOut (by kernel_rfl) (of_decide_eq_true (by kernel_rfl)) k1 bel lt1) (trodAll_cons_mk (Below.trod door.laidOut (by kernel_rfl) (of_decide_eq_true (by kernel_rfl)) k2 bel lt2) (trodAll_cons_mk (Below.trod door.laidOut (by kernel_rfl) (of_decide_eq_true (by kernel_rfl)) k3 bel lt3) (trodAll_cons_mk (Below.trod door.laidOut (by kernel_rfl) (of_decide_eq_true (by kernel_rfl)) k4 bel lt4) (trodAll_cons_mk (Below.trod door.laidOut (by kernel_rfl) (of_decide_eq_true (by kernel_rfl)) k5 bel lt5) trodAll_mk0)))))), rfl, bel.frame _, fun h => by cases h⟩

theorem fr.fn : Tryd.prog.funcNamed Rows.vaultPlaysRow.func = some 6 := by kernel_rfl
theorem fr.cl : joinedFacts Tryd.prog 6 Tryd.f6 Rows.vaultPlaysSpec Rows.vaultPlaysRow = true := by kernel_rfl
theorem fr.is : Tryd.f6.isInstance Tryd.prog Rows.vaultPlaysRow.origin Rows.vaultPlaysRow.targs := of_decide_eq_true (by kernel_rfl)
theorem fr.wr : Tryd.f6.isWrapper Tryd.prog Rows.vaultPlaysRow.wrapper Rows.vaultPlaysRow.mainSum := by
  unfold Func.isWrapper; first | (rw [if_pos (by decide +kernel)]; kernel_rfl) | (rw [if_neg (by decide +kernel)]; exact ⟨rfl, rfl⟩)
theorem over : Rows.VaultPlaysSaid :=
  OpenClaim.holds_of_wide 6 Tryd.f6 rfl rfl rfl rfl rfl rfl rfl ⟨rfl, rfl, rfl, rfl, rfl⟩ rfl rfl rfl rfl rfl fr.fn Tryd.func6 fr.cl fr.is fr.wr
    (fun os started H enc _ => lifted os started H enc)

theorem fr.hw : Rows.vaultPlaysRow.wfByText (OpenSpec.ofChange Rows.vaultPlaysSpec) = true := by kernel_rfl
theorem fr.hm : Tryd.pinned.checked.prog.mainIs = some (Rows.vaultPlaysCard.stood.harness.1, Rows.vaultPlaysCard.stood.harness.2.toList) := by kernel_rfl
theorem fr.lk : true = Tryd.prog.looks [] := by kernel_rfl
theorem fr.ws : ([3, 3, 50, 51, 52, 53].all fun u => !Tryd.prog.wantsStandIn u) = true := by kernel_rfl
theorem fr.go : false = Rows.vaultPlaysRow.goesBy Tryd.pinned.checked.prog := by kernel_rfl
theorem proved : Rows.VaultPlaysCardSaid :=
  Claim7.holds_tied_plain_at .later [] [.handle] true Rows.vaultPlaysCard.stood.harness true over (fun _ h => by cases h) fr.hw (fun _ h => by cases h) vaultPlays_row_tie rfl ⟨rfl, rfl⟩ fr.hm rfl
    (fun f fn hf hfn => by
      obtain rfl : f = 6 := Option.some.inj (fr.fn.symm.trans hf) |>.symm
      obtain rfl : fn = Tryd.f6 := (Option.some.inj (Tryd.func6.symm.trans hfn)).symm
      exact ⟨fr.lk, fun j t ht => by
        rw [Tryd.params6] at ht
        have hm : t ∈ [3, 3, 50, 51, 52, 53] := by simpa using Array.mem_of_getElem? ht
        exact (show Tryd.prog.wantsStandIn t = false by simpa using List.all_eq_true.1 fr.ws t hm)⟩)
    fr.go
#print axioms proved

end Go.Proofs.YtamndgeeibfmhaaDoor.vaultPlays
