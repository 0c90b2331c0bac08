/- TupleTellsCardSaid: what is wrong with any pattern and any tuple, the pattern as text, whether one fits, and any text as a tuple (the second form: what is read is of bulk at most 1048576). -/
import Derived.Test.YtamndgeeibfmhaaGreatDoorTupleTellsW
import Derived.Test.YtamndgeeibfmhaaGreatDoorDoor
import Derived.Test.YtamndgeeibfmhaaGreatDoorTie
import Derived.Test.YtamndgeeibfmhaaGreatDoorCards
import Derived.WalkKit
import Derived.ProofKit
import Derived.Deep.DeepHandedRow
import Derived.Lib.LaidTab
import Derived.OpenShut
import Derived.ShutString
import Derived.ChangeOld
import Derived.WalkLawsBesides
import Derived.WalkSpells
import Derived.RegionTactic
import Derived.ChangeAlike
import Derived.SevenTiedAt
import Derived.Deep.DeepCutAuto
import Derived.Outline
namespace Go.Proofs.YtamndgeeibfmhaaGreatDoor.tupleTells
open Go.ChangeShapes Go.WideShapes Go.ChangeAt Go.RowKit
set_option linter.unusedVariables false

/-! ### the card's frame (the second form: bounded) -/
section
variable {H : Type} {P : Program} {enc : TypeId × Value → H} {w : World} {base : Nat} {spare : Nat → Bool} {held : Bool}
theorem slice_bulk {t e : TypeId} {A : Option Addr} {n c : Nat} {d : DataW H} {p : List MemPlace} (ht : P.underlying t = some (.slice e)) (hd : DataW.Trod enc P w base spare held t (.slice A n c) d p) : n ≤ Rows.uptoBulk d := by
  obtain ⟨fuel, hf⟩ := hd
  rcases Go.Deep.open_slice ht hf with ⟨h3, _⟩ | ⟨a, len, cap, m, q, D, Pl, hcs, _, _, _, _, hx, _⟩
  · simp [Value.cells] at h3; rw [h3.2.1]; exact Nat.zero_le _
  · simp [Value.cells] at hcs
    have hx1 : d = .slice ((List.range len).map D) ((List.range (m - len)).map fun j => D (len + j)) := congrArg Prod.fst hx
    have hl : ∀ l : List (DataW H), l.length ≤ Rows.uptoBulkAll l := fun l => by
      induction l with
      | nil => exact Nat.zero_le _
      | cons x l ih =>
        have : 0 < Rows.uptoBulk x := by
          cases x <;> first | (simp [Rows.uptoBulk]; done) | (rename_i y; cases y <;> simp [Rows.uptoBulk])
        simp only [List.length_cons, Rows.uptoBulkAll]; omega
    have h1 := hl ((List.range len).map D)
    rw [hx1, hcs.2.1]; simp only [Rows.uptoBulk]
    simp only [List.length_map, List.length_range] at h1
    omega
theorem string_bulk {t : TypeId} {x : ByteArray} {d : DataW H} {p : List MemPlace} (ht : P.underlying t = some .string) (hd : DataW.Trod enc P w base spare held t (.string x) d p) : x.size ≤ Rows.uptoBulk d := by
  obtain ⟨fuel, hf⟩ := hd
  obtain ⟨s, hc, hz, _⟩ := DataW.trod_string ht hf
  simp [Value.cells] at hc
  have hz1 : d = .lit (.string s.data.toList) := congrArg Prod.fst hz
  rw [hz1, hc]; simp only [Rows.uptoBulk]
  show s.data.size ≤ s.data.toList.length + 1
  rw [Array.length_toList]; exact Nat.le_succ _
end
set_option maxRecDepth 100000 in
theorem contract (H : Type) (enc : TypeId × Value → H) (W : World) (base : Nat) (args : Array Value) (ds gs : List (DataW H)) (before : List MemPlace)
    (hval0 : ∀ (j : Nat) t v, Tryz.f3.params[j]? = some t → args[j]? = some v → Value.okWide Tryz.prog W .any base t v)
    (hW : DataW.Whole enc Tryz.prog Tryz.f3.params.toList Rows.tupleTellsSpec.vars false W args.toList ds gs before) (hk : Rows.uptoSmall H (ds ++ gs) = true) (hL : laidMetH Tryz.prog laidPH W) :
    Calls Tryz.prog 3 args W fun e W' => ∃ v, e = .returned v ∧ Rows.tupleTellsSpec.post enc Tryz.prog Tryz.f3 false true false false W args v W' := by
  have hg := tph_of_laid hL
  have hval : ∀ (j : Nat) t v, Tryz.f3.params[j]? = some t → args[j]? = some v → Value.okWide Tryz.prog W .any base t v := hval0
  have hW' := hW
  obtain ⟨p, q, hT0, hV, rfl, hfz, hnd⟩ := hW
  have hA : DataW.TrodAll enc Tryz.prog W 0 (fun _ => true) true Tryz.f3.params.toList args.toList ds p := hT0
  rw [Tryz.params3] at hA hval
  obtain ⟨v0, vs0, d0, ds0, p0, q0, hargs, rfl, rfl, h0, r0⟩ := trodAll_cons hA
  obtain ⟨v1, vs1, d1, ds1, p1, q1, rfl, rfl, rfl, h1, r1⟩ := trodAll_cons r0
  obtain ⟨v2, vs2, d2, ds2, p2, q2, rfl, rfl, rfl, h2, r2⟩ := trodAll_cons r1
  obtain ⟨rfl, rfl, rfl⟩ := trodAll_nil r2
  obtain rfl : args = #[v0, v1, v2] := by cases args; simp_all
  obtain ⟨rfl, rfl⟩ := trodVars_none hV
  have k0 := h0
  have lt0 : ∀ x ∈ p0, x.block < W.heap.size := by obtain ⟨m, hm⟩ := k0; exact DataW.trod_lt m _ _ _ hm
  obtain ⟨A0, c0, x0, rfl, hc0, hm0, hA0, w0⟩ := arg_Vals Tryz.underlying22 Tryz.underlying41 (by kernel_rfl) (by kernel_rfl) Tryz.underlying3 Tryz.underlying3 Tryz.underlying9 (hval 0 22 v0 rfl rfl) h0
  have k1 := h1
  have lt1 : ∀ x ∈ p1, x.block < W.heap.size := by obtain ⟨m, hm⟩ := k1; exact DataW.trod_lt m _ _ _ hm
  obtain ⟨A1, c1, x1, rfl, hc1, hm1, hA1, w1⟩ := arg_Vals Tryz.underlying22 Tryz.underlying41 (by kernel_rfl) (by kernel_rfl) Tryz.underlying3 Tryz.underlying3 Tryz.underlying9 (hval 1 22 v1 rfl rfl) h1
  have k2 := h2
  have lt2 : ∀ x ∈ p2, x.block < W.heap.size := by obtain ⟨m, hm⟩ := k2; exact DataW.trod_lt m _ _ _ hm
  obtain ⟨x2, rfl, w2⟩ := arg_string Tryz.underlying9 (hval 2 9 v2 rfl rfl) h2
  have hb0 := of_decide_eq_true hk
  simp only [List.append_nil, Rows.uptoBulkAll] at hb0
  have b2 : x2.size ≤ 1048576 := by
    have hh := string_bulk Tryz.underlying9 k2
    omega
  clear hT0 hval0
  refine (walk W hg A0 c0 x0 hc0 hm0 hA0 w0 A1 c1 x1 hc1 hm1 hA1 w1 x2 w2 b2).mono fun e W' ⟨he, bel⟩ => ?_
  subst he
  exact ⟨_, rfl, _, _, _, [], _, [], hW', trodAll_mk1 (shut_bool Tryz.underlying4 _), (trodAll_cons_mk (Below.trod door.laidOut (by kernel_rfl) (of_decide_eq_true (by kernel_rfl)) k0 bel lt0) (trodAll_cons_mk (Below.trod door.laidOut (by kernel_rfl) (of_decide_eq_true (by kernel_rfl)) k1 bel lt1) (trodAll_cons_mk (Below.trod door.laidOut (by kernel_rfl) (of_decide_eq_true (by kernel_rfl)) k2 bel lt2) trodAll_mk0))), rfl, bel.frame _, fun h => by cases h⟩

theorem reads (os : Os) {H : Type} (enc : TypeId × Value → H) : ∃ places, DataW.whole enc Tryz.prog ((laidWorldPH os).forCall (fun _ _ => 0) ⟨#[], #[.slice none 0 0, .slice none 0 0, .string ByteArray.empty], []⟩).memory Tryz.f3.params.toList Rows.tupleTellsSpec.vars false (#[.slice none 0 0, .slice none 0 0, .string ByteArray.empty] : Array Value).toList 8 = some ([.nil, .nil, .lit (.string [])], [], places) :=
  ⟨[], by kernel_rfl⟩
set_option maxRecDepth 100000 in
theorem lifted (os : Os) (started : os.Started) (H : Type) (enc : TypeId × Value → H) (F : Stop.Interp) :
    ReturnsInHanded {} Tryz.checked os 3 .any ((Rows.OpenSpec.upto Rows.tupleTellsSpec).preRow enc Tryz.prog Tryz.f3 Rows.tupleTellsUptoRow.domain false Rows.tupleTellsUptoRow.laid) (((Rows.OpenSpec.upto Rows.tupleTellsSpec).at F).post enc Tryz.prog Tryz.f3 false true false false) := by
  obtain ⟨places, hx⟩ := reads os enc
  refine returnsInHanded_of_row (C := Tryz.checked) (s := Rows.OpenSpec.upto Rows.tupleTellsSpec) door.own started (by kernel_rfl) Tryz.func3
    (witness_row_at (enc := enc) (C := Tryz.checked) false (laidWorldPH os) #[.slice none 0 0, .slice none 0 0, .string ByteArray.empty] rfl (by kernel_rfl) (by kernel_rfl) (by kernel_rfl)
      (OpenSpec.preRow_of_cond 8 hx (by kernel_rfl) (fun k hk => by cases hk; kernel_rfl) (by kernel_rfl) (laidWorldPH_met os _))) ?_
  intro W base args ds gs before hval hW _ hcond _ hL _ _
  exact contract H enc W base args ds gs before hval hW (hcond _ rfl) hL

theorem fr.fn : Tryz.prog.funcNamed Rows.tupleTellsUptoRow.func = some 3 := by kernel_rfl
theorem fr.cl : joinedFacts Tryz.prog 3 Tryz.f3 (Rows.OpenSpec.upto Rows.tupleTellsSpec).bare Rows.tupleTellsUptoRow = true := by kernel_rfl
theorem fr.is : Tryz.f3.isInstance Tryz.prog Rows.tupleTellsUptoRow.origin Rows.tupleTellsUptoRow.targs := of_decide_eq_true (by kernel_rfl)
theorem fr.wr : Tryz.f3.isWrapper Tryz.prog Rows.tupleTellsUptoRow.wrapper Rows.tupleTellsUptoRow.mainSum := by
  unfold Func.isWrapper; first | (rw [if_pos (by decide +kernel)]; kernel_rfl) | (rw [if_neg (by decide +kernel)]; exact ⟨rfl, rfl⟩)
set_option maxRecDepth 100000 in
theorem over : Rows.TupleTellsUptoSaid :=
  OpenClaim.holds_of_cond 3 Tryz.f3 rfl rfl rfl rfl rfl rfl rfl ⟨rfl, rfl, rfl, rfl, rfl⟩ rfl rfl rfl rfl rfl fr.fn Tryz.func3 fr.cl fr.is fr.wr
    (fun os started H enc _ F => by rw [OpenClaim.pre_eq_preRow]; exact lifted os started H enc F)

theorem fr.hw : Rows.tupleTellsUptoRow.wfByText (Rows.OpenSpec.upto Rows.tupleTellsSpec) = true := by kernel_rfl
theorem fr.hm : Tryz.pinned.checked.prog.mainIs = some (Rows.tupleTellsUptoCard.stood.harness.1, Rows.tupleTellsUptoCard.stood.harness.2.toList) := by kernel_rfl
theorem fr.lk : true = Tryz.prog.looks [] := by kernel_rfl
theorem fr.ws : ([22, 22, 9].all fun u => !Tryz.prog.wantsStandIn u) = true := by kernel_rfl
theorem fr.go : false = Rows.tupleTellsUptoRow.goesBy Tryz.pinned.checked.prog := by kernel_rfl
theorem proved : Rows.TupleTellsUptoCardSaid :=
  Claim7.holds_tied_plain_at .later [] [.data, .data, .data, .data, .handle, .sentinel, .sentinel, .pinned] true Rows.tupleTellsUptoCard.stood.harness true over (fun _ h => by cases h) fr.hw (fun _ h => by cases h) tupleTellsUpto_row_tie rfl ⟨rfl, rfl⟩ fr.hm rfl
    (fun f fn hf hfn => by
      obtain rfl : f = 3 := Option.some.inj (fr.fn.symm.trans hf) |>.symm
      obtain rfl : fn = Tryz.f3 := (Option.some.inj (Tryz.func3.symm.trans hfn)).symm
      exact ⟨fr.lk, fun j t ht => by
        rw [Tryz.params3] at ht
        have hm : t ∈ [22, 22, 9] := by simpa using Array.mem_of_getElem? ht
        exact (show Tryz.prog.wantsStandIn t = false by simpa using List.all_eq_true.1 fr.ws t hm)⟩)
    fr.go
#print axioms proved

end Go.Proofs.YtamndgeeibfmhaaGreatDoor.tupleTells
