/- TopHiddenUptoCardSaid: OF ONE WORD OF A SEAL NOTHING MAY BE READ (the second form: what is read is of bulk at most 1048576). -/
import Derived.Test.YthkaaheeblehhaaDoorTopHiddenW
import Derived.Test.YthkaaheeblehhaaDoorDoorT
import Derived.Test.YthkaaheeblehhaaDoorDoor
import Derived.Test.YthkaaheeblehhaaDoorTie
import Derived.Test.YthkaaheeblehhaaDoorCards
import Derived.WalkKit
import Derived.ProofKit
import Derived.Deep.DeepHandedRow
import Derived.Lib.LaidTab
import Derived.OpenShut
import Derived.ShutString
import Derived.ChangeOld
import Derived.WalkLawsBesides
import Derived.WalkSpells
import Derived.RegionTactic
import Derived.ChangeAlike
import Derived.SevenTiedAt
import Derived.Deep.DeepCutAuto
import Derived.Outline
namespace Go.Proofs.YthkaaheeblehhaaDoor.topHidden
open Go.ChangeShapes Go.WideShapes Go.ChangeAt Go.RowKit

/-! ### the card's frame (the second form: bounded) -/
section
variable {H : Type} {P : Program} {enc : TypeId × Value → H} {w : World} {base : Nat} {spare : Nat → Bool} {held : Bool}
theorem slice_bulk {t e : TypeId} {A : Option Addr} {n c : Nat} {d : DataW H} {p : List MemPlace} (ht : P.underlying t = some (.slice e)) (hd : DataW.Trod enc P w base spare held t (.slice A n c) d p) : n ≤ Rows.uptoBulk d := by
  obtain ⟨fuel, hf⟩ := hd
  rcases Go.Deep.open_slice ht hf with ⟨h3, _⟩ | ⟨a, len, cap, m, q, D, Pl, hcs, _, _, _, _, hx, _⟩
  · simp [Value.cells] at h3; rw [h3.2.1]; exact Nat.zero_le _
  · simp [Value.cells] at hcs
    have hx1 : d = .slice ((List.range len).map D) ((List.range (m - len)).map fun j => D (len + j)) := congrArg Prod.fst hx
    have hl : ∀ l : List (DataW H), l.length ≤ Rows.uptoBulkAll l := fun l => by
      induction l with
      | nil => exact Nat.zero_le _
      | cons x l ih =>
        have : 0 < Rows.uptoBulk x := by
          cases x <;> first | (simp [Rows.uptoBulk]; done) | (rename_i y; cases y <;> simp [Rows.uptoBulk])
        simp only [List.length_cons, Rows.uptoBulkAll]; omega
    have h1 := hl ((List.range len).map D)
    rw [hx1, hcs.2.1]; simp only [Rows.uptoBulk]
    simp only [List.length_map, List.length_range] at h1
    omega
theorem string_bulk {t : TypeId} {x : ByteArray} {d : DataW H} {p : List MemPlace} (ht : P.underlying t = some .string) (hd : DataW.Trod enc P w base spare held t (.string x) d p) : x.size ≤ Rows.uptoBulk d := by
  obtain ⟨fuel, hf⟩ := hd
  obtain ⟨s, hc, hz, _⟩ := DataW.trod_string ht hf
  simp [Value.cells] at hc
  have hz1 : d = .lit (.string s.data.toList) := congrArg Prod.fst hz
  rw [hz1, hc]; simp only [Rows.uptoBulk]
  show s.data.size ≤ s.data.toList.length + 1
  rw [Array.length_toList]; exact Nat.le_succ _
end
set_option maxRecDepth 100000 in
theorem contract (H : Type) (enc : TypeId × Value → H) (W : World) (base : Nat) (args : Array Value) (ds gs : List (DataW H)) (before : List MemPlace)
    (hval0 : ∀ (j : Nat) t v, Tryd.f7.params[j]? = some t → args[j]? = some v → Value.okWide Tryd.prog W .any base t v)
    (hW : DataW.Whole enc Tryd.prog Tryd.f7.params.toList Rows.topHiddenSpec.vars false W args.toList ds gs before) (hk : Rows.uptoSmall H (ds ++ gs) = true) (hL : laidMetH Tryd.prog laidT W) :
    Calls Tryd.prog 7 args W fun e W' => ∃ v, e = .returned v ∧ Rows.topHiddenSpec.post enc Tryd.prog Tryd.f7 false true false false W args v W' := by
  have hg := tt_of_laid hL
  have hval : ∀ (j : Nat) t v, Tryd.f7.params[j]? = some t → args[j]? = some v → Value.okWide Tryd.prog W .any base t v := hval0
  have hW' := hW
  obtain ⟨p, q, hT0, hV, rfl, hfz, hnd⟩ := hW
  have hA : DataW.TrodAll enc Tryd.prog W 0 (fun _ => true) true Tryd.f7.params.toList args.toList ds p := hT0
  rw [Tryd.params7] at hA hval
  obtain ⟨v0, vs0, d0, ds0, p0, q0, hargs, rfl, rfl, h0, r0⟩ := trodAll_cons hA
  obtain ⟨v1, vs1, d1, ds1, p1, q1, rfl, rfl, rfl, h1, r1⟩ := trodAll_cons r0
  obtain ⟨v2, vs2, d2, ds2, p2, q2, rfl, rfl, rfl, h2, r2⟩ := trodAll_cons r1
  obtain ⟨v3, vs3, d3, ds3, p3, q3, rfl, rfl, rfl, h3, r3⟩ := trodAll_cons r2
  obtain ⟨v4, vs4, d4, ds4, p4, q4, rfl, rfl, rfl, h4, r4⟩ := trodAll_cons r3
  obtain ⟨rfl, rfl, rfl⟩ := trodAll_nil r4
  obtain rfl : args = #[v0, v1, v2, v3, v4] := by cases args; simp_all
  obtain ⟨rfl, rfl⟩ := trodVars_none hV
  have k0 := h0
  have lt0 : ∀ x ∈ p0, x.block < W.heap.size := by obtain ⟨m, hm⟩ := k0; exact DataW.trod_lt m _ _ _ hm
  obtain ⟨A0, c0, x0, rfl, hc0, hm0, hA0, w0⟩ := arg_Vals Tryd.underlying22 Tryd.underlying40 (by kernel_rfl) (by kernel_rfl) Tryd.underlying3 Tryd.underlying3 Tryd.underlying9 (hval 0 22 v0 rfl rfl) h0
  have k1 := h1
  have lt1 : ∀ x ∈ p1, x.block < W.heap.size := by obtain ⟨m, hm⟩ := k1; exact DataW.trod_lt m _ _ _ hm
  obtain ⟨A1, c1, x1, rfl, hc1, hm1, hA1, w1⟩ := arg_Vals Tryd.underlying22 Tryd.underlying40 (by kernel_rfl) (by kernel_rfl) Tryd.underlying3 Tryd.underlying3 Tryd.underlying9 (hval 1 22 v1 rfl rfl) h1
  have k2 := h2
  have lt2 : ∀ x ∈ p2, x.block < W.heap.size := by obtain ⟨m, hm⟩ := k2; exact DataW.trod_lt m _ _ _ hm
  obtain ⟨A2, c2, x2, rfl, hc2, hm2, hA2, w2⟩ := arg_Ints Tryd.underlying53 Tryd.underlying3 (by kernel_rfl) (hval 2 53 v2 rfl rfl) h2
  have k3 := h3
  have lt3 : ∀ x ∈ p3, x.block < W.heap.size := by obtain ⟨m, hm⟩ := k3; exact DataW.trod_lt m _ _ _ hm
  obtain ⟨x3, rfl, w3⟩ := arg_string Tryd.underlying9 (hval 3 9 v3 rfl rfl) h3
  have k4 := h4
  have lt4 : ∀ x ∈ p4, x.block < W.heap.size := by obtain ⟨m, hm⟩ := k4; exact DataW.trod_lt m _ _ _ hm
  obtain ⟨A4, c4, x4, rfl, hc4, hm4, hA4, w4⟩ := arg_Ints Tryd.underlying53 Tryd.underlying3 (by kernel_rfl) (hval 4 53 v4 rfl rfl) h4
  have hb0 := of_decide_eq_true hk
  simp only [List.append_nil, Rows.uptoBulkAll] at hb0
  have b3 : x3.size ≤ 1048576 := by
    have hh := string_bulk Tryd.underlying9 k3
    omega
  have b4 : x4.length ≤ 1048576 := by
    have hh := slice_bulk Tryd.underlying53 k4
    omega
  clear hT0 hval0
  refine (walk W hg A0 c0 x0 hc0 hm0 hA0 w0 A1 c1 x1 hc1 hm1 hA1 w1 A2 c2 x2 hc2 hm2 hA2 w2 x3 w3 b3 A4 c4 x4 hc4 hm4 hA4 w4 b4).mono fun e W' ⟨he, bel⟩ => ?_
  subst he
  exact ⟨_, rfl, _, _, _, [], _, [], hW', trodAll_mk1 (shut_bool Tryd.underlying4 _), (trodAll_cons_mk (Below.trod door.laidOut (by kernel_rfl) (of_decide_eq_true (by kernel_rfl)) k0 bel lt0) (trodAll_cons_mk (Below.trod door.laidOut (by kernel_rfl) (of_decide_eq_true (by kernel_rfl)) k1 bel lt1) (trodAll_cons_mk (Below.trod door.laidOut (by kernel_rfl) (of_decide_eq_true (by kernel_rfl)) k2 bel lt2) (trodAll_cons_mk (Below.trod door.laidOut (by kernel_rfl) (of_decide_eq_true (by kernel_rfl)) k3 bel lt3) (trodAll_cons_mk (Below.trod door.laidOut (by kernel_rfl) (of_decide_eq_true (by kernel_rfl)) k4 bel lt4) trodAll_mk0))))), rfl, bel.frame _, fun h => by cases h⟩

theorem reads (os : Os) {H : Type} (enc : TypeId × Value → H) : ∃ places, DataW.whole enc Tryd.prog ((laidWorldT os).forCall (fun _ _ => 0) ⟨#[], #[.slice none 0 0, .slice none 0 0, .slice none 0 0, .string ByteArray.empty, .slice none 0 0], []⟩).memory Tryd.f7.params.toList Rows.topHiddenSpec.vars false (#[.slice none 0 0, .slice none 0 0, .slice none 0 0, .string ByteArray.empty, .slice none 0 0] : Array Value).toList 8 = some ([.nil, .nil, .nil, .lit (.string []), .nil], [], places) :=
  ⟨[], by kernel_rfl⟩
set_option maxRecDepth 100000 in
theorem lifted (os : Os) (started : os.Started) (H : Type) (enc : TypeId × Value → H) (F : Stop.Interp) :
    ReturnsInHanded {} Tryd.checked os 7 .any ((Rows.OpenSpec.upto Rows.topHiddenSpec).preRow enc Tryd.prog Tryd.f7 Rows.topHiddenUptoRow.domain false Rows.topHiddenUptoRow.laid) (((Rows.OpenSpec.upto Rows.topHiddenSpec).at F).post enc Tryd.prog Tryd.f7 false true false false) := by
  obtain ⟨places, hx⟩ := reads os enc
  refine returnsInHanded_of_row (C := Tryd.checked) (s := Rows.OpenSpec.upto Rows.topHiddenSpec) door.own started (by kernel_rfl) Tryd.func7
    (witness_row_at (enc := enc) (C := Tryd.checked) false (laidWorldT os) #[.slice none 0 0, .slice none 0 0, .slice none 0 0, .string ByteArray.empty, .slice none 0 0] rfl (by kernel_rfl) (by kernel_rfl) (by kernel_rfl)
      (OpenSpec.preRow_of_cond 8 hx (by kernel_rfl) (fun k hk => by cases hk; kernel_rfl) (by kernel_rfl) (laidWorldT_met os _))) ?_
  intro W base args ds gs before hval hW _ hcond _ hL _ _
  exact contract H enc W base args ds gs before hval hW (hcond _ rfl) hL

theorem fr.fn : Tryd.prog.funcNamed Rows.topHiddenUptoRow.func = some 7 := by kernel_rfl
theorem fr.cl : joinedFacts Tryd.prog 7 Tryd.f7 (Rows.OpenSpec.upto Rows.topHiddenSpec).bare Rows.topHiddenUptoRow = true := by kernel_rfl
theorem fr.is : Tryd.f7.isInstance Tryd.prog Rows.topHiddenUptoRow.origin Rows.topHiddenUptoRow.targs := of_decide_eq_true (by kernel_rfl)
theorem fr.wr : Tryd.f7.isWrapper Tryd.prog Rows.topHiddenUptoRow.wrapper Rows.topHiddenUptoRow.mainSum := by
  unfold Func.isWrapper; first | (rw [if_pos (by decide +kernel)]; kernel_rfl) | (rw [if_neg (by decide +kernel)]; exact ⟨rfl, rfl⟩)
set_option maxRecDepth 100000 in
theorem over : Rows.TopHiddenUptoSaid :=
  OpenClaim.holds_of_cond 7 Tryd.f7 rfl rfl rfl rfl rfl rfl rfl ⟨rfl, rfl, rfl, rfl, rfl⟩ rfl rfl rfl rfl rfl fr.fn Tryd.func7 fr.cl fr.is fr.wr
    (fun os started H enc _ F => by rw [OpenClaim.pre_eq_preRow]; exact lifted os started H enc F)

theorem fr.hw : Rows.topHiddenUptoRow.wfByText (Rows.OpenSpec.upto Rows.topHiddenSpec) = true := by kernel_rfl
theorem fr.hm : Tryd.pinned.checked.prog.mainIs = some (Rows.topHiddenUptoCard.stood.harness.1, Rows.topHiddenUptoCard.stood.harness.2.toList) := by kernel_rfl
theorem fr.lk : true = Tryd.prog.looks [] := by kernel_rfl
theorem fr.ws : ([22, 22, 53, 9, 53].all fun u => !Tryd.prog.wantsStandIn u) = true := by kernel_rfl
theorem fr.go : false = Rows.topHiddenUptoRow.goesBy Tryd.pinned.checked.prog := by kernel_rfl
theorem proved : Rows.TopHiddenUptoCardSaid :=
  Claim7.holds_tied_plain_at .later [] [.data, .data, .data] true Rows.topHiddenUptoCard.stood.harness true over (fun _ h => by cases h) fr.hw (fun _ h => by cases h) topHiddenUpto_row_tie rfl ⟨rfl, rfl⟩ fr.hm rfl
    (fun f fn hf hfn => by
      obtain rfl : f = 7 := Option.some.inj (fr.fn.symm.trans hf) |>.symm
      obtain rfl : fn = Tryd.f7 := (Option.some.inj (Tryd.func7.symm.trans hfn)).symm
      exact ⟨fr.lk, fun j t ht => by
        rw [Tryd.params7] at ht
        have hm : t ∈ [22, 22, 53, 9, 53] := by simpa using Array.mem_of_getElem? ht
        exact (show Tryd.prog.wantsStandIn t = false by simpa using List.all_eq_true.1 fr.ws t hm)⟩)
    fr.go
#print axioms proved

end Go.Proofs.YthkaaheeblehhaaDoor.topHidden
