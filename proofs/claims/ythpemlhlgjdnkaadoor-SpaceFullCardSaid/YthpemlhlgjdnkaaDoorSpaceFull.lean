/- SpaceFullCardSaid: TWENTY, AND NO MORE: for every int. -/
import Derived.Test.YthpemlhlgjdnkaaDoorOnce2
import Derived.Test.YthpemlhlgjdnkaaDoorVArg
import Derived.Test.YthpemlhlgjdnkaaDoorDoor
import Derived.Test.YthpemlhlgjdnkaaDoorTie
import Derived.Test.YthpemlhlgjdnkaaDoorCards
import Derived.WalkKit
import Derived.ProofKit
import Derived.OpenShut
import Derived.ShutString
import Derived.ChangeOld
import Derived.WalkLawsBesides
import Derived.WalkSpells
import Derived.RegionTactic
import Derived.ChangeAlike
import Derived.SevenTiedAt
import Derived.Outline
namespace Go.Proofs.YthpemlhlgjdnkaaDoor.spaceFull
open Go.ChangeShapes Go.WideShapes Go.ChangeAt Go.RowKit
set_option linter.unusedVariables false

def v7 : Va := ⟨0, 7, ⟨#[]⟩⟩
theorem ok1 {v : Va} (h : v.s.size ≤ maxLen) : okL [v] := fun i hi => by
  obtain rfl : i = 0 := by simpa using hi
  exact h
theorem lit1 (W : World) (v : Va) {g : Nat} (hg : g = W.heap.size) : Vals (W.alloc (.cells #[.int .i64 v.k, .int .i64 v.n, .string v.s] 28)) (some ⟨g, 0, none⟩) [v] := lit_vals W [v] 28 hg
theorem cnt_all (m : Nat) : ∀ k, k ≤ m → cnt [v7] (List.replicate m [v7]) k = k := by
  intro k hk
  induction k with
  | zero => rfl
  | succ k ih =>
    have hg : gg (List.replicate m [v7]) k = [v7] := by simp [gg, List.getD_eq_getElem?_getD, show k < m by omega]
    rw [cnt, hg, if_pos (by decide), ih (by omega)]
theorem put_more {m : Nat} (h : m < 20) : putE (List.replicate m [v7]) [v7] = 0 := by
  rw [putE, if_neg (by decide), if_neg (by simp; omega)]
theorem put_full : putE (List.replicate 20 [v7]) [v7] = 4 := by
  rw [putE, if_neg (by decide), if_pos (by simp)]
set_option maxHeartbeats 1600000 in
set_option maxRecDepth 100000 in
theorem walk (w : World) (hg : HG w) (n : Int) (_ : I64 n) :
    Calls Tryd.prog 6 #[.int .i64 n] w fun e w' => e = .returned (.bool true) ∧ Below w.heap.size w w' := by
  have hs0 : Spc (w.alloc (.cells #[.slice none 0 0] 106)) w.heap.size w.heap.size none [] := Spc.new w (Nat.le_refl _)
  have hb0 : Below w.heap.size w (w.alloc (.cells #[.slice none 0 0] 106)) := bal1 _ _
  have HG0 := Lib.hid hg
  clear hg
  by_cases hr : 0 ≤ n ∧ n ≤ 30
  · obtain ⟨N, rfl⟩ : ∃ N : Nat, n = (N : Int) := ⟨n.toNat, by omega⟩
    have hN : N ≤ 30 := by omega
    have hq1 : decide ((N : Int) < 0) = false := by simp
    have hq2 : decide ((30 : Int) < N) = false := by simp; omega
    clear hr
    go_enter Tryd.func6, Tryd.ntmps6
    go_wp2_with (first | (go_at_call 29; refine (spnew _).mono ?_; rintro e w' ⟨rfl, rfl⟩))
    generalize w.alloc (.cells #[.slice none 0 0] 106) = w1 at *
    have HS0 := Lib.hid hs0
    clear hs0 hq1 hq2
    go_loopw [4] (fun i wr => ∃ (k : Nat) (g : Option Nat), k ≤ N ∧ i = .int .i64 k ∧ Hid (Spc wr w.heap.size w.heap.size g (List.replicate (min k 20) [v7])) ∧ Below w.heap.size w wr) (fun i _ => N - (intOf i).toNat)
    case atStart => exact ⟨0, none, by omega, rfl, HS0.out, hb0⟩
    case round =>
      obtain ⟨k, g, hk, rfl, HS, hb⟩ := hrel
      obtain ⟨W2, hW2⟩ : ∃ W2, W2 = wr.alloc (.cells #[.int .i64 0, .int .i64 7, .string ⟨#[]⟩] 28) := ⟨_, rfl⟩
      have hb2 : Below wr.heap.size wr W2 := by rw [hW2]; exact bal1 _ _
      have v2 : Vals W2 (some ⟨wr.heap.size, 0, none⟩) [v7] := by rw [hW2]; exact lit1 wr v7 rfl
      have hs2 := HS.out.keep hb2
      have hbw2 := bcl hb hb2
      by_cases hlt : k < N
      · have cp := spput_any w.heap.size w.heap.size g _ _ 1 [v7] (by decide) (ok1 (by decide)) W2 hs2 v2
        by_cases h20 : k < 20
        · rw [putL, put_more (show min k 20 < 20 by omega), if_pos rfl, eV_zero] at cp
          have CP := Lib.hid cp; have HS2 := Lib.hid hs2
          have hq : decide ((k : Int) < 20) = true := by simp; omega
          have hrep : List.replicate (min k 20) [v7] ++ [[v7]] = List.replicate (min (k + 1) 20) [v7] := by
            rw [show min (k + 1) 20 = min k 20 + 1 by omega, List.replicate_succ']
          have HR := Lib.hid hrep
          clear cp hs2 hrep v2
          go_wp2_with fail
          rw [← hW2]
          clear hW2
          refine CP.out.mono ?_
          rintro e w3 ⟨rfl, g3, s3, x3, _⟩
          rw [HR.out] at s3
          have hbw3 := hbw2.trans (HS2.out.below x3)
          have HS3 := Lib.hid s3
          clear s3 x3
          go_wp2_with fail
          go_roundw
          case rel => exact ⟨k + 1, g3, by omega, by go_num, HS3, hbw3⟩
          case measure => simp [intOf]; omega
        · have e20 : min k 20 = 20 := by omega
          rw [e20, putL, put_full, if_neg (by decide), show eV 4 = errV 4 from rfl] at cp
          have CP := Lib.hid cp
          have hs2' := hs2
          rw [e20] at hs2'
          have HS2 := Lib.hid hs2'
          have hq : decide ((k : Int) < 20) = false := by simp; omega
          clear cp hs2 hs2' v2
          go_wp2_with fail
          rw [← hW2]
          clear hW2
          refine CP.out.mono ?_
          rintro e w3 ⟨rfl, g3, s3, x3, _⟩
          have hbw3 := hbw2.trans (HS2.out.below x3)
          have HS3 := Lib.hid s3
          have hd3 : DG w3 w3 := DG.refl (HG0.out.below hbw3)
          clear s3 x3
          go_wp2_with (go_at_call 24; refine (same_err _ w3 _ hd3).mono ?_; rintro e w4 ⟨rfl, hd4⟩)
          have HS4 := Lib.hid (HS3.out.keep hd4.b)
          have hbw4 := bcl hbw3 hd4.b
          have HE : Hid (min (k + 1) 20 = 20) := by show min (k + 1) 20 = 20; omega
          clear hd3 hd4
          go_roundw
          case rel => exact ⟨k + 1, g3, by omega, by go_num, by rw [HE.out]; exact HS4, hbw4⟩
          case measure => simp [intOf]; omega
      · obtain rfl : k = N := by omega
        have cc := count_spc w.heap.size w.heap.size g _ _ 1 [v7] (by decide) (ok1 (by decide)) (by decide) (min k 20) (by rw [List.length_replicate]; exact cnt_all _ _ (Nat.le_refl _)) W2 hs2 v2
        by_cases h20 : 20 < k
        · have hq : decide ((20 : Int) < k) = true := by simp; omega
          rw [show min k 20 = 20 by omega] at cc
          have CC := Lib.hid cc
          clear cc hs2 v2
          go_wp2_with fail
          rw [← hW2]
          clear hW2
          refine CC.out.mono ?_
          rintro e w3 ⟨rfl, hb3⟩
          go_wp2_with fail
          go_ret
          exact ⟨ret_true (by first | rfl | (simp; done) | (simp; omega)), bcl hbw2 hb3⟩
        · have hq : decide ((20 : Int) < k) = false := by simp; omega
          rw [show min k 20 = k by omega] at cc
          have CC := Lib.hid cc
          clear cc hs2 v2
          go_wp2_with fail
          rw [← hW2]
          clear hW2
          refine CC.out.mono ?_
          rintro e w3 ⟨rfl, hb3⟩
          go_wp2_with fail
          go_ret
          exact ⟨ret_true (by first | rfl | (simp; done) | (simp; omega)), bcl hbw2 hb3⟩
  · have hq : decide (n < 0) = true ∨ decide (n < 0) = false ∧ decide (30 < n) = true := by
      by_cases h : n < 0
      · exact .inl (decide_eq_true h)
      · exact .inr ⟨decide_eq_false h, decide_eq_true (by omega)⟩
    clear hr
    rcases hq with hq | ⟨hq, hq2⟩
    all_goals
      go_enter Tryd.func6, Tryd.ntmps6
      go_wp2_with (first | (go_at_call 29; refine (spnew _).mono ?_; rintro e w' ⟨rfl, rfl⟩))
      refine (all_spc _ _ _ [] 0 rfl _ hs0).mono ?_
      rintro e w2 ⟨A2, c2, rfl, hb2⟩
      go_wp2_with fail
      go_ret
      exact ⟨ret_true (by first | rfl | (simp; done) | (simp; omega)), bcl hb0 hb2⟩

/-! ### the card's frame -/
set_option maxRecDepth 100000 in
theorem lifted (os : Os) (started : os.Started) (H : Type) (enc : TypeId × Value → H) :
    ReturnsInHanded {} Tryd.checked os 6 .any (fun w args => (Rows.spaceFullSpec.pre enc Tryd.prog Tryd.f6 [] false w args ∧ laidMetH Tryd.prog laidL w) ∧ sizedMet enc Tryd.prog Tryd.f6 (OpenSpec.ofChange Rows.spaceFullSpec) false w args) (Rows.spaceFullSpec.post enc Tryd.prog Tryd.f6 false true false false) := by
  refine returnsInHanded_of_change_and (C := Tryd.checked) (X := fun w _ => laidMetH Tryd.prog laidL w) (fun _ _ _ hh h => h.of_heap hh) door.own started (by kernel_rfl) Tryd.func6
    (ChangeSpec.witness_at (enc := enc) (C := Tryd.checked) (os := os) (X := fun w _ => laidMetH Tryd.prog laidL w) false (laidWorld os) #[.int .i64 0] 8 rfl (by kernel_rfl) (by kernel_rfl) (by kernel_rfl) (by kernel_rfl) (by kernel_rfl) (laidWorld_met os _)) ?_
  intro W base args ds gs before hval0 hW _ _ hL _
  have hg := handle_of_laid hL
  have hval : ∀ (j : Nat) t v, Tryd.f6.params[j]? = some t → args[j]? = some v → Value.okWide Tryd.prog W .any base t v := hval0
  have hW' := hW
  obtain ⟨p, q, hT0, hV, rfl, hfz, hnd⟩ := hW
  have hA : DataW.TrodAll enc Tryd.prog W 0 (fun _ => true) true Tryd.f6.params.toList args.toList ds p := hT0
  rw [Tryd.params6] at hA hval
  obtain ⟨v0, vs0, d0, ds0, p0, q0, hargs, rfl, rfl, h0, r0⟩ := trodAll_cons hA
  obtain ⟨rfl, rfl, rfl⟩ := trodAll_nil r0
  obtain rfl : args = #[v0] := by cases args; simp_all
  obtain ⟨rfl, rfl⟩ := trodVars_none hV
  have k0 := h0
  have lt0 : ∀ x ∈ p0, x.block < W.heap.size := by obtain ⟨m, hm⟩ := k0; exact DataW.trod_lt m _ _ _ hm
  obtain ⟨x0, rfl, w0⟩ := arg_int Tryd.underlying3 (hval 0 3 v0 rfl rfl) h0
  clear hT0 hval0
  refine (walk W hg x0 w0).mono fun e W' ⟨he, bel⟩ => ?_
  subst he
  exact ⟨_, rfl, _, _, _, [], _, [], hW', trodAll_mk1 (shut_bool Tryd.underlying4 _), (trodAll_cons_mk (Below.trod door.laidOut (by kernel_rfl) (of_decide_eq_true (by kernel_rfl)) k0 bel lt0) trodAll_mk0), rfl, bel.frame _, fun h => by cases h⟩

theorem over : Rows.SpaceFullSaid :=
  OpenClaim.holds_of_wide 6 Tryd.f6 rfl rfl rfl rfl rfl rfl rfl ⟨rfl, rfl, rfl, rfl, rfl⟩ rfl rfl rfl rfl rfl (by kernel_rfl) Tryd.func6 (by kernel_rfl)
    (of_decide_eq_true (by kernel_rfl)) (by unfold Func.isWrapper; first | (rw [if_pos (by decide +kernel)]; kernel_rfl) | (rw [if_neg (by decide +kernel)]; exact ⟨rfl, rfl⟩))
    (fun os started H enc _ => lifted os started H enc)

theorem proved : Rows.SpaceFullCardSaid :=
  Claim7.holds_tied_plain_at .later [] [.handle] true _ true over (fun _ h => by cases h) (by kernel_rfl) (fun _ h => by cases h) spaceFull_row_tie rfl ⟨rfl, rfl⟩ (by kernel_rfl) rfl
    (fun f fn hf hfn => by
      obtain rfl : f = 6 := Option.some.inj ((show Tryd.prog.funcNamed Rows.spaceFullRow.func = some 6 by kernel_rfl).symm.trans hf) |>.symm
      obtain rfl : fn = Tryd.f6 := (Option.some.inj (Tryd.func6.symm.trans hfn)).symm
      exact ⟨by kernel_rfl, fun j t ht => by
        rw [Tryd.params6] at ht
        have hm : t ∈ [3] := by simpa using Array.mem_of_getElem? ht
        have hall : ([3].all fun u => !Tryd.prog.wantsStandIn u) = true := by kernel_rfl
        exact (show Tryd.prog.wantsStandIn t = false by simpa using List.all_eq_true.1 hall t hm)⟩)
    (by kernel_rfl)
#print axioms proved

end Go.Proofs.YthpemlhlgjdnkaaDoor.spaceFull
