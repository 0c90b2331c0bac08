/- CoverClosedCardSaid: WHERE ALL IS CLOSED ALL ARE ALIKE: for every two tuples. -/
import Derived.Test.YthpemlhlgjdnkaaDoorCoverFn
import Derived.Test.YthpemlhlgjdnkaaDoorIntOwn
import Derived.Test.YthpemlhlgjdnkaaDoorDoorT
import Derived.Test.YthpemlhlgjdnkaaDoorDoor
import Derived.Test.YthpemlhlgjdnkaaDoorTie
import Derived.Test.YthpemlhlgjdnkaaDoorCards
import Derived.WalkKit
import Derived.ProofKit
import Derived.OpenShut
import Derived.ShutString
import Derived.ChangeOld
import Derived.WalkLawsBesides
import Derived.WalkSpells
import Derived.RegionTactic
import Derived.ChangeAlike
import Derived.SevenTiedAt
import Derived.Deep.DeepCutAuto
import Derived.Outline
namespace Go.Proofs.YthpemlhlgjdnkaaDoor.coverClosed
open Go.ChangeShapes Go.WideShapes Go.ChangeAt Go.RowKit Go.Joins
set_option linter.unusedVariables false

theorem gi_two (n i : Nat) (h : i < n) : gi (List.replicate n 2) i = 2 := by simp [gi, h]
theorem sh_two (n : Nat) : shE' n (List.replicate n 2) = 0 := by
  rw [shE', if_neg (by simp), if_neg]
  rw [badS_false.2 fun i hi => by rw [gi_two _ _ (by simpa using hi)]; decide]; decide
theorem cov_two (t : List Va) : covL t (List.replicate t.length 2) Va.zero = List.replicate t.length Va.zero := va_ext (by rw [covL_length]; simp) fun i hi => by
  rw [covL_length] at hi
  rw [va_covL hi, gi_two _ _ hi, cov1, if_pos rfl]
  simp [va, hi]
theorem ct_two (t : List Va) : ctE t (List.replicate t.length 2) = tuE t := by
  rw [ctE]
  split
  · rfl
  · rename_i h; rw [sh_two]; exact (Classical.not_not.1 h).symm
theorem rep_same (n m : Nat) : (decide (List.replicate n Va.zero = List.replicate m Va.zero) == ((n : Int) == (m : Int))) = true := by
  by_cases e : n = m
  · subst e; simp
  · rw [decide_eq_false (fun h => e (by simpa using congrArg List.length h)), show ((n : Int) == (m : Int)) = false by simp; omega]; rfl
set_option maxHeartbeats 4000000 in
set_option maxRecDepth 100000 in
theorem walk (w : World) (ht : TT w) (A : Option Addr) (c : Nat) (a : List Va) (hc : a.length ≤ c) (hm : c ≤ maxLen) (hA : Vals w A a) (hok : okL a) (ra : a.length * 32 ≤ reachBytes) (B : Option Addr) (c2 : Nat) (b : List Va) (hc2 : b.length ≤ c2) (hm2 : c2 ≤ maxLen) (hB : Vals w B b) (hokb : okL b) (rb : b.length * 32 ≤ reachBytes) :
    Calls Tryd.prog 15 #[.slice A a.length c, .slice B b.length c2] w fun e w' => e = .returned (.bool true) ∧ Below w.heap.size w w' := by
  have m1 : a.length ≤ maxLen := by omega
  have m2 : b.length ≤ maxLen := by omega
  have fa : ∀ W, Below w.heap.size w W → Vals W A a := fun W hb => hA.below hb (Nat.le_refl _)
  have fb : ∀ W, Below w.heap.size w W → Vals W B b := fun W hb => hB.below hb (Nat.le_refl _)
  have tt : ∀ W, Below w.heap.size w W → TT W := fun W hb => tab_stays (g := 1) (by kernel_rfl) ht hb (Nat.le_refl _)
  unfold reachBytes at ra rb
  have c1n := fun W X k hb (hX : Ints W X (List.replicate a.length 2)) h => cotuple_no A c a X k (List.replicate a.length 2) m1 (by simpa using m1) hok W (fa W hb) hX h
  have c1o := fun W X k hb (hX : Ints W X (List.replicate a.length 2)) h => cotuple_ok A c a X k (List.replicate a.length 2) m1 (by simpa using m1) hok W (tt W hb) (fa W hb) hX h
  have c2n := fun W X k hb (hX : Ints W X (List.replicate b.length 2)) h => cotuple_no B c2 b X k (List.replicate b.length 2) m2 (by simpa using m2) hokb W (fb W hb) hX h
  have c2o := fun W X k hb (hX : Ints W X (List.replicate b.length 2)) h => cotuple_ok B c2 b X k (List.replicate b.length 2) m2 (by simpa using m2) hokb W (tt W hb) (fb W hb) hX h
  simp only [ct_two, List.length_replicate] at c1n c2n c1o c2o
  rw [cov_two] at c1o c2o
  have cch := fun W hb => tcheck_any A c a m1 hok W (fa W hb)
  have cs := fun W X Y c d (hX : Vals W X (List.replicate a.length Va.zero)) (hY : Vals W Y (List.replicate b.length Va.zero)) => same_tuple X Y c d (List.replicate a.length Va.zero) (List.replicate b.length Va.zero) W hX hY (by simpa using m1)
  simp only [List.length_replicate] at cs
  have hrs := rep_same a.length b.length
  have C1N := Lib.hid c1n; have C1O := Lib.hid c1o; have C2N := Lib.hid c2n; have C2O := Lib.hid c2o; have CCH := Lib.hid cch; have CS := Lib.hid cs; have HRS := Lib.hid hrs
  clear c1n c1o c2n c2o cch cs hrs fa fb tt hA hB hok hokb ht
  go_enter Tryd.func15, Tryd.ntmps15
  go_wp2_with fail
  go_loopw [5, 7] (fun x i wr => ∃ (k : Nat) (X : Option Addr) (cx : Nat), k ≤ a.length ∧ i = .int .i64 k ∧ x = .slice X k cx ∧ Hid (OIs wr w.heap.size X cx (List.replicate k 2)) ∧ Below w.heap.size w wr) (fun _ i _ => a.length - (intOf i).toNat)
  case atStart => exact ⟨0, none, 0, Nat.zero_le _, rfl, rfl, OIs.nil, Below.refl _ _⟩
  case round =>
    obtain ⟨k, X, cx, hk, rfl, rfl, HX, hb⟩ := hrel
    by_cases hlt : k < a.length
    · go_wp2_with (at_builtin; refine wpList_append_i rfl _ _ rfl w.heap.size X cx (List.replicate k 2) (by rw [List.length_replicate]; rfl) (HX.out.keep (bal1 _ _)) wr.heap.size 2 rfl (cell_new1 _ _ _) (by rw [List.length_replicate]; omega) (bal hb _).size ?_; intro X' cx' w2 hX2 hb2; rw [List.length_replicate])
      go_roundw
      case rel => exact ⟨k + 1, X', cx', by omega, by go_num, rfl, by rw [List.replicate_succ']; exact hX2, (bal hb _).trans hb2⟩
      case measure => simp [intOf]; omega
    · obtain rfl : k = a.length := by omega
      obtain ⟨wo, rfl⟩ : ∃ wo : World, wo = wr := ⟨_, rfl⟩
      go_wp2_with fail
      go_loopw [6, 8] (fun x i wr => ∃ (k : Nat) (Y : Option Addr) (cy : Nat), k ≤ b.length ∧ i = .int .i64 k ∧ x = .slice Y k cy ∧ Hid (OIs wr wo.heap.size Y cy (List.replicate k 2)) ∧ Below wo.heap.size wo wr) (fun _ i _ => b.length - (intOf i).toNat)
      case atStart => exact ⟨0, none, 0, Nat.zero_le _, rfl, rfl, OIs.nil, Below.refl _ _⟩
      case round =>
        obtain ⟨k, Y, cy, hk, rfl, rfl, HY, hb2⟩ := hrel
        by_cases hlt : k < b.length
        · go_wp2_with (at_builtin; refine wpList_append_i rfl _ _ rfl wo.heap.size Y cy (List.replicate k 2) (by rw [List.length_replicate]; rfl) (HY.out.keep (bal1 _ _)) wr.heap.size 2 rfl (cell_new1 _ _ _) (by rw [List.length_replicate]; omega) (bal hb2 _).size ?_; intro Y' cy' w2 hY2 hb3; rw [List.length_replicate])
          go_roundw
          case rel => exact ⟨k + 1, Y', cy', by omega, by go_num, rfl, by rw [List.replicate_succ']; exact hY2, (bal hb2 _).trans hb3⟩
          case measure => simp [intOf]; omega
        · obtain rfl : k = b.length := by omega
          have hbw := bcl hb hb2
          have hX := HX.out.ints.below hb2 (Nat.le_refl _)
          have HXI := Lib.hid hX; have HYI := Lib.hid HY.out.ints
          clear hX
          by_cases e1 : tuE a = 0
          · have C1 := Lib.hid (fun W X k hb hX => C1O.out W X k hb hX e1)
            by_cases e2 : tuE b = 0
            · have C2 := Lib.hid (fun W X k hb hX => C2O.out W X k hb hX e2)
              clear e1 e2
              go_wp2_with fail
              refine (C1.out _ _ _ hbw HXI.out).mono ?_
              rintro e w3 ⟨A3, k3, rfl, ho3, hb3⟩
              have hbw3 := bcl hbw hb3
              have hy3 := HYI.out.below hb3 (Nat.le_refl _)
              have HP := Lib.hid ho3.vals; have HY3 := Lib.hid hy3
              clear ho3 hb3 hy3
              go_wp2_with fail
              refine (C2.out _ _ _ hbw3 HY3.out).mono ?_
              rintro e w4 ⟨A4, k4, rfl, ho4, hb4⟩
              have hbw4 := bcl hbw3 hb4
              have hp4 := HP.out.below hb4 (Nat.le_refl _)
              have HP4 := Lib.hid hp4; have HQ4 := Lib.hid ho4.vals
              clear ho4 hb4 hp4
              go_wp2_with fail
              refine (CS.out _ _ _ _ _ HP4.out HQ4.out).mono ?_
              rintro e w5 ⟨rfl, hb5⟩
              have hr := HRS.out
              generalize decide (List.replicate a.length Va.zero = List.replicate b.length Va.zero) = z at *
              go_wp2_with fail
              go_ret
              exact ⟨ret_true (by first | exact hr | simp), bcl hbw4 hb5⟩
            · have C2 := Lib.hid (fun W X k hb hX => C2N.out W X k hb hX e2)
              generalize tuE b = E at *
              clear e1 e2
              go_wp2_with fail
              refine (C1.out _ _ _ hbw HXI.out).mono ?_
              rintro e w3 ⟨A3, k3, rfl, ho3, hb3⟩
              have hbw3 := bcl hbw hb3
              have hy3 := HYI.out.below hb3 (Nat.le_refl _)
              have HY3 := Lib.hid hy3
              clear ho3 hb3 hy3
              go_wp2_with fail
              refine (C2.out _ _ _ hbw3 HY3.out).mono ?_
              rintro e w4 ⟨rfl, hb4⟩
              go_wp2_with fail
              go_ret
              exact ⟨ret_true (by first | rfl | (simp; done) | (simp; omega)), bcl hbw3 hb4⟩
          · have C1 := Lib.hid (fun W X k hb hX => C1N.out W X k hb hX e1)
            have cch := CCH.out
            rw [eV_of e1] at cch
            have CC := Lib.hid cch
            clear cch
            generalize tuE a = E at *
            by_cases e2 : tuE b = 0
            · have C2 := Lib.hid (fun W X k hb hX => C2O.out W X k hb hX e2)
              clear e1 e2
              go_wp2_with fail
              refine (C1.out _ _ _ hbw HXI.out).mono ?_
              rintro e w3 ⟨rfl, hb3⟩
              have hbw3 := bcl hbw hb3
              have hy3 := HYI.out.below hb3 (Nat.le_refl _)
              have HY3 := Lib.hid hy3
              clear hb3 hy3
              go_wp2_with fail
              refine (C2.out _ _ _ hbw3 HY3.out).mono ?_
              rintro e w4 ⟨A4, k4, rfl, ho4, hb4⟩
              have hbw4 := bcl hbw3 hb4
              clear ho4 hb4
              go_wp2_with fail
              refine (CC.out _ hbw4).mono ?_
              rintro e w5 ⟨rfl, hb5⟩
              go_wp2_with fail
              go_ret
              exact ⟨ret_true (by first | rfl | (simp; done) | (simp; omega)), bcl hbw4 hb5⟩
            · have C2 := Lib.hid (fun W X k hb hX => C2N.out W X k hb hX e2)
              generalize tuE b = E2 at *
              clear e1 e2
              go_wp2_with fail
              refine (C1.out _ _ _ hbw HXI.out).mono ?_
              rintro e w3 ⟨rfl, hb3⟩
              have hbw3 := bcl hbw hb3
              have hy3 := HYI.out.below hb3 (Nat.le_refl _)
              have HY3 := Lib.hid hy3
              clear hb3 hy3
              go_wp2_with fail
              refine (C2.out _ _ _ hbw3 HY3.out).mono ?_
              rintro e w4 ⟨rfl, hb4⟩
              have hbw4 := bcl hbw3 hb4
              clear hb4
              go_wp2_with fail
              refine (CC.out _ hbw4).mono ?_
              rintro e w5 ⟨rfl, hb5⟩
              go_wp2_with fail
              go_ret
              exact ⟨ret_true (by first | rfl | (simp; done) | (simp; omega)), bcl hbw4 hb5⟩

/-! ### the card's frame -/
set_option maxRecDepth 100000 in
theorem lifted (os : Os) (started : os.Started) (H : Type) (enc : TypeId × Value → H) :
    ReturnsInHanded {} Tryd.checked os 15 .any (fun w args => (Rows.coverClosedSpec.pre enc Tryd.prog Tryd.f15 [] false w args ∧ laidMetH Tryd.prog laidT w) ∧ sizedMet enc Tryd.prog Tryd.f15 (OpenSpec.ofChange Rows.coverClosedSpec) false w args) (Rows.coverClosedSpec.post enc Tryd.prog Tryd.f15 false true false false) := by
  refine returnsInHanded_of_change_and (C := Tryd.checked) (X := fun w _ => laidMetH Tryd.prog laidT w) (fun _ _ _ hh h => h.of_heap hh) door.own started (by kernel_rfl) Tryd.func15
    (ChangeSpec.witness_at (enc := enc) (C := Tryd.checked) (os := os) (X := fun w _ => laidMetH Tryd.prog laidT w) false (laidWorldT os) #[.slice none 0 0, .slice none 0 0] 8 rfl (by kernel_rfl) (by kernel_rfl) (by kernel_rfl) (by kernel_rfl) (by kernel_rfl) (laidWorldT_met os _)) ?_
  intro W base args ds gs before hval0 hW _ hsz hL _
  have hg := tt_of_laid hL
  have hval : ∀ (j : Nat) t v, Tryd.f15.params[j]? = some t → args[j]? = some v → Value.okWide Tryd.prog W .any base t v := hval0
  have hW' := hW
  obtain ⟨p, q, hT0, hV, rfl, hfz, hnd⟩ := hW
  have hA : DataW.TrodAll enc Tryd.prog W 0 (fun _ => true) true Tryd.f15.params.toList args.toList ds p := hT0
  rw [Tryd.params15] at hA hval
  obtain ⟨v0, vs0, d0, ds0, p0, q0, hargs, rfl, rfl, h0, r0⟩ := trodAll_cons hA
  obtain ⟨v1, vs1, d1, ds1, p1, q1, rfl, rfl, rfl, h1, r1⟩ := trodAll_cons r0
  obtain ⟨rfl, rfl, rfl⟩ := trodAll_nil r1
  obtain rfl : args = #[v0, v1] := by cases args; simp_all
  obtain ⟨rfl, rfl⟩ := trodVars_none hV
  have k0 := h0
  have lt0 : ∀ x ∈ p0, x.block < W.heap.size := by obtain ⟨m, hm⟩ := k0; exact DataW.trod_lt m _ _ _ hm
  obtain ⟨A0, c0, x0, rfl, hc0, hm0, hA0, w0⟩ := arg_Vals Tryd.underlying29 Tryd.underlying28 (by kernel_rfl) (by kernel_rfl) Tryd.underlying3 Tryd.underlying3 Tryd.underlying9 (hval 0 29 v0 rfl rfl) h0
  have r0' := slice_reach Tryd.underlying29 k0 hsz 0 (by rw [Tryd.params15]; rfl) rfl
  rw [show Tryd.prog.bytesOf 28 = 32 by kernel_rfl] at r0'
  have k1 := h1
  have lt1 : ∀ x ∈ p1, x.block < W.heap.size := by obtain ⟨m, hm⟩ := k1; exact DataW.trod_lt m _ _ _ hm
  obtain ⟨A1, c1, x1, rfl, hc1, hm1, hA1, w1⟩ := arg_Vals Tryd.underlying29 Tryd.underlying28 (by kernel_rfl) (by kernel_rfl) Tryd.underlying3 Tryd.underlying3 Tryd.underlying9 (hval 1 29 v1 rfl rfl) h1
  have r1' := slice_reach Tryd.underlying29 k1 hsz 1 (by rw [Tryd.params15]; rfl) rfl
  rw [show Tryd.prog.bytesOf 28 = 32 by kernel_rfl] at r1'
  clear hT0 hval0
  refine (walk W hg A0 c0 x0 hc0 hm0 hA0 w0 r0' A1 c1 x1 hc1 hm1 hA1 w1 r1').mono fun e W' ⟨he, bel⟩ => ?_
  subst he
  exact ⟨_, rfl, _, _, _, [], _, [], hW', trodAll_mk1 (shut_bool Tryd.underlying4 _), (trodAll_cons_mk (Below.trod door.laidOut (by kernel_rfl) (of_decide_eq_true (by kernel_rfl)) k0 bel lt0) (trodAll_cons_mk (Below.trod door.laidOut (by kernel_rfl) (of_decide_eq_true (by kernel_rfl)) k1 bel lt1) trodAll_mk0)), rfl, bel.frame _, fun h => by cases h⟩

theorem fr.fn : Tryd.prog.funcNamed Rows.coverClosedRow.func = some 15 := by kernel_rfl
theorem fr.cl : joinedFacts Tryd.prog 15 Tryd.f15 Rows.coverClosedSpec Rows.coverClosedRow = true := by kernel_rfl
theorem fr.is : Tryd.f15.isInstance Tryd.prog Rows.coverClosedRow.origin Rows.coverClosedRow.targs := of_decide_eq_true (by kernel_rfl)
theorem fr.wr : Tryd.f15.isWrapper Tryd.prog Rows.coverClosedRow.wrapper Rows.coverClosedRow.mainSum := by
  unfold Func.isWrapper; first | (rw [if_pos (by decide +kernel)]; kernel_rfl) | (rw [if_neg (by decide +kernel)]; exact ⟨rfl, rfl⟩)
theorem over : Rows.CoverClosedSaid :=
  OpenClaim.holds_of_wide 15 Tryd.f15 rfl rfl rfl rfl rfl rfl rfl ⟨rfl, rfl, rfl, rfl, rfl⟩ rfl rfl rfl rfl rfl fr.fn Tryd.func15 fr.cl fr.is fr.wr
    (fun os started H enc _ => lifted os started H enc)

theorem fr.hw : Rows.coverClosedRow.wfByText (OpenSpec.ofChange Rows.coverClosedSpec) = true := by kernel_rfl
theorem fr.hm : Tryd.pinned.checked.prog.mainIs = some (Rows.coverClosedCard.stood.harness.1, Rows.coverClosedCard.stood.harness.2.toList) := by kernel_rfl
theorem fr.lk : true = Tryd.prog.looks [] := by kernel_rfl
theorem fr.ws : ([29, 29].all fun u => !Tryd.prog.wantsStandIn u) = true := by kernel_rfl
theorem fr.go : false = Rows.coverClosedRow.goesBy Tryd.pinned.checked.prog := by kernel_rfl
theorem proved : Rows.CoverClosedCardSaid :=
  Claim7.holds_tied_plain_at .later [] [.data, .data, .data] true Rows.coverClosedCard.stood.harness true over (fun _ h => by cases h) fr.hw (fun _ h => by cases h) coverClosed_row_tie rfl ⟨rfl, rfl⟩ fr.hm rfl
    (fun f fn hf hfn => by
      obtain rfl : f = 15 := Option.some.inj (fr.fn.symm.trans hf) |>.symm
      obtain rfl : fn = Tryd.f15 := (Option.some.inj (Tryd.func15.symm.trans hfn)).symm
      exact ⟨fr.lk, fun j t ht => by
        rw [Tryd.params15] at ht
        have hm : t ∈ [29, 29] := by simpa using Array.mem_of_getElem? ht
        exact (show Tryd.prog.wantsStandIn t = false by simpa using List.all_eq_true.1 fr.ws t hm)⟩)
    fr.go
#print axioms proved

end Go.Proofs.YthpemlhlgjdnkaaDoor.coverClosed
