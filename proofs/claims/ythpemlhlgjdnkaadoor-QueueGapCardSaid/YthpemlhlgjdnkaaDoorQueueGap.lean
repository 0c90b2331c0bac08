/- QueueGapCardSaid: NONE IS PASSED OVER: for every two ints. -/
import Derived.Test.YthpemlhlgjdnkaaDoorQueOps
import Derived.Test.YthpemlhlgjdnkaaDoorDoor
import Derived.Test.YthpemlhlgjdnkaaDoorTie
import Derived.Test.YthpemlhlgjdnkaaDoorCards
import Derived.WalkKit
import Derived.ProofKit
import Derived.OpenShut
import Derived.ShutString
import Derived.ChangeOld
import Derived.WalkLawsBesides
import Derived.WalkSpells
import Derived.RegionTactic
import Derived.ChangeAlike
import Derived.SevenTiedAt
import Derived.Deep.DeepCutAuto
import Derived.Outline
namespace Go.Proofs.YthpemlhlgjdnkaaDoor.queueGap
open Go.ChangeShapes Go.WideShapes Go.ChangeAt Go.RowKit Go.Maps Go.WideMaps
set_option linter.unusedVariables false

def star : Va := ⟨2, 0, ⟨#[]⟩⟩
theorem ok_star : okL [star] := fun i hi => by
  obtain rfl : i = 0 := by simpa using hi
  decide
theorem lit1 (W : World) {g : Nat} (hg : g = W.heap.size) : Vals (W.alloc (.cells #[.int .i64 2, .int .i64 0, .string ⟨#[]⟩] 28)) (some ⟨g, 0, none⟩) [star] := lit_vals W [star] 28 hg
theorem li_star : liE [star] = 0 := by decide
theorem qc_star (who seq : Int) : qcE ⟨who, seq, 1, [star]⟩ = if whoB who = false then 1 else 0 := by
  unfold qcE
  rw [show deedB 1 = true by decide, Bool.and_true]
  split
  · rfl
  · exact li_star
set_option maxHeartbeats 1600000 in
set_option maxRecDepth 100000 in
theorem walk (w : World) (hg : HG w) (who : Int) (hwho : I64 who) (seq : Int) (hseq : I64 seq) :
    Calls Tryd.prog 3 #[.int .i64 who, .int .i64 seq] w fun e w' => e = .returned (.bool true) ∧ Below w.heap.size w w' := by
  have HG0 := Lib.hid hg
  have cq := qnew w (Nat.le_refl _)
  have CQ := Lib.hid cq
  have HS := Lib.hid hseq
  clear hg cq hwho hseq
  have cp := fun (W : World) (p m : Nat) (hQ : Que W w.heap.size p none m 0 [] (fun _ => 0)) =>
    qpush_any w.heap.size p m 0 none [] (fun _ => 0) ⟨who, seq, 1, [star]⟩ HS.out (some ⟨W.heap.size, 0, none⟩) 1 (show ([star] : List Va).length ≤ maxLen by decide) ok_star (by decide) (W.alloc (.cells #[.int .i64 2, .int .i64 0, .string ⟨#[]⟩] 28)) (hQ.keep (bal1 _ _)) (lit1 W rfl)
  have hqc := qc_star who seq
  cases h : whoB who with
  | false =>
    rw [if_pos h] at hqc
    have hv : puE [] (fun _ => 0) ⟨who, seq, 1, [star]⟩ = 1 := by rw [puE, hqc, if_pos (by decide)]
    rw [hv, if_neg (by decide), if_neg (by decide), if_neg (by decide), show eV 1 = errV 1 from rfl] at cp
    have cn := fun q W => qnext_no q who h W
    have CP := Lib.hid cp; have CN := Lib.hid cn
    have hx : decide (who < 0) = true ∨ (decide (who < 0) = false ∧ decide (1000000 < who) = true) := by
      simp only [decide_eq_true_eq, decide_eq_false_iff_not]
      rw [← Bool.not_eq_true, whoB_true] at h; omega
    clear cp cn hv hqc h
    rcases hx with x1 | ⟨x1, x2⟩
    all_goals
      go_enter Tryd.func3, Tryd.ntmps3
      go_wp2_with fail
      refine CQ.out.mono ?_
      rintro e w1 ⟨p, m, rfl, hQ, hb1, _, _⟩
      have HQ := Lib.hid hQ
      clear hQ
      go_wp2_with fail
      refine (CP.out w1 p m HQ.out).mono ?_
      rintro e w2 ⟨rfl, g, hQ2, hc2, _⟩
      have hb2 : Below w.heap.size w w2 := (bal hb1 _).trans (hc2.below HQ.out.own (le_al HQ.out.hb _))
      have hd2 : DG w w2 := ⟨HG0.out.below hb2, hb2⟩
      clear hQ2 hc2
      go_wp2_with (first | (go_at_call 23; refine (CN.out _ _).mono ?_; rintro e w3 ⟨rfl, rfl⟩) | (go_at_call 24; refine (same_err _ w _ (by assumption)).mono ?_; rintro e w4 ⟨rfl, hd4⟩))
      go_ret
      exact ⟨ret_true (by first | rfl | (simp; done) | (simp; omega)), DG.b (by assumption)⟩
  | true =>
    rw [if_neg (by rw [h]; decide)] at hqc
    by_cases h1 : seq = 1
    · subst h1
      have hv : puE [] (fun _ => 0) ⟨who, 1, 1, [star]⟩ = 0 := by rw [puE, hqc]; simp
      rw [hv, if_pos rfl, if_pos rfl, if_pos rfl, eV_zero] at cp
      have cn := fun p m g W hQ => qnext_ok w.heap.size p m 1 g ([] ++ [⟨who, 1, 1, [star]⟩]) (fun y => if y = who then 1 else 0) who h (by decide) W hQ
      have cc := fun p m g W hQ => qcount_any w.heap.size p m 1 g ([] ++ [⟨who, 1, 1, [star]⟩]) (fun y => if y = who then 1 else 0) W hQ
      simp only [if_pos] at cn
      have CP := Lib.hid cp; have CN := Lib.hid cn; have CC := Lib.hid cc
      clear cp cn hv hqc h cc
      go_enter Tryd.func3, Tryd.ntmps3
      go_wp2_with fail
      refine CQ.out.mono ?_
      rintro e w1 ⟨p, m, rfl, hQ, hb1, _, _⟩
      have HQ := Lib.hid hQ
      clear hQ
      go_wp2_with fail
      refine (CP.out w1 p m HQ.out).mono ?_
      rintro e w2 ⟨rfl, g, hQ2, hc2, _⟩
      have hb2 : Below w.heap.size w w2 := (bal hb1 _).trans (hc2.below HQ.out.own (le_al HQ.out.hb _))
      have HQ2 := Lib.hid hQ2
      clear hQ2 hc2
      go_wp2_with (first | (go_at_call 23; refine (CN.out _ _ _ _ HQ2.out).mono ?_; rintro e w3 ⟨rfl, rfl⟩) | (go_at_call 25; refine (CC.out _ _ _ _ HQ2.out).mono ?_; rintro e w3 ⟨rfl, rfl⟩))
      go_ret
      exact ⟨ret_true (by first | rfl | (simp; done) | (simp; omega)), hb2⟩
    · have hq : (seq == 1) = false := beq_eq_false_iff_ne.2 h1
      have cn := fun p m g W hQ => qnext_ok w.heap.size p m 0 g [] (fun _ => 0) who h (by decide) W hQ
      have cc := fun p m g W hQ => qcount_any w.heap.size p m 0 g [] (fun _ => 0) W hQ
      have CN := Lib.hid cn; have CC := Lib.hid cc
      clear cn cc
      have hx : ∃ E : Int, puE [] (fun _ => 0) ⟨who, seq, 1, [star]⟩ = E ∧ ((E = 7 ∧ decide (seq < 1) = true) ∨ (E = 6 ∧ decide (seq < 1) = false)) := by
        by_cases h2 : seq < 1
        · exact ⟨7, by rw [puE, hqc, if_neg (by decide), if_pos (by simpa using h2)], .inl ⟨rfl, decide_eq_true h2⟩⟩
        · exact ⟨6, by rw [puE, hqc, if_neg (by decide), if_neg (by simpa using h2), if_pos (by simp; omega)], .inr ⟨rfl, decide_eq_false h2⟩⟩
      obtain ⟨E, hv, hx⟩ := hx
      have hE : E ≠ 0 := by omega
      rw [hv, if_neg hE, if_neg hE, if_neg hE, eV_of hE] at cp
      have CP := Lib.hid cp
      clear cp hv hqc h h1 hE
      rcases hx with ⟨rfl, x1⟩ | ⟨rfl, x1⟩
      all_goals
        go_enter Tryd.func3, Tryd.ntmps3
        go_wp2_with fail
        refine CQ.out.mono ?_
        rintro e w1 ⟨p, m, rfl, hQ, hb1, _, _⟩
        have HQ := Lib.hid hQ
        clear hQ
        go_wp2_with fail
        refine (CP.out w1 p m HQ.out).mono ?_
        rintro e w2 ⟨rfl, g, hQ2, hc2, _⟩
        have hb2 : Below w.heap.size w w2 := (bal hb1 _).trans (hc2.below HQ.out.own (le_al HQ.out.hb _))
        have hd2 : DG w w2 := ⟨HG0.out.below hb2, hb2⟩
        have HQ2 := Lib.hid hQ2
        clear hQ2 hc2
        go_wp2_with (first | (go_at_call 23; refine (CN.out _ _ _ _ HQ2.out).mono ?_; rintro e w3 ⟨rfl, rfl⟩) | (go_at_call 24; refine (same_err _ w2 w2 (DG.refl hd2.1)).mono ?_; rintro e w4 ⟨rfl, hd4⟩; have HQ4 := Lib.hid (HQ2.out.keep hd4.b); have hd5 : DG w w4 := hd2.below hd4.b; clear hd4) | (go_at_call 25; refine (CC.out _ _ _ _ HQ4.out).mono ?_; rintro e w3 ⟨rfl, rfl⟩))
        go_ret
        exact ⟨ret_true (by first | rfl | (simp; done) | (simp; omega)), DG.b (by assumption)⟩

/-! ### the card's frame -/
set_option maxRecDepth 100000 in
theorem lifted (os : Os) (started : os.Started) (H : Type) (enc : TypeId × Value → H) :
    ReturnsInHanded {} Tryd.checked os 3 .any (fun w args => (Rows.queueGapSpec.pre enc Tryd.prog Tryd.f3 [] false w args ∧ laidMetH Tryd.prog laidL w) ∧ sizedMet enc Tryd.prog Tryd.f3 (OpenSpec.ofChange Rows.queueGapSpec) false w args) (Rows.queueGapSpec.post enc Tryd.prog Tryd.f3 false true false false) := by
  refine returnsInHanded_of_change_and (C := Tryd.checked) (X := fun w _ => laidMetH Tryd.prog laidL w) (fun _ _ _ hh h => h.of_heap hh) door.own started (by kernel_rfl) Tryd.func3
    (ChangeSpec.witness_at (enc := enc) (C := Tryd.checked) (os := os) (X := fun w _ => laidMetH Tryd.prog laidL w) false (laidWorld os) #[.int .i64 0, .int .i64 0] 8 rfl (by kernel_rfl) (by kernel_rfl) (by kernel_rfl) (by kernel_rfl) (by kernel_rfl) (laidWorld_met os _)) ?_
  intro W base args ds gs before hval0 hW _ _ hL _
  have hg := handle_of_laid hL
  have hval : ∀ (j : Nat) t v, Tryd.f3.params[j]? = some t → args[j]? = some v → Value.okWide Tryd.prog W .any base t v := hval0
  have hW' := hW
  obtain ⟨p, q, hT0, hV, rfl, hfz, hnd⟩ := hW
  have hA : DataW.TrodAll enc Tryd.prog W 0 (fun _ => true) true Tryd.f3.params.toList args.toList ds p := hT0
  rw [Tryd.params3] at hA hval
  obtain ⟨v0, vs0, d0, ds0, p0, q0, hargs, rfl, rfl, h0, r0⟩ := trodAll_cons hA
  obtain ⟨v1, vs1, d1, ds1, p1, q1, rfl, rfl, rfl, h1, r1⟩ := trodAll_cons r0
  obtain ⟨rfl, rfl, rfl⟩ := trodAll_nil r1
  obtain rfl : args = #[v0, v1] := by cases args; simp_all
  obtain ⟨rfl, rfl⟩ := trodVars_none hV
  have k0 := h0
  have lt0 : ∀ x ∈ p0, x.block < W.heap.size := by obtain ⟨m, hm⟩ := k0; exact DataW.trod_lt m _ _ _ hm
  obtain ⟨x0, rfl, w0⟩ := arg_int Tryd.underlying3 (hval 0 3 v0 rfl rfl) h0
  have k1 := h1
  have lt1 : ∀ x ∈ p1, x.block < W.heap.size := by obtain ⟨m, hm⟩ := k1; exact DataW.trod_lt m _ _ _ hm
  obtain ⟨x1, rfl, w1⟩ := arg_int Tryd.underlying3 (hval 1 3 v1 rfl rfl) h1
  clear hT0 hval0
  refine (walk W hg x0 w0 x1 w1).mono fun e W' ⟨he, bel⟩ => ?_
  subst he
  exact ⟨_, rfl, _, _, _, [], _, [], hW', trodAll_mk1 (shut_bool Tryd.underlying4 _), (trodAll_cons_mk (Below.trod door.laidOut (by kernel_rfl) (of_decide_eq_true (by kernel_rfl)) k0 bel lt0) (trodAll_cons_mk (Below.trod door.laidOut (by kernel_rfl) (of_decide_eq_true (by kernel_rfl)) k1 bel lt1) trodAll_mk0)), rfl, bel.frame _, fun h => by cases h⟩

theorem fr.fn : Tryd.prog.funcNamed Rows.queueGapRow.func = some 3 := by kernel_rfl
theorem fr.cl : joinedFacts Tryd.prog 3 Tryd.f3 Rows.queueGapSpec Rows.queueGapRow = true := by kernel_rfl
theorem fr.is : Tryd.f3.isInstance Tryd.prog Rows.queueGapRow.origin Rows.queueGapRow.targs := of_decide_eq_true (by kernel_rfl)
theorem fr.wr : Tryd.f3.isWrapper Tryd.prog Rows.queueGapRow.wrapper Rows.queueGapRow.mainSum := by
  unfold Func.isWrapper; first | (rw [if_pos (by decide +kernel)]; kernel_rfl) | (rw [if_neg (by decide +kernel)]; exact ⟨rfl, rfl⟩)
theorem over : Rows.QueueGapSaid :=
  OpenClaim.holds_of_wide 3 Tryd.f3 rfl rfl rfl rfl rfl rfl rfl ⟨rfl, rfl, rfl, rfl, rfl⟩ rfl rfl rfl rfl rfl fr.fn Tryd.func3 fr.cl fr.is fr.wr
    (fun os started H enc _ => lifted os started H enc)

theorem fr.hw : Rows.queueGapRow.wfByText (OpenSpec.ofChange Rows.queueGapSpec) = true := by kernel_rfl
theorem fr.hm : Tryd.pinned.checked.prog.mainIs = some (Rows.queueGapCard.stood.harness.1, Rows.queueGapCard.stood.harness.2.toList) := by kernel_rfl
theorem fr.lk : true = Tryd.prog.looks [] := by kernel_rfl
theorem fr.ws : ([3, 3].all fun u => !Tryd.prog.wantsStandIn u) = true := by kernel_rfl
theorem fr.go : false = Rows.queueGapRow.goesBy Tryd.pinned.checked.prog := by kernel_rfl
theorem proved : Rows.QueueGapCardSaid :=
  Claim7.holds_tied_plain_at .later [] [.handle] true Rows.queueGapCard.stood.harness true over (fun _ h => by cases h) fr.hw (fun _ h => by cases h) queueGap_row_tie rfl ⟨rfl, rfl⟩ fr.hm rfl
    (fun f fn hf hfn => by
      obtain rfl : f = 3 := Option.some.inj (fr.fn.symm.trans hf) |>.symm
      obtain rfl : fn = Tryd.f3 := (Option.some.inj (Tryd.func3.symm.trans hfn)).symm
      exact ⟨fr.lk, fun j t ht => by
        rw [Tryd.params3] at ht
        have hm : t ∈ [3, 3] := by simpa using Array.mem_of_getElem? ht
        exact (show Tryd.prog.wantsStandIn t = false by simpa using List.all_eq_true.1 fr.ws t hm)⟩)
    fr.go
#print axioms proved

end Go.Proofs.YthpemlhlgjdnkaaDoor.queueGap
