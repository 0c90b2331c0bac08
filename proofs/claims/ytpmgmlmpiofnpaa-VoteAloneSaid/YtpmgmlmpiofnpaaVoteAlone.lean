/- VoteAloneSaid: ONE ALONE WINS ALONE: for every text and every need. -/
import Derived.Test.YtpmgmlmpiofnpaaRows
import Derived.Test.YtpmgmlmpiofnpaaMem
import Derived.Test.YtpmgmlmpiofnpaaVote
import Derived.WalkKit
import Derived.ProofKit
import Derived.OpenShut
import Derived.ShutString
import Derived.ChangeOld
import Derived.WalkLawsBesides
import Derived.WalkSpells
namespace Go.Proofs.Ytpmgmlmpiofnpaa.voteAlone
open Go.ChangeShapes Go.WideShapes Go.ChangeAt Go.RowKit

set_option maxHeartbeats 800000 in
set_option maxRecDepth 100000 in
theorem walk (w : World) (s : ByteArray) (hs : s.size ≤ maxLen) (need : Int) (_ : I64 need) : Calls Try.prog 4 #[.string s, .int .i64 need] w fun e w' => e = .returned (.bool true) ∧ Below w.heap.size w w' := by
  have hs1 : ∀ i, i < [s].length → (gs [s] i).size ≤ maxLen := fun i hi => by
    obtain rfl : i = 0 := by simpa using hi
    exact hs
  have hm : mo [s] [s].length = 1 := by simp [mo, cn]
  have cm : ∀ W cap A, Strs W A [s] → Calls Try.prog 18 #[.slice A 1 cap] W fun e w' => e = .returned (.tuple #[.int .i64 1, .nilIface]) ∧ Below W.heap.size W w' := fun W cap A hA =>
    (most_any A cap [s] W (by simp) hA hs1).mono fun e w' ⟨he, hb⟩ => ⟨by rw [he, hm]; rfl, hb⟩
  have CM := Lib.hid cm; clear cm hm
  by_cases hc : copB need = true
  · obtain ⟨c0, c1⟩ := copB_true.1 hc
    have cw : ∀ W cap A, Strs W A [s] → Calls Try.prog 17 #[.slice A 1 cap, .int .i64 need] W fun e w' => e = .returned (winV [s] need) ∧ Below W.heap.size W w' := fun W cap A hA =>
      win_any A cap [s] need W hc (by simp) hA hs1
    have CW := Lib.hid cw; clear cw hc
    by_cases h1 : need = 1
    · subst h1
      have hv : winV [s] 1 = .tuple #[.string s, .nilIface] := by
        have := winV_some (ss := [s]) (need := 1) (k := 1) (i := 0) (by simp [wn, cn, gs]) (by simp)
        rw [this]; rfl
      rw [hv] at CW
      clear hv
      go_enter Try.func4, Try.ntmps4
      go_wp2_with fail
      refine (CW.out _ _ _ (one_strs _ _ _ (by simp))).mono ?_
      rintro e w1 ⟨rfl, hb1⟩
      go_wp2_with fail
      refine (CM.out _ _ _ (one_strs _ _ _ (by simp))).mono ?_
      rintro e w2 ⟨rfl, hb2⟩
      go_wp2_with fail
      go_ret
      exact ⟨ret_true (by first | rfl | (simp; done) | (simp; omega)), (by repeat (first | exact Below.refl _ _ | assumption | refine bal ?_ _ | refine bdn ?_ _ | refine bdr ?_ | refine bcl ?_ (by assumption)))⟩
    · have hv : winV [s] need = .tuple #[.string ⟨#[]⟩, errV 5] := winV_none (by simp [wn, cn, gs]; omega)
      rw [hv] at CW
      clear hv
      have hn : (need == 1) = false := beq_eq_false_iff_ne.2 h1
      have hn2 : (need != 1) = true := by rw [bne_iff_ne]; exact h1
      clear h1
      go_enter Try.func4, Try.ntmps4
      go_wp2_with fail
      refine (CW.out _ _ _ (one_strs _ _ _ (by simp))).mono ?_
      rintro e w1 ⟨rfl, hb1⟩
      go_wp2_with fail
      refine (CM.out _ _ _ (one_strs _ _ _ (by simp))).mono ?_
      rintro e w2 ⟨rfl, hb2⟩
      go_wp2_with fail
      go_ret
      exact ⟨ret_true (by first | rfl | (simp; done) | (simp; omega)), (by repeat (first | exact Below.refl _ _ | assumption | refine bal ?_ _ | refine bdn ?_ _ | refine bdr ?_ | refine bcl ?_ (by assumption)))⟩
  · have hc : copB need = false := by simpa using hc
    have hn2 : (need != 1) = true := by
      rw [bne_iff_ne]; rintro rfl; cases hc
    have cw : ∀ W cap A, Calls Try.prog 17 #[.slice A 1 cap, .int .i64 need] W fun e w' => e = .returned (.tuple #[.string ⟨#[]⟩, errV 1]) ∧ W = w' := fun W cap A =>
      win_range A cap [s] need W hc
    have CW := Lib.hid cw; clear cw hc
    go_enter Try.func4, Try.ntmps4
    go_wp2_with fail
    refine (CW.out _ _ _).mono ?_
    rintro e w1 ⟨rfl, rfl⟩
    go_wp2_with fail
    refine (CM.out _ _ _ (one_strs _ _ _ (by simp))).mono ?_
    rintro e w2 ⟨rfl, hb2⟩
    go_wp2_with fail
    go_ret
    exact ⟨ret_true (by first | rfl | (simp; done) | (simp; omega)), (by repeat (first | exact Below.refl _ _ | assumption | refine bal ?_ _ | refine bdn ?_ _ | refine bdr ?_ | refine bcl ?_ (by assumption)))⟩

/-! ### the row's frame -/
theorem own : ownKnob Try.prog.godebug = none := by kernel_rfl
theorem laidOut : laidOutB Try.prog = true := by kernel_rfl

set_option maxRecDepth 100000 in
theorem lifted (os : Os) (started : os.Started) (H : Type) (enc : TypeId × Value → H) :
    ReturnsInHanded {} Try.checked os 4 .any (Rows.voteAloneSpec.pre6 enc Try.prog Try.f4 Rows.voteAloneRow.domain false) (Rows.voteAloneSpec.post enc Try.prog Try.f4 false true false false) := by
  refine returnsInHanded_of_change (C := Try.checked) own started (by kernel_rfl) Try.func4
    (ChangeSpec.witness6 (enc := enc) (C := Try.checked) false ⟨#[], #[.string ByteArray.empty, .int .i64 0], []⟩ 8 (by kernel_rfl) (by kernel_rfl) (by kernel_rfl) (by kernel_rfl)) ?_
  intro W base args ds gs before hval0 hW hcnd _
  have hval : ∀ (j : Nat) t v, Try.f4.params[j]? = some t → args[j]? = some v → Value.okWide Try.prog W .any base t v := hval0
  have hW' := hW
  obtain ⟨p, q, hA0, hV, rfl, hfz, hnd⟩ := hW
  have hA : DataW.TrodAll enc Try.prog W 0 (fun _ => true) true Try.f4.params.toList args.toList ds p := hA0
  rw [Try.params4] at hA hval
  obtain ⟨v0, vs0, d0, ds0, p0, q0, hargs, rfl, rfl, h0, r0⟩ := trodAll_cons hA
  obtain ⟨v1, vs1, d1, ds1, p1, q1, rfl, rfl, rfl, h1, r1⟩ := trodAll_cons r0
  obtain ⟨rfl, rfl, rfl⟩ := trodAll_nil r1
  obtain rfl : args = #[v0, v1] := by cases args; simp_all
  obtain ⟨rfl, rfl⟩ := trodVars_none hV
  have k0 := h0
  have lt0 : ∀ x ∈ p0, x.block < W.heap.size := by obtain ⟨m, hm⟩ := k0; exact DataW.trod_lt m _ _ _ hm
  obtain ⟨x0, rfl, w0⟩ := arg_string Try.underlying9 (hval 0 9 v0 rfl rfl) h0
  have k1 := h1
  have lt1 : ∀ x ∈ p1, x.block < W.heap.size := by obtain ⟨m, hm⟩ := k1; exact DataW.trod_lt m _ _ _ hm
  obtain ⟨x1, rfl, w1⟩ := arg_int Try.underlying3 (hval 1 3 v1 rfl rfl) h1
  clear hA0 hval0
  refine (walk W x0 w0 x1 w1).mono fun e W' ⟨he, bel⟩ => ?_
  subst he
  exact ⟨_, rfl, _, _, _, [], _, [], hW', trodAll_mk1 (shut_bool Try.underlying4 _), (trodAll_cons_mk (Below.trod laidOut (by kernel_rfl) (of_decide_eq_true (by kernel_rfl)) k0 bel lt0) (trodAll_cons_mk (Below.trod laidOut (by kernel_rfl) (of_decide_eq_true (by kernel_rfl)) k1 bel lt1) trodAll_mk0)), rfl, bel.frame _, fun h => by cases h⟩

theorem over : Rows.voteAloneRow.holds Try.pinned (OpenSpec.ofChange Rows.voteAloneSpec) :=
  OpenClaim.holds_of_wide 4 Try.f4 rfl rfl rfl rfl rfl rfl rfl ⟨rfl, rfl, rfl, rfl, rfl⟩ rfl rfl rfl rfl rfl (by kernel_rfl) Try.func4 (by kernel_rfl)
    (of_decide_eq_true (by kernel_rfl)) (by unfold Func.isWrapper; first | (rw [if_pos (by decide +kernel)]; kernel_rfl) | (rw [if_neg (by decide +kernel)]; exact ⟨rfl, rfl⟩))
    (fun os started H enc _ => lifted os started H enc)

theorem proved : Rows.VoteAloneSaid := over
#print axioms proved

end Go.Proofs.Ytpmgmlmpiofnpaa.voteAlone
