/- ValueAnySaid: ANYTHING FITS ALL: for every value. -/
import Derived.Test.YthpemlhlgjdnkaaVOrder
import Derived.Test.YthpemlhlgjdnkaaVArg
import Derived.Test.YthpemlhlgjdnkaaRows
import Derived.WalkKit
import Derived.ProofKit
import Derived.OpenShut
import Derived.ShutString
import Derived.ChangeOld
import Derived.WalkLawsBesides
import Derived.WalkSpells
import Derived.RegionTactic
import Derived.ChangeAlike
namespace Go.Proofs.Ythpemlhlgjdnkaa.valueAny
open Go.ChangeShapes Go.WideShapes Go.ChangeAt Go.RowKit
set_option linter.unusedVariables false

theorem any_ok : vaE ⟨2, 0, ⟨#[]⟩⟩ = 0 := by rw [vaE, if_neg (by simp), if_neg (by simp), if_neg (by simp [okS_empty, ByteArray.size])]
theorem two_eq (a b : Va) : twoE a b = if vaE a ≠ 0 then vaE a else vaE b := by
  show (if (if (0 : Int) ≠ 0 then 0 else vaE a) ≠ 0 then (if (0 : Int) ≠ 0 then 0 else vaE a) else vaE b) = _
  rw [if_neg (show ¬ (0 : Int) ≠ 0 by simp)]
theorem two_l (v : Va) : twoE ⟨2, 0, ⟨#[]⟩⟩ v = vaE v := by rw [two_eq, any_ok, if_neg (by simp)]
theorem two_r (v : Va) : twoE v ⟨2, 0, ⟨#[]⟩⟩ = vaE v := by
  rw [two_eq, any_ok]
  by_cases h : vaE v = 0
  · rw [h, if_neg (by simp)]
  · rw [if_pos h]
theorem two_s (v : Va) : twoE v v = vaE v := by
  rw [two_eq]; split <;> rfl
theorem lik_self (v : Va) : likB v v = true := by simp [likB]

set_option maxHeartbeats 600000 in
set_option maxRecDepth 100000 in
theorem walk (w : World) (k n : Int) (s : ByteArray) (_ : I64 k) (_ : I64 n) (hs : s.size ≤ maxLen) :
    Calls Try.prog 3 #[.agg #[.int .i64 k, .int .i64 n, .string s]] w fun e w' => e = .returned (.bool true) ∧ Below w.heap.size w w' := by
  have cf := fun W => vfits_any 2 0 ⟨#[]⟩ k n s (by simp [ByteArray.size]) hs W
  have cg := fun W => vfits_any k n s k n s hs hs W
  have co := fun W => order_any k n s 2 0 ⟨#[]⟩ hs (by simp [ByteArray.size]) W
  have cc := fun W => vcheck_any k n s hs W
  rw [two_r] at co
  have e1 : fitE ⟨2, 0, ⟨#[]⟩⟩ ⟨k, n, s⟩ = if vaE ⟨k, n, s⟩ ≠ 0 then vaE ⟨k, n, s⟩ else if k = 2 then 3 else 0 := by rw [fitE, two_l]
  have e2 : fitE ⟨k, n, s⟩ ⟨k, n, s⟩ = if vaE ⟨k, n, s⟩ ≠ 0 then vaE ⟨k, n, s⟩ else if k = 2 then 3 else 0 := by rw [fitE, two_s]
  rw [e1] at cf
  rw [e2, lik_self] at cg
  have e3 : likB ⟨2, 0, ⟨#[]⟩⟩ ⟨k, n, s⟩ = true := by simp [likB]
  rw [e3] at cf
  by_cases h : vaE ⟨k, n, s⟩ = 0
  · by_cases h2 : k = 2
    · subst h2
      rw [h] at cf cc
      have hf : ∀ W, Calls Try.prog 9 #[.agg #[.int .i64 2, .int .i64 0, .string ⟨#[]⟩], .agg #[.int .i64 2, .int .i64 n, .string s]] W fun e w' => e = .returned (.tuple #[.bool false, errV 3]) ∧ Below W.heap.size W w' := cf
      have hc : ∀ W, Calls Try.prog 10 #[.agg #[.int .i64 2, .int .i64 n, .string s]] W fun e w' => e = .returned .nilIface ∧ Below W.heap.size W w' := cc
      have CF := Lib.hid hf; have CC := Lib.hid hc; clear cf cg co cc e1 e2 e3 hf hc h
      go_enter Try.func3, Try.ntmps3
      go_wp2_with (first
        | (go_at_call 9; refine (CF.out _).mono ?_; rintro e w1 ⟨rfl, hb1⟩; have hlt : w.heap.size < w1.heap.size := (by have := hb1.size; simp at this; omega); have q0 : w1.cell? ⟨w.heap.size, 0, none⟩ = some (.int .i64 2) := (hb1.cell (p := ⟨w.heap.size, 0, none⟩) (by simp)).trans (by simp); have q1 : w1.cell? ⟨w.heap.size, 1, none⟩ = some (.int .i64 n) := (hb1.cell (p := ⟨w.heap.size, 1, none⟩) (by simp)).trans (by simp); have q2 : w1.cell? ⟨w.heap.size, 2, none⟩ = some (.string s) := (hb1.cell (p := ⟨w.heap.size, 2, none⟩) (by simp)).trans (by simp))
        | (go_at_call 10; refine (CC.out _).mono ?_; rintro e w2 ⟨rfl, hb2⟩; have q0 := (hb2.cell (p := ⟨w.heap.size, 0, none⟩) hlt).trans q0; have q1 := (hb2.cell (p := ⟨w.heap.size, 1, none⟩) hlt).trans q1; have q2 := (hb2.cell (p := ⟨w.heap.size, 2, none⟩) hlt).trans q2))
      go_ret
      exact ⟨ret_true (by first | rfl | (simp; done) | (simp; omega)), (by repeat (first | exact Below.refl _ _ | assumption | refine bal ?_ _ | refine bdn ?_ _ | refine bdr ?_ | refine bcl ?_ (by assumption)))⟩
    · have hk : k < 2 := by
        have := h
        unfold vaE at this
        split at this
        · cases this
        · rename_i hh; simp only [not_or, Int.not_lt] at hh; omega
      have ho : ordI ⟨k, n, s⟩ ⟨2, 0, ⟨#[]⟩⟩ = -1 := by
        have hc : cmpI k 2 = -1 := by rw [cmpI, if_pos hk]
        show or3 (cmpI k 2) _ _ = -1
        rw [hc, or3, if_pos (by decide)]
      rw [if_neg (by simp [h]), if_neg h2] at cf cg
      rw [h, if_pos rfl, ho] at co
      have hf : ∀ W, Calls Try.prog 9 #[.agg #[.int .i64 2, .int .i64 0, .string ⟨#[]⟩], .agg #[.int .i64 k, .int .i64 n, .string s]] W fun e w' => e = .returned (.tuple #[.bool true, .nilIface]) ∧ Below W.heap.size W w' := cf
      have hg : ∀ W, Calls Try.prog 9 #[.agg #[.int .i64 k, .int .i64 n, .string s], .agg #[.int .i64 k, .int .i64 n, .string s]] W fun e w' => e = .returned (.tuple #[.bool true, .nilIface]) ∧ Below W.heap.size W w' := cg
      have hoo : ∀ W, Calls Try.prog 11 #[.agg #[.int .i64 k, .int .i64 n, .string s], .agg #[.int .i64 2, .int .i64 0, .string ⟨#[]⟩]] W fun e w' => e = .returned (.tuple #[.int .i64 (-1), .nilIface]) ∧ Below W.heap.size W w' := co
      have CF := Lib.hid hf; have CG := Lib.hid hg; have CO := Lib.hid hoo; clear cf cg co cc e1 e2 e3 hf hg hoo h h2 ho
      go_enter Try.func3, Try.ntmps3
      go_wp2_with fail
      refine (CF.out _).mono ?_
      rintro e w1 ⟨rfl, hb1⟩
      have hlt : w.heap.size < w1.heap.size := (by have := hb1.size; simp at this; omega)
      have q0 : w1.cell? ⟨w.heap.size, 0, none⟩ = some (.int .i64 k) := (hb1.cell (p := ⟨w.heap.size, 0, none⟩) (by simp)).trans (by simp)
      have q1 : w1.cell? ⟨w.heap.size, 1, none⟩ = some (.int .i64 n) := (hb1.cell (p := ⟨w.heap.size, 1, none⟩) (by simp)).trans (by simp)
      have q2 : w1.cell? ⟨w.heap.size, 2, none⟩ = some (.string s) := (hb1.cell (p := ⟨w.heap.size, 2, none⟩) (by simp)).trans (by simp)
      go_wp2_with fail
      refine (CG.out _).mono ?_
      rintro e w2 ⟨rfl, hb2⟩
      have q0 := (hb2.cell (p := ⟨w.heap.size, 0, none⟩) hlt).trans q0
      have q1 := (hb2.cell (p := ⟨w.heap.size, 1, none⟩) hlt).trans q1
      have q2 := (hb2.cell (p := ⟨w.heap.size, 2, none⟩) hlt).trans q2
      go_wp2_with fail
      refine (CO.out _).mono ?_
      rintro e w3 ⟨rfl, hb3⟩
      go_wp2_with fail
      go_ret
      exact ⟨ret_true (by first | rfl | (simp; done) | (simp; omega)), (by repeat (first | exact Below.refl _ _ | assumption | refine bal ?_ _ | refine bdn ?_ _ | refine bdr ?_ | refine bcl ?_ (by assumption)))⟩
  · rw [if_pos h] at cf
    rw [decide_eq_false h, eV_of h] at cf
    rw [eV_of h] at cc
    generalize vaE ⟨k, n, s⟩ = E at *
    have CF := Lib.hid cf; have CC := Lib.hid cc; clear cf cg co cc e1 e2 e3 h
    go_enter Try.func3, Try.ntmps3
    go_wp2_with (first
      | (go_at_call 9; refine (CF.out _).mono ?_; rintro e w1 ⟨rfl, hb1⟩; have hlt : w.heap.size < w1.heap.size := (by have := hb1.size; simp at this; omega); have q0 : w1.cell? ⟨w.heap.size, 0, none⟩ = some (.int .i64 k) := (hb1.cell (p := ⟨w.heap.size, 0, none⟩) (by simp)).trans (by simp); have q1 : w1.cell? ⟨w.heap.size, 1, none⟩ = some (.int .i64 n) := (hb1.cell (p := ⟨w.heap.size, 1, none⟩) (by simp)).trans (by simp); have q2 : w1.cell? ⟨w.heap.size, 2, none⟩ = some (.string s) := (hb1.cell (p := ⟨w.heap.size, 2, none⟩) (by simp)).trans (by simp))
      | (go_at_call 10; refine (CC.out _).mono ?_; rintro e w2 ⟨rfl, hb2⟩; have q0 := (hb2.cell (p := ⟨w.heap.size, 0, none⟩) hlt).trans q0; have q1 := (hb2.cell (p := ⟨w.heap.size, 1, none⟩) hlt).trans q1; have q2 := (hb2.cell (p := ⟨w.heap.size, 2, none⟩) hlt).trans q2))
    go_ret
    exact ⟨ret_true (by first | rfl | (simp; done) | (simp; omega)), (by repeat (first | exact Below.refl _ _ | assumption | refine bal ?_ _ | refine bdn ?_ _ | refine bdr ?_ | refine bcl ?_ (by assumption)))⟩

/-! ### the row's frame -/
theorem own : ownKnob Try.prog.godebug = none := by kernel_rfl
theorem laidOut : laidOutB Try.prog = true := by kernel_rfl

set_option maxRecDepth 100000 in
theorem lifted (os : Os) (started : os.Started) (H : Type) (enc : TypeId × Value → H) :
    ReturnsInHanded {} Try.checked os 3 .any (Rows.valueAnySpec.pre6 enc Try.prog Try.f3 Rows.valueAnyRow.domain false) (Rows.valueAnySpec.post enc Try.prog Try.f3 false true false false) := by
  refine returnsInHanded_of_change (C := Try.checked) own started (by kernel_rfl) Try.func3
    (ChangeSpec.witness6 (enc := enc) (C := Try.checked) false ⟨#[], #[.agg #[.int .i64 0, .int .i64 0, .string ByteArray.empty]], []⟩ 8 (by kernel_rfl) (by kernel_rfl) (by kernel_rfl) (by kernel_rfl)) ?_
  intro W base args ds gs before hval0 hW hcnd _
  have hval : ∀ (j : Nat) t v, Try.f3.params[j]? = some t → args[j]? = some v → Value.okWide Try.prog W .any base t v := hval0
  have hW' := hW
  obtain ⟨p, q, hA0, hV, rfl, hfz, hnd⟩ := hW
  have hA : DataW.TrodAll enc Try.prog W 0 (fun _ => true) true Try.f3.params.toList args.toList ds p := hA0
  rw [Try.params3] at hA hval
  obtain ⟨v0, vs0, d0, ds0, p0, q0, hargs, rfl, rfl, h0, r0⟩ := trodAll_cons hA
  obtain ⟨rfl, rfl, rfl⟩ := trodAll_nil r0
  obtain rfl : args = #[v0] := by cases args; simp_all
  obtain ⟨rfl, rfl⟩ := trodVars_none hV
  have k0 := h0
  have lt0 : ∀ x ∈ p0, x.block < W.heap.size := by obtain ⟨m, hm⟩ := k0; exact DataW.trod_lt m _ _ _ hm
  obtain ⟨x0, y0, z0, rfl, wx0, wy0, wz0⟩ := arg_Value Try.underlying23 (by kernel_rfl) (by kernel_rfl) Try.underlying3 Try.underlying3 Try.underlying9 (hval 0 23 v0 rfl rfl) h0
  clear hA0 hval0
  refine (walk W x0 y0 z0 wx0 wy0 wz0).mono fun e W' ⟨he, bel⟩ => ?_
  subst he
  exact ⟨_, rfl, _, _, _, [], _, [], hW', trodAll_mk1 (shut_bool Try.underlying4 _), (trodAll_cons_mk (Below.trod laidOut (by kernel_rfl) (of_decide_eq_true (by kernel_rfl)) k0 bel lt0) trodAll_mk0), rfl, bel.frame _, fun h => by cases h⟩

theorem over : Rows.valueAnyRow.holds Try.pinned (OpenSpec.ofChange Rows.valueAnySpec) :=
  OpenClaim.holds_of_wide 3 Try.f3 rfl rfl rfl rfl rfl rfl rfl ⟨rfl, rfl, rfl, rfl, rfl⟩ rfl rfl rfl rfl rfl (by kernel_rfl) Try.func3 (by kernel_rfl)
    (of_decide_eq_true (by kernel_rfl)) (by unfold Func.isWrapper; first | (rw [if_pos (by decide +kernel)]; kernel_rfl) | (rw [if_neg (by decide +kernel)]; exact ⟨rfl, rfl⟩))
    (fun os started H enc _ => lifted os started H enc)

theorem proved : Rows.ValueAnySaid := over
#print axioms proved

end Go.Proofs.Ythpemlhlgjdnkaa.valueAny
