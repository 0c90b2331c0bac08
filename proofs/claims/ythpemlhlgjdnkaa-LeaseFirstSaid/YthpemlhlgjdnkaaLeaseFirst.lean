/- LeaseFirstSaid: AT THE TIME IT IS NO MORE TO BE PUT: for every tuple and time. -/
import Derived.Test.YthpemlhlgjdnkaaTupleIs
import Derived.Test.YthpemlhlgjdnkaaVArg
import Derived.Test.YthpemlhlgjdnkaaRows
import Derived.WalkKit
import Derived.ProofKit
import Derived.OpenShut
import Derived.ShutString
import Derived.ChangeOld
import Derived.WalkLawsBesides
import Derived.WalkSpells
import Derived.RegionTactic
import Derived.ChangeAlike
import Derived.Deep.QuietTactic
import Derived.BigQuiet
import Derived.Outline
import Derived.Deep.RegionHeld3
namespace Go.Proofs.Ythpemlhlgjdnkaa.leaseFirst
open Go.ChangeShapes Go.WideShapes Go.ChangeAt Go.RowKit
set_option linter.unusedVariables false

theorem lidx_nil (f : Value) (w : World) : Calls Try.prog 51 #[.slice none 0 0, f] w fun e w' => e = .returned (.int .i64 (-1)) ∧ w = w' := by
  go_enter Try.func51, Try.ntmps51
  go_wp2
  refine wp_loop_rounds 1 ?_
  rw [rounds_succ]
  go_wp2
  go_ret
  exact ⟨rfl, rfl⟩
theorem ldel_nil (f : Value) (w : World) : Calls Try.prog 37 #[.slice none 0 0, f] w fun e w' => e = .returned (.slice none 0 0) ∧ w = w' := by
  go_enter Try.func37, Try.ntmps37
  go_wp2_with (go_at_call 51; refine (lidx_nil _ _).mono ?_; rintro e w' ⟨rfl, rfl⟩)
  go_ret
  exact ⟨rfl, rfl⟩
theorem ahead_no (p : Nat) (t : Int) (w : World) (c0 : w.cell? ⟨p, 0, none⟩ = some (.int .i64 t)) :
    Calls Try.prog 39 #[.pointer (some ⟨p, 0, none⟩), .int .i64 t] w fun e w' => e = .returned (.bool false) ∧ w = w' := by
  have hq : decide (t < t) = false := by simp
  go_enter Try.func39, Try.ntmps39
  go_wp2
  go_ret
  exact ⟨rfl, rfl⟩
set_option maxHeartbeats 400000 in
theorem now_no (p : Nat) (t : Int) (ht : t < 0 ∨ 10000 < t) (w : World) (hp : p < w.heap.size) (c0 : w.cell? ⟨p, 0, none⟩ = some (.int .i64 0)) :
    Calls Try.prog 16 #[.pointer (some ⟨p, 0, none⟩), .int .i64 t] w fun e w' => e = .returned (.tuple #[.int .i64 0, errV 1]) ∧ Below w.heap.size w w' := by
  have k0 : (w.alloc (.cells #[.int .i64 t] 3)).cell? ⟨p, 0, none⟩ = some (.int .i64 0) := by rw [World.cell?_alloc_lt _ _ ⟨p, 0, none⟩ hp]; exact c0
  rcases ht with h | h
  · have hq : decide (t < 0) = true := by simp; omega
    go_enter Try.func16, Try.ntmps16
    go_wp2_with fail
    go_quiet (fail)
    go_wp2_with fail
    go_ret2
    exact ⟨rfl, (by repeat (first | exact Below.refl _ _ | assumption | refine bal ?_ _ | refine bdn ?_ _ | refine bdr ?_ | refine bcl ?_ (by assumption)))⟩
  · have hq : decide (t < 0) = false := by simp; omega
    have hq2 : decide (10000 < t) = true := by simp; omega
    go_enter Try.func16, Try.ntmps16
    go_wp2_with fail
    go_quiet (fail)
    go_wp2_with fail
    go_ret2
    exact ⟨rfl, (by repeat (first | exact Below.refl _ _ | assumption | refine bal ?_ _ | refine bdn ?_ _ | refine bdr ?_ | refine bcl ?_ (by assumption)))⟩
set_option maxHeartbeats 400000 in
theorem now_ok (p : Nat) (t : Int) (h0 : 0 ≤ t) (h1 : t ≤ 10000) (w : World) (hp : p < w.heap.size) (c0 : w.cell? ⟨p, 0, none⟩ = some (.int .i64 0)) (c2 : w.cell? ⟨p, 2, none⟩ = some (.slice none 0 0))
    (f0 : w.frozen? ⟨p, 0, none⟩ = false) (f2 : w.frozen? ⟨p, 2, none⟩ = false) :
    Calls Try.prog 16 #[.pointer (some ⟨p, 0, none⟩), .int .i64 t] w fun e w' => e = .returned (.tuple #[.int .i64 0, .nilIface]) ∧ (w'.cell? ⟨p, 0, none⟩ = some (.int .i64 t) ∧ w'.cell? ⟨p, 2, none⟩ = some (.slice none 0 0)) ∧ Below p w w' := by
  have k0 : (w.alloc (.cells #[.int .i64 t] 3)).cell? ⟨p, 0, none⟩ = some (.int .i64 0) := by rw [World.cell?_alloc_lt _ _ ⟨p, 0, none⟩ hp]; exact c0
  have k2 : (w.alloc (.cells #[.int .i64 t] 3)).cell? ⟨p, 2, none⟩ = some (.slice none 0 0) := by rw [World.cell?_alloc_lt _ _ ⟨p, 2, none⟩ hp]; exact c2
  have g0 : (w.alloc (.cells #[.int .i64 t] 3)).frozen? ⟨p, 0, none⟩ = false := by rw [World.frozen?_alloc_old _ _ ⟨p, 0, none⟩ (by show p ≠ _; omega)]; exact f0
  have g2 : (w.alloc (.cells #[.int .i64 t] 3)).frozen? ⟨p, 2, none⟩ = false := by rw [World.frozen?_alloc_old _ _ ⟨p, 2, none⟩ (by show p ≠ _; omega)]; exact f2
  have hne : p ≠ w.heap.size := by omega
  have hq : decide (t < 0) = false := by simp; omega
  have hq2 : decide (10000 < t) = false := by simp; omega
  go_enter Try.func16, Try.ntmps16
  go_wp2_with fail
  go_quiet (fail)
  go_wp2_with (go_at_call 37; refine (ldel_nil _ _).mono ?_; rintro e w' ⟨rfl, rfl⟩)
  go_ret2
  have hb : Below p w ((((w.alloc (Obj.cells #[Value.int IntKind.i64 t] 3)).drewN nq).setCell { block := p, off := 0 } (Value.int IntKind.i64 t)).setCell { block := p, off := 2 } (Value.slice none 0 0)) := by
    have h1 : Below p w (w.alloc (Obj.cells #[Value.int IntKind.i64 t] 3)) := (Below.refl p w).alloc (by omega) _
    have h2 : Below p w ((w.alloc (Obj.cells #[Value.int IntKind.i64 t] 3)).drewN nq) := ⟨h1.os, h1.tape, h1.output, h1.size, h1.block⟩
    exact (h2.setCell (Nat.le_refl _) _).setCell (Nat.le_refl _) _
  refine ⟨rfl, ⟨?_, ?_⟩, hb⟩
  · exact (World.cell?_setCell_other _ ⟨p, 2, none⟩ ⟨p, 0, none⟩ _ (by simp)).trans (World.cell?_setCell_same _ ⟨p, 0, none⟩ _ k0)
  · exact World.cell?_setCell_same _ ⟨p, 2, none⟩ _ ((World.cell?_setCell_other _ ⟨p, 0, none⟩ ⟨p, 2, none⟩ _ (by simp)).trans k2)
theorem lnew (w : World) : Calls Try.prog 15 #[] w fun e w' => e = .returned (.pointer (some ⟨w.heap.size, 0, none⟩)) ∧ w' = w.alloc (.cells #[.int .i64 0, .int .i64 0, .slice none 0 0] 68) := by
  go_enter Try.func15, Try.ntmps15
  go_wp2
  go_ret
  exact ⟨rfl, rfl⟩
theorem lcount (p : Nat) (w : World) (c2 : w.cell? ⟨p, 2, none⟩ = some (.slice none 0 0)) :
    Calls Try.prog 18 #[.pointer (some ⟨p, 0, none⟩)] w fun e w' => e = .returned (.int .i64 0) ∧ w = w' := by
  go_enter Try.func18, Try.ntmps18
  go_wp2
  go_ret
  exact ⟨rfl, rfl⟩
set_option maxHeartbeats 400000 in
theorem put_no (p : Nat) (t : Int) (A : Option Addr) (cap : Nat) (l : List Va) (hm : l.length ≤ maxLen) (hok : okL l) (w : World) (hA : Vals w A l) (hp : p < w.heap.size) (c0 : w.cell? ⟨p, 0, none⟩ = some (.int .i64 t)) :
    Calls Try.prog 17 #[.pointer (some ⟨p, 0, none⟩), .slice A l.length cap, .int .i64 t] w fun e w' => (∃ E, e = .returned (.tuple #[.int .i64 0, errV E])) ∧ Below w.heap.size w w' := by
  have cc := tcheck_any A cap l hm hok w hA
  by_cases h : tuE l = 0
  · rw [h, eV_zero] at cc
    have CC := Lib.hid cc; clear cc h
    have ca := fun (W : World) (h : W.cell? ⟨p, 0, none⟩ = some (.int .i64 t)) => ahead_no p t W h
    have CA := Lib.hid ca; clear ca
    go_enter Try.func17, Try.ntmps17
    go_wp2_with (first | (go_at_call 14; refine CC.out.mono ?_; rintro e w1 ⟨rfl, hb1⟩) | (go_at_call 39; refine (CA.out _ ((hb1.cell (p := ⟨p, 0, none⟩) hp).trans c0)).mono ?_; rintro e w2 ⟨rfl, rfl⟩))
    go_ret2
    exact ⟨⟨1, rfl⟩, (by repeat (first | exact Below.refl _ _ | assumption | refine bal ?_ _ | refine bdn ?_ _ | refine bdr ?_ | refine bcl ?_ (by assumption)))⟩
  · rw [eV_of h] at cc
    generalize tuE l = E at *
    have CC := Lib.hid cc; clear cc h
    go_enter Try.func17, Try.ntmps17
    go_wp2_with (first | (go_at_call 14; refine CC.out.mono ?_; rintro e w1 ⟨rfl, hb1⟩))
    go_ret2
    exact ⟨⟨E, rfl⟩, (by repeat (first | exact Below.refl _ _ | assumption | refine bal ?_ _ | refine bdn ?_ _ | refine bdr ?_ | refine bcl ?_ (by assumption)))⟩
set_option maxHeartbeats 400000 in
theorem walk (w : World) (A : Option Addr) (c : Nat) (l : List Va) (hc : l.length ≤ c) (hm : c ≤ maxLen) (hA : Vals w A l) (hok : okL l) (t : Int) (_ : I64 t) :
    Calls Try.prog 5 #[.slice A l.length c, .int .i64 t] w fun e w' => e = .returned (.bool true) ∧ Below w.heap.size w w' := by
  by_cases h0 : t < 0
  · have hq : decide (t < 0) = true := by simp; omega
    have cn := fun (p : Nat) (W : World) (hp : p < W.heap.size) (h : W.cell? ⟨p, 0, none⟩ = some (.int .i64 0)) => now_no p t (.inl h0) W hp h
    have CN := Lib.hid cn; clear cn h0
    go_enter Try.func5, Try.ntmps5
    go_wp2_with (first | (go_at_call 15; refine (lnew _).mono ?_; rintro e w1 ⟨rfl, rfl⟩) | (go_at_call 16; refine (CN.out _ _ (by simp) (by simp)).mono ?_; rintro e w2 ⟨rfl, hb2⟩))
    go_ret
    exact ⟨rfl, (by repeat (first | exact Below.refl _ _ | assumption | refine bal ?_ _ | refine bdn ?_ _ | refine bdr ?_ | refine bcl ?_ (by assumption)))⟩
  · by_cases h1 : 10000 < t
    · have hq : decide (t < 0) = false := by simp; omega
      have hq2 : decide (10000 < t) = true := by simp; omega
      have cn := fun (p : Nat) (W : World) (hp : p < W.heap.size) (h : W.cell? ⟨p, 0, none⟩ = some (.int .i64 0)) => now_no p t (.inr h1) W hp h
      have CN := Lib.hid cn; clear cn h0 h1
      go_enter Try.func5, Try.ntmps5
      go_wp2_with (first | (go_at_call 15; refine (lnew _).mono ?_; rintro e w1 ⟨rfl, rfl⟩) | (go_at_call 16; refine (CN.out _ _ (by simp) (by simp)).mono ?_; rintro e w2 ⟨rfl, hb2⟩))
      go_ret
      exact ⟨rfl, (by repeat (first | exact Below.refl _ _ | assumption | refine bal ?_ _ | refine bdn ?_ _ | refine bdr ?_ | refine bcl ?_ (by assumption)))⟩
    · have cn := fun (p : Nat) (W : World) => now_ok p t (by omega) (by omega) W
      have hm2 : l.length ≤ maxLen := by omega
      have cp := fun (p : Nat) (W : World) => put_no p t A c l hm2 hok W
      have CN := Lib.hid cn; have CP := Lib.hid cp; clear cn cp h0 h1 hok
      go_enter Try.func5, Try.ntmps5
      go_wp2_with (first | (go_at_call 15; refine (lnew _).mono ?_; rintro e w1 ⟨rfl, rfl⟩) | (go_at_call 16; refine (CN.out _ _ (by simp) (by simp) (by simp) (by simp) (by simp)).mono ?_; rintro e w2 ⟨rfl, ⟨c0, c2⟩, hb2⟩; have hb3 : Below w.heap.size w w2 := (bal1 w _).trans hb2; have hl2 : w.heap.size < w2.heap.size := lt_of_cell c0) | (go_at_call 17; refine (CP.out _ _ (hA.below hb3 (Nat.le_refl _)) hl2 c0).mono ?_; rintro e w4 ⟨⟨E, rfl⟩, hb4⟩; have c4 := (hb4.cell (p := ⟨w.heap.size, 2, none⟩) hl2).trans c2; have hb5 := bcl hb3 hb4) | (go_at_call 18; refine (lcount _ _ c4).mono ?_; rintro e w5 ⟨rfl, rfl⟩))
      go_ret
      exact ⟨rfl, (by repeat (first | exact Below.refl _ _ | assumption | refine bal ?_ _ | refine bdn ?_ _ | refine bdr ?_ | refine bcl ?_ (by assumption)))⟩

/-! ### the row's frame -/
theorem own : ownKnob Try.prog.godebug = none := by kernel_rfl
theorem laidOut : laidOutB Try.prog = true := by kernel_rfl

set_option maxRecDepth 100000 in
theorem lifted (os : Os) (started : os.Started) (H : Type) (enc : TypeId × Value → H) :
    ReturnsInHanded {} Try.checked os 5 .any (Rows.leaseFirstSpec.pre6 enc Try.prog Try.f5 Rows.leaseFirstRow.domain false) (Rows.leaseFirstSpec.post enc Try.prog Try.f5 false true false false) := by
  refine returnsInHanded_of_change (C := Try.checked) own started (by kernel_rfl) Try.func5
    (ChangeSpec.witness6 (enc := enc) (C := Try.checked) false ⟨#[], #[.slice none 0 0, .int .i64 0], []⟩ 8 (by kernel_rfl) (by kernel_rfl) (by kernel_rfl) (by kernel_rfl)) ?_
  intro W base args ds gs before hval0 hW hcnd _
  have hval : ∀ (j : Nat) t v, Try.f5.params[j]? = some t → args[j]? = some v → Value.okWide Try.prog W .any base t v := hval0
  have hW' := hW
  obtain ⟨p, q, hA0, hV, rfl, hfz, hnd⟩ := hW
  have hA : DataW.TrodAll enc Try.prog W 0 (fun _ => true) true Try.f5.params.toList args.toList ds p := hA0
  rw [Try.params5] at hA hval
  obtain ⟨v0, vs0, d0, ds0, p0, q0, hargs, rfl, rfl, h0, r0⟩ := trodAll_cons hA
  obtain ⟨v1, vs1, d1, ds1, p1, q1, rfl, rfl, rfl, h1, r1⟩ := trodAll_cons r0
  obtain ⟨rfl, rfl, rfl⟩ := trodAll_nil r1
  obtain rfl : args = #[v0, v1] := by cases args; simp_all
  obtain ⟨rfl, rfl⟩ := trodVars_none hV
  have k0 := h0
  have lt0 : ∀ x ∈ p0, x.block < W.heap.size := by obtain ⟨m, hm⟩ := k0; exact DataW.trod_lt m _ _ _ hm
  obtain ⟨A0, c0, x0, rfl, hc0, hm0, hA0, w0⟩ := arg_Vals Try.underlying32 Try.underlying23 (by kernel_rfl) (by kernel_rfl) Try.underlying3 Try.underlying3 Try.underlying9 (hval 0 32 v0 rfl rfl) h0
  have k1 := h1
  have lt1 : ∀ x ∈ p1, x.block < W.heap.size := by obtain ⟨m, hm⟩ := k1; exact DataW.trod_lt m _ _ _ hm
  obtain ⟨x1, rfl, w1⟩ := arg_int Try.underlying3 (hval 1 3 v1 rfl rfl) h1
  clear hA0 hval0
  refine (walk W A0 c0 x0 hc0 hm0 hA0 w0 x1 w1).mono fun e W' ⟨he, bel⟩ => ?_
  subst he
  exact ⟨_, rfl, _, _, _, [], _, [], hW', trodAll_mk1 (shut_bool Try.underlying4 _), (trodAll_cons_mk (Below.trod laidOut (by kernel_rfl) (of_decide_eq_true (by kernel_rfl)) k0 bel lt0) (trodAll_cons_mk (Below.trod laidOut (by kernel_rfl) (of_decide_eq_true (by kernel_rfl)) k1 bel lt1) trodAll_mk0)), rfl, bel.frame _, fun h => by cases h⟩

theorem over : Rows.leaseFirstRow.holds Try.pinned (OpenSpec.ofChange Rows.leaseFirstSpec) :=
  OpenClaim.holds_of_wide 5 Try.f5 rfl rfl rfl rfl rfl rfl rfl ⟨rfl, rfl, rfl, rfl, rfl⟩ rfl rfl rfl rfl rfl (by kernel_rfl) Try.func5 (by kernel_rfl)
    (of_decide_eq_true (by kernel_rfl)) (by unfold Func.isWrapper; first | (rw [if_pos (by decide +kernel)]; kernel_rfl) | (rw [if_neg (by decide +kernel)]; exact ⟨rfl, rfl⟩))
    (fun os started H enc _ => lifted os started H enc)

theorem proved : Rows.LeaseFirstSaid := over
#print axioms proved

end Go.Proofs.Ythpemlhlgjdnkaa.leaseFirst
