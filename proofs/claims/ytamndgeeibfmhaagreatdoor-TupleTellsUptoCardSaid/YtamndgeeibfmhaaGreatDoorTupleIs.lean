/- tuple.Is, Fits; slices.Clone of values: what each returns. -/
import Derived.Test.YtamndgeeibfmhaaGreatDoorTuple
import Derived.Lib.BufferMore
namespace Go.Proofs.YtamndgeeibfmhaaGreatDoor
open Go.RowKit
set_option linter.unusedVariables false

/-- is a tuple what is asked for? -/
def fitB (a t : List Va) : Bool := decide (a.length = t.length ∧ ∀ i, i < t.length → likB (va a i) (va t i) = true)
theorem fitB_true {a t : List Va} : fitB a t = true ↔ a.length = t.length ∧ ∀ i, i < t.length → likB (va a i) (va t i) = true := by simp [fitB]
set_option maxHeartbeats 400000 in
theorem vaeq_any (A : Option Addr) (c : Nat) (a : List Va) (B : Option Addr) (d : Nat) (t : List Va) (hm : a.length ≤ maxLen) (w : World) (hA : Vals w A a) (hB : Vals w B t) :
    Calls Tryz.prog 34 #[.slice A a.length c, .slice B t.length d, .func (.func 35) #[] #[]] w fun e w' => e = .returned (.bool (fitB a t)) ∧ Below w.heap.size w w' := by
  unfold maxLen at hm
  by_cases hl : a.length = t.length
  · have hne : ((a.length : Int) != (t.length : Int)) = false := by simp [hl]
    have HL := Lib.hid hl; clear hl
    go_enter Tryz.func34, Tryz.ntmps34
    go_wp2_with fail
    go_loopw [7, 17] (fun _ i wr => ∃ k : Nat, k ≤ a.length ∧ i = .int .i64 k ∧ Hid (∀ j, j < k → likB (va a j) (va t j) = true) ∧ Below w.heap.size w wr) (fun _ i _ => a.length - (intOf i).toNat)
    case atStart => exact ⟨0, Nat.zero_le _, rfl, fun j hj => absurd hj (by omega), (by repeat (first | exact Below.refl _ _ | assumption | refine bal ?_ _ | refine bdn ?_ _ | refine bdr ?_ | refine bcl ?_ (by assumption)))⟩
    case round =>
      obtain ⟨k, hk, rfl, he, hb⟩ := hrel
      by_cases hlt : k < a.length
      · have hlt2 : k < t.length := by have := HL.out; omega
        obtain ⟨b1, o1, rfl, hbl1, x0, x1, x2⟩ := (hA.below hb (Nat.le_refl _)).at_ hlt
        obtain ⟨b2, o2, rfl, hbl2, y0, y1, y2⟩ := (hB.below hb (Nat.le_refl _)).at_ hlt2
        have hlt3 : (k : Int) < t.length := by omega
        have hcl : ∀ W, Calls Tryz.prog 35 #[.agg #[.int .i64 (va a k).k, .int .i64 (va a k).n, .string (va a k).s], .agg #[.int .i64 (va t k).k, .int .i64 (va t k).n, .string (va t k).s]] W fun e w' => e = .returned (.bool (likB (va a k) (va t k))) ∧ Below W.heap.size W w' := fun W => vlike_any _ _ _ _ _ _ W
        cases hq : likB (va a k) (va t k) with
        | true =>
          rw [hq] at hcl
          have he2 : ∀ j, j < k + 1 → likB (va a j) (va t j) = true := fun j hj => by
            by_cases ej : j = k
            · rw [ej]; exact hq
            · exact he.out j (by omega)
          have HE := Lib.hid he2; have C := Lib.hid hcl; clear he2 hcl hq
          go_wp2_with fail
          refine (C.out _).mono ?_
          rintro e w2 ⟨rfl, hb2⟩
          go_wp2_with fail
          go_roundw
          case rel => exact ⟨k + 1, by omega, by go_num, HE, bcl (bal (bal hb _) _) hb2⟩
          case measure => simp [intOf]; omega
        | false =>
          rw [hq] at hcl
          have hv : fitB a t = false := by
            rw [← Bool.not_eq_true, fitB_true]
            intro h; have := h.2 k hlt2; rw [hq] at this; cases this
          have HV := Lib.hid hv; have C := Lib.hid hcl; clear hv hcl hq
          go_wp2_with fail
          refine (C.out _).mono ?_
          rintro e w2 ⟨rfl, hb2⟩
          go_wp2_with fail
          rw [HV.out]
          go_ret
          exact ⟨rfl, bcl (bal (bal hb _) _) hb2⟩
      · obtain rfl : k = a.length := by omega
        have hv : fitB a t = true := fitB_true.2 ⟨HL.out, fun i hi => he.out i (by have := HL.out; omega)⟩
        have HV := Lib.hid hv; clear hv
        go_wp2_with fail
        rw [HV.out]
        go_ret
        exact ⟨rfl, hb⟩
  · have hne : ((a.length : Int) != (t.length : Int)) = true := by rw [bne_iff_ne]; omega
    have hv : fitB a t = false := by rw [← Bool.not_eq_true, fitB_true]; exact fun h => hl h.1
    have HV := Lib.hid hv; clear hv hl
    go_enter Tryz.func34, Tryz.ntmps34
    go_wp2_with fail
    rw [HV.out]
    go_ret
    exact ⟨rfl, (by repeat (first | exact Below.refl _ _ | assumption | refine bal ?_ _ | refine bdn ?_ _ | refine bdr ?_ | refine bcl ?_ (by assumption)))⟩
theorem tis_any (A : Option Addr) (c : Nat) (a : List Va) (B : Option Addr) (d : Nat) (t : List Va) (hm : a.length ≤ maxLen) (w : World) (hA : Vals w A a) (hB : Vals w B t) :
    Calls Tryz.prog 23 #[.slice A a.length c, .slice B t.length d] w fun e w' => e = .returned (.bool (fitB a t)) ∧ Below w.heap.size w w' := by
  have hc := vaeq_any A c a B d t hm w hA hB
  generalize fitB a t = V at *
  have HC := Lib.hid hc; clear hc
  go_enter Tryz.func23, Tryz.ntmps23
  go_wp2_with fail
  refine HC.out.mono ?_
  rintro e w1 ⟨rfl, hb1⟩
  go_wp2_with fail
  go_ret
  exact ⟨rfl, hb1⟩
/-- what is wrong when it is asked whether a tuple fits -/
def tfE (a t : List Va) : Int := if liE a ≠ 0 then liE a else tuE t
theorem tfits_any (A : Option Addr) (c : Nat) (a : List Va) (B : Option Addr) (d : Nat) (t : List Va) (hm : a.length ≤ maxLen) (hm2 : t.length ≤ maxLen) (ha : okL a) (ht : okL t) (w : World) (hA : Vals w A a) (hB : Vals w B t) :
    Calls Tryz.prog 12 #[.slice A a.length c, .slice B t.length d] w fun e w' => e = .returned (.tuple #[.bool (decide (tfE a t = 0) && fitB a t), eV (tfE a t)]) ∧ Below w.heap.size w w' := by
  have c1 := tlike_any A c a hm ha w hA
  have c2 := fun W (hW : Vals W B t) => tcheck_any B d t hm2 ht W hW
  have c3 := fun W (hW : Vals W A a) (hX : Vals W B t) => tis_any A c a B d t hm W hW hX
  by_cases h1 : liE a = 0
  · rw [h1, eV_zero] at c1
    by_cases h2 : tuE t = 0
    · have hv : tfE a t = 0 := by rw [tfE, if_neg (by simp [h1]), h2]
      rw [hv]
      rw [h2, eV_zero] at c2
      generalize fitB a t = V at *
      have C1 := Lib.hid c1; have C2 := Lib.hid c2; have C3 := Lib.hid c3; clear c1 c2 c3 hv h1 h2
      go_enter Tryz.func12, Tryz.ntmps12
      go_wp2_with (first | (go_at_call 6; refine C1.out.mono ?_; rintro e w1 ⟨rfl, hb1⟩) | (go_at_call 8; refine (C2.out _ (hB.below hb1 (Nat.le_refl _))).mono ?_; rintro e w2 ⟨rfl, hb2⟩) | (go_at_call 23; refine (C3.out _ (hA.below (bcl hb1 hb2) (Nat.le_refl _)) (hB.below (bcl hb1 hb2) (Nat.le_refl _))).mono ?_; rintro e w3 ⟨rfl, hb3⟩))
      go_ret2
      exact ⟨by simp [eV], (by repeat (first | exact Below.refl _ _ | assumption | refine bal ?_ _ | refine bdn ?_ _ | refine bdr ?_ | refine bcl ?_ (by assumption)))⟩
    · have hv : tfE a t = tuE t := by rw [tfE, if_neg (by simp [h1])]
      rw [hv, decide_eq_false h2, eV_of h2]
      rw [eV_of h2] at c2
      generalize tuE t = E at *
      have C1 := Lib.hid c1; have C2 := Lib.hid c2; clear c1 c2 c3 hv h1 h2
      go_enter Tryz.func12, Tryz.ntmps12
      go_wp2_with (first | (go_at_call 6; refine C1.out.mono ?_; rintro e w1 ⟨rfl, hb1⟩) | (go_at_call 8; refine (C2.out _ (hB.below hb1 (Nat.le_refl _))).mono ?_; rintro e w2 ⟨rfl, hb2⟩))
      go_ret2
      exact ⟨by simp, (by repeat (first | exact Below.refl _ _ | assumption | refine bal ?_ _ | refine bdn ?_ _ | refine bdr ?_ | refine bcl ?_ (by assumption)))⟩
  · have hv : tfE a t = liE a := by rw [tfE, if_pos h1]
    rw [hv, decide_eq_false h1, eV_of h1]
    rw [eV_of h1] at c1
    generalize liE a = E at *
    have C1 := Lib.hid c1; clear c1 c2 c3 hv h1
    go_enter Tryz.func12, Tryz.ntmps12
    go_wp2_with (first | (go_at_call 6; refine C1.out.mono ?_; rintro e w1 ⟨rfl, hb1⟩))
    go_ret2
    exact ⟨by simp, (by repeat (first | exact Below.refl _ _ | assumption | refine bal ?_ _ | refine bdn ?_ _ | refine bdr ?_ | refine bcl ?_ (by assumption)))⟩
end Go.Proofs.YtamndgeeibfmhaaGreatDoor
