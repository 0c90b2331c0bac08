/- tuple.Is, Fits; slices.Clone of values: what each returns. -/
import Derived.Test.YtfelefkmbbfdjaaGreatDoorTuple
import Derived.Lib.BufferMore
namespace Go.Proofs.YtfelefkmbbfdjaaGreatDoor
open Go.RowKit
set_option linter.unusedVariables false

/-- is a tuple what is asked for? -/
def fitB (a t : List Va) : Bool := decide (a.length = t.length ∧ ∀ i, i < t.length → likB (va a i) (va t i) = true)
theorem fitB_true {a t : List Va} : fitB a t = true ↔ a.length = t.length ∧ ∀ i, i < t.length → likB (va a i) (va t i) = true := by simp [fitB]
set_option maxHeartbeats 400000 in
theorem vaeq_any (A : Option Addr) (c : Nat) (a : List Va) (B : Option Addr) (d : Nat) (t : List Va) (hm : a.length ≤ maxLen) (w : World) (hA : Vals w A a) (hB : Vals w B t) :
    Calls Tryz.prog 129 #[.slice A a.length c, .slice B t.length d, .func (.func 130) #[] #[]] w fun e w' => e = .returned (.bool (fitB a t)) ∧ Below w.heap.size w w' := by
  unfold maxLen at hm
  by_cases hl : a.length = t.length
  · have hne : ((a.length : Int) != (t.length : Int)) = false := by simp [hl]
    have HL := Lib.hid hl; clear hl
    go_enter Tryz.func129, Tryz.ntmps129
    go_wp2_with fail
    go_loopw [7, 17] (fun _ i wr => ∃ k : Nat, k ≤ a.length ∧ i = .int .i64 k ∧ Hid (∀ j, j < k → likB (va a j) (va t j) = true) ∧ Below w.heap.size w wr) (fun _ i _ => a.length - (intOf i).toNat)
    case atStart => exact ⟨0, Nat.zero_le _, rfl, fun j hj => absurd hj (by omega), (by repeat (first | exact Below.refl _ _ | assumption | refine bal ?_ _ | refine bdn ?_ _ | refine bdr ?_ | refine bcl ?_ (by assumption)))⟩
    case round =>
      obtain ⟨k, hk, rfl, he, hb⟩ := hrel
      by_cases hlt : k < a.length
      · have hlt2 : k < t.length := by have := HL.out; omega
        obtain ⟨b1, o1, rfl, hbl1, x0, x1, x2⟩ := (hA.below hb (Nat.le_refl _)).at_ hlt
        obtain ⟨b2, o2, rfl, hbl2, y0, y1, y2⟩ := (hB.below hb (Nat.le_refl _)).at_ hlt2
        have hlt3 : (k : Int) < t.length := by omega
        have hcl : ∀ W, Calls Tryz.prog 130 #[.agg #[.int .i64 (va a k).k, .int .i64 (va a k).n, .string (va a k).s], .agg #[.int .i64 (va t k).k, .int .i64 (va t k).n, .string (va t k).s]] W fun e w' => e = .returned (.bool (likB (va a k) (va t k))) ∧ Below W.heap.size W w' := fun W => vlike_any _ _ _ _ _ _ W
        cases hq : likB (va a k) (va t k) with
        | true =>
          rw [hq] at hcl
          have he2 : ∀ j, j < k + 1 → likB (va a j) (va t j) = true := fun j hj => by
            by_cases ej : j = k
            · rw [ej]; exact hq
            · exact he.out j (by omega)
          have HE := Lib.hid he2; have C := Lib.hid hcl; clear he2 hcl hq
          go_wp2_with fail
          refine (C.out _).mono ?_
          rintro e w2 ⟨rfl, hb2⟩
          go_wp2_with fail
          go_roundw
          case rel => exact ⟨k + 1, by omega, by go_num, HE, bcl (bal (bal hb _) _) hb2⟩
          case measure => simp [intOf]; omega
        | false =>
          rw [hq] at hcl
          have hv : fitB a t = false := by
            rw [← Bool.not_eq_true, fitB_true]
            intro h; have := h.2 k hlt2; rw [hq] at this; cases this
          have HV := Lib.hid hv; have C := Lib.hid hcl; clear hv hcl hq
          go_wp2_with fail
          refine (C.out _).mono ?_
          rintro e w2 ⟨rfl, hb2⟩
          go_wp2_with fail
          rw [HV.out]
          go_ret
          exact ⟨rfl, bcl (bal (bal hb _) _) hb2⟩
      · obtain rfl : k = a.length := by omega
        have hv : fitB a t = true := fitB_true.2 ⟨HL.out, fun i hi => he.out i (by have := HL.out; omega)⟩
        have HV := Lib.hid hv; clear hv
        go_wp2_with fail
        rw [HV.out]
        go_ret
        exact ⟨rfl, hb⟩
  · have hne : ((a.length : Int) != (t.length : Int)) = true := by rw [bne_iff_ne]; omega
    have hv : fitB a t = false := by rw [← Bool.not_eq_true, fitB_true]; exact fun h => hl h.1
    have HV := Lib.hid hv; clear hv hl
    go_enter Tryz.func129, Tryz.ntmps129
    go_wp2_with fail
    rw [HV.out]
    go_ret
    exact ⟨rfl, (by repeat (first | exact Below.refl _ _ | assumption | refine bal ?_ _ | refine bdn ?_ _ | refine bdr ?_ | refine bcl ?_ (by assumption)))⟩
theorem tis_any (A : Option Addr) (c : Nat) (a : List Va) (B : Option Addr) (d : Nat) (t : List Va) (hm : a.length ≤ maxLen) (w : World) (hA : Vals w A a) (hB : Vals w B t) :
    Calls Tryz.prog 109 #[.slice A a.length c, .slice B t.length d] w fun e w' => e = .returned (.bool (fitB a t)) ∧ Below w.heap.size w w' := by
  have hc := vaeq_any A c a B d t hm w hA hB
  generalize fitB a t = V at *
  have HC := Lib.hid hc; clear hc
  go_enter Tryz.func109, Tryz.ntmps109
  go_wp2_with fail
  refine HC.out.mono ?_
  rintro e w1 ⟨rfl, hb1⟩
  go_wp2_with fail
  go_ret
  exact ⟨rfl, hb1⟩
/-- what is wrong when it is asked whether a tuple fits -/
def tfE (a t : List Va) : Int := if liE a ≠ 0 then liE a else tuE t
set_option maxHeartbeats 400000 in
theorem clone_any (A : Option Addr) (c : Nat) (l : List Va) (h0 : 0 < l.length) (hm : l.length * 32 ≤ 140737488355328) (w : World) (hA : Vals w A l) :
    Calls Tryz.prog 40 #[.slice A l.length c] w fun e w' => ∃ A' c', e = .returned (.slice A' l.length c') ∧ OVals w' w.heap.size A' c' l ∧ Below w.heap.size w w' := by
  obtain ⟨b, off, rfl, _⟩ := hA h0
  have hnil := fun w => Lib.run_eql_slice_some_nil (P := Tryz.prog) w (t := 32) (e := 31) ⟨b, off, none⟩ l.length c Tryz.underlying32
  go_enter Tryz.func40, Tryz.ntmps40
  go_wp2_with (at_builtin; refine wpList_append_vals rfl _ _ rfl w.heap.size (some ⟨w.heap.size, 0, none⟩) 0 [] rfl (OVals.empty w rfl (Nat.le_refl _)) _ _ l rfl (Sl.alloc hA _) (by simpa using hm) (by simp) ?_; intro A1 c1 w1 ho1 hb1)
  go_wp2_with fail
  go_ret
  exact ⟨A1, c1, by simp, by simpa using ho1, (bal1 w _).trans hb1⟩
end Go.Proofs.YtfelefkmbbfdjaaGreatDoor
