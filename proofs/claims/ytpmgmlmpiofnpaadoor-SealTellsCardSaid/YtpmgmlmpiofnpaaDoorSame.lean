/- tuplesame.Ints and Shares: are two lists the same? -/
import Derived.Test.YtpmgmlmpiofnpaaDoorOwn
import Derived.Deep.QuietTactic
import Derived.BigQuiet
namespace Go.Proofs.YtpmgmlmpiofnpaaDoor
open Go.RowKit
set_option linter.unusedVariables false

theorem gi_ext {a b : List Int} (hl : a.length = b.length) (h : ∀ i, i < a.length → gi a i = gi b i) : a = b := by
  refine List.ext_getElem hl fun i h1 h2 => ?_
  have := h i h1
  simpa [gi, h1, h2] using this
theorem sh_ext {a b : List Sh} (hl : a.length = b.length) (h : ∀ i, i < a.length → ga a i = ga b i ∧ gb a i = gb b i) : a = b := by
  refine List.ext_getElem hl fun i h1 h2 => ?_
  obtain ⟨h3, h4⟩ := h i h1
  simp [ga, gb, h1, h2] at h3 h4
  exact Prod.ext h3 h4

set_option maxHeartbeats 800000 in
theorem same_ints (A B : Option Addr) (c d : Nat) (a b : List Int) (w : World) (hA : Ints w A a) (hB : Ints w B b) (hm : a.length ≤ maxLen) :
    Calls Tryd.prog 26 #[.slice A a.length c, .slice B b.length d] w fun e w' => e = .returned (.bool (decide (a = b))) ∧ Below w.heap.size w w' := by
  unfold maxLen at hm
  by_cases hl : a.length = b.length
  · have hne : ((a.length : Int) != (b.length : Int)) = false := by simp [hl]
    have HL := Lib.hid hl; clear hl
    go_enter Tryd.func26, Tryd.ntmps26
    go_wp2_with fail
    go_loopw [5] (fun i wr => ∃ k : Nat, k ≤ a.length ∧ i = .int .i64 k ∧ Below w.heap.size w wr ∧ Hid (∀ j, j < k → gi a j = gi b j)) (fun i _ => a.length - (intOf i).toNat)
    case atStart => exact ⟨0, Nat.zero_le _, rfl, Below.refl _ _, fun j hj => absurd hj (by omega)⟩
    case round =>
      obtain ⟨k, hk, rfl, hb, he⟩ := hrel
      by_cases hlt : k < a.length
      · have hlt2 : k < b.length := by have := HL.out; omega
        have q1 : (0 : Int) ≤ k := by omega
        have q2 : (k : Int) < a.length := by omega
        have q3 : (k : Int) < b.length := by omega
        obtain ⟨g1, o1, rfl, _, h1⟩ := (hA.below hb (Nat.le_refl _)).at_ hlt
        obtain ⟨g2, o2, rfl, _, h2⟩ := (hB.below hb (Nat.le_refl _)).at_ hlt2
        by_cases e : gi a k = gi b k
        · have hq : (gi a k != gi b k) = false := by simp [e]
          have he2 : ∀ j, j < k + 1 → gi a j = gi b j := fun j hj => by
            by_cases ej : j = k
            · rw [ej]; exact e
            · exact he.out j (by omega)
          have HE := Lib.hid he2; clear he2 e
          go_wp2_with fail
          go_quiet (fail)
          go_wp2_with fail
          go_roundw
          case rel => exact ⟨k + 1, by omega, by go_num, bdn hb _, HE⟩
          case measure => simp [intOf]; omega
        · have hq : (gi a k != gi b k) = true := by simp [e]
          have hv : decide (a = b) = false := decide_eq_false fun h => e (by rw [h])
          have HV := Lib.hid hv; clear hv e
          go_wp2_with fail
          go_quiet (fail)
          go_wp2_with fail
          rw [HV.out]
          go_ret
          exact ⟨rfl, (by repeat (first | exact Below.refl _ _ | assumption | refine bal ?_ _ | refine bdn ?_ _ | refine bdr ?_ | refine bcl ?_ (by assumption)))⟩
      · obtain rfl : k = a.length := by omega
        have hv : decide (a = b) = true := decide_eq_true (gi_ext HL.out he.out)
        have HV := Lib.hid hv; clear hv
        go_wp2_with fail
        rw [HV.out]
        go_ret
        exact ⟨rfl, (by repeat (first | exact Below.refl _ _ | assumption | refine bal ?_ _ | refine bdn ?_ _ | refine bdr ?_ | refine bcl ?_ (by assumption)))⟩
  · have hne : ((a.length : Int) != (b.length : Int)) = true := by rw [bne_iff_ne]; omega
    have hv : decide (a = b) = false := decide_eq_false fun h => hl (by rw [h])
    have HV := Lib.hid hv; clear hv hl
    go_enter Tryd.func26, Tryd.ntmps26
    go_wp2_with fail
    rw [HV.out]
    go_ret
    exact ⟨rfl, (by repeat (first | exact Below.refl _ _ | assumption | refine bal ?_ _ | refine bdn ?_ _ | refine bdr ?_ | refine bcl ?_ (by assumption)))⟩

set_option maxHeartbeats 800000 in
theorem same_shares (A B : Option Addr) (c d : Nat) (a b : List Sh) (w : World) (hA : Shares w A a) (hB : Shares w B b) (hm : a.length ≤ maxLen) :
    Calls Tryd.prog 38 #[.slice A a.length c, .slice B b.length d] w fun e w' => e = .returned (.bool (decide (a = b))) ∧ Below w.heap.size w w' := by
  unfold maxLen at hm
  by_cases hl : a.length = b.length
  · have hne : ((a.length : Int) != (b.length : Int)) = false := by simp [hl]
    have HL := Lib.hid hl; clear hl
    go_enter Tryd.func38, Tryd.ntmps38
    go_wp2_with fail
    go_loopw [5] (fun i wr => ∃ k : Nat, k ≤ a.length ∧ i = .int .i64 k ∧ Below w.heap.size w wr ∧ Hid (∀ j, j < k → ga a j = ga b j ∧ gb a j = gb b j)) (fun i _ => a.length - (intOf i).toNat)
    case atStart => exact ⟨0, Nat.zero_le _, rfl, Below.refl _ _, fun j hj => absurd hj (by omega)⟩
    case round =>
      obtain ⟨k, hk, rfl, hb, he⟩ := hrel
      by_cases hlt : k < a.length
      · have hlt2 : k < b.length := by have := HL.out; omega
        have q1 : (0 : Int) ≤ k := by omega
        have q2 : (k : Int) < a.length := by omega
        have q3 : (k : Int) < b.length := by omega
        obtain ⟨g1, o1, rfl, _, h1, h1'⟩ := (hA.below hb (Nat.le_refl _)).at_ hlt
        obtain ⟨g2, o2, rfl, _, h2, h2'⟩ := (hB.below hb (Nat.le_refl _)).at_ hlt2
        by_cases e1 : ga a k = ga b k
        · by_cases e2 : gb a k = gb b k
          · have hq : (ga a k == ga b k) = true := by simp [e1]
            have hq2 : (gb a k == gb b k) = true := by simp [e2]
            have he2 : ∀ j, j < k + 1 → ga a j = ga b j ∧ gb a j = gb b j := fun j hj => by
              by_cases ej : j = k
              · rw [ej]; exact ⟨e1, e2⟩
              · exact he.out j (by omega)
            have HE := Lib.hid he2; clear he2 e1 e2
            go_wp2_with fail
            go_quiet (fail)
            go_wp2_with fail
            go_roundw
            case rel => exact ⟨k + 1, by omega, by go_num, bdn hb _, HE⟩
            case measure => simp [intOf]; omega
          · have hq : (ga a k == ga b k) = true := by simp [e1]
            have hq2 : (gb a k == gb b k) = false := by simp [e2]
            have hv : decide (a = b) = false := decide_eq_false fun h => e2 (by rw [h])
            have HV := Lib.hid hv; clear hv e1 e2
            go_wp2_with fail
            go_quiet (fail)
            go_wp2_with fail
            rw [HV.out]
            go_ret
            exact ⟨rfl, (by repeat (first | exact Below.refl _ _ | assumption | refine bal ?_ _ | refine bdn ?_ _ | refine bdr ?_ | refine bcl ?_ (by assumption)))⟩
        · have hq : (ga a k == ga b k) = false := by simp [e1]
          have hv : decide (a = b) = false := decide_eq_false fun h => e1 (by rw [h])
          have HV := Lib.hid hv; clear hv e1
          go_wp2_with fail
          go_quiet (fail)
          go_wp2_with fail
          rw [HV.out]
          go_ret
          exact ⟨rfl, (by repeat (first | exact Below.refl _ _ | assumption | refine bal ?_ _ | refine bdn ?_ _ | refine bdr ?_ | refine bcl ?_ (by assumption)))⟩
      · obtain rfl : k = a.length := by omega
        have hv : decide (a = b) = true := decide_eq_true (sh_ext HL.out he.out)
        have HV := Lib.hid hv; clear hv
        go_wp2_with fail
        rw [HV.out]
        go_ret
        exact ⟨rfl, (by repeat (first | exact Below.refl _ _ | assumption | refine bal ?_ _ | refine bdn ?_ _ | refine bdr ?_ | refine bcl ?_ (by assumption)))⟩
  · have hne : ((a.length : Int) != (b.length : Int)) = true := by rw [bne_iff_ne]; omega
    have hv : decide (a = b) = false := decide_eq_false fun h => hl (by rw [h])
    have HV := Lib.hid hv; clear hv hl
    go_enter Tryd.func38, Tryd.ntmps38
    go_wp2_with fail
    rw [HV.out]
    go_ret
    exact ⟨rfl, (by repeat (first | exact Below.refl _ _ | assumption | refine bal ?_ _ | refine bdn ?_ _ | refine bdr ?_ | refine bcl ?_ (by assumption)))⟩
end Go.Proofs.YtpmgmlmpiofnpaaDoor
