/- The reference's Order: what it returns. -/
import Derived.Test.YtamndgeeibfmhaaDoorVOrder
import Derived.Test.YtamndgeeibfmhaaDoorRRd
import Derived.Deep.QuietTactic
import Derived.BigQuiet
namespace Go.Proofs.YtamndgeeibfmhaaDoor
open Go.RowKit
set_option linter.unusedVariables false

theorem cb_drop {l r : List UInt8} {j : Nat} {a b : UInt8} (ha : l[j]? = some a) (hb : r[j]? = some b) : Lib.compareBytes (l.drop j) (r.drop j) = if a < b then -1 else if b < a then 1 else Lib.compareBytes (l.drop (j + 1)) (r.drop (j + 1)) := by
  have h1 : l.drop j = a :: l.drop (j + 1) := by
    obtain ⟨hl, e⟩ := List.getElem?_eq_some_iff.1 ha
    rw [← e, List.drop_eq_getElem_cons hl]
  have h2 : r.drop j = b :: r.drop (j + 1) := by
    obtain ⟨hl, e⟩ := List.getElem?_eq_some_iff.1 hb
    rw [← e, List.drop_eq_getElem_cons hl]
  rw [h1, h2]
  simp only [Lib.compareBytes]
theorem cb_end {l r : List UInt8} {j : Nat} (hj : j ≤ l.length ∧ j ≤ r.length) (h : j = l.length ∨ j = r.length) : Lib.compareBytes (l.drop j) (r.drop j) = if l.length < r.length then -1 else if r.length < l.length then 1 else 0 := by
  rcases h with e | e
  · rw [show l.drop j = [] from List.drop_eq_nil_of_le (by omega)]
    by_cases h2 : l.length < r.length
    · obtain ⟨b, t, hb⟩ : ∃ b t, r.drop j = b :: t := by
        cases hd : r.drop j with
        | nil => have := congrArg List.length hd; rw [List.length_drop, List.length_nil] at this; omega
        | cons b t => exact ⟨b, t, rfl⟩
      rw [hb, if_pos h2]; rfl
    · rw [show r.drop j = [] from List.drop_eq_nil_of_le (by omega), if_neg h2, if_neg (by omega)]; rfl
  · rw [show r.drop j = [] from List.drop_eq_nil_of_le (by omega)]
    by_cases h2 : r.length < l.length
    · obtain ⟨b, t, hb⟩ : ∃ b t, l.drop j = b :: t := by
        cases hd : l.drop j with
        | nil => have := congrArg List.length hd; rw [List.length_drop, List.length_nil] at this; omega
        | cons b t => exact ⟨b, t, rfl⟩
      rw [hb, if_neg (by omega), if_pos h2]; rfl
    · rw [show l.drop j = [] from List.drop_eq_nil_of_le (by omega), if_neg (by omega), if_neg h2]; rfl
set_option maxHeartbeats 1600000 in
set_option maxRecDepth 100000 in
theorem rorder_any (k n : Int) (s : ByteArray) (k2 n2 : Int) (s2 : ByteArray) (hs : s.size ≤ maxLen) (hs2 : s2.size ≤ maxLen) (w : World) :
    Calls Tryd.prog 14 #[.agg #[.int .i64 k, .int .i64 n, .string s], .agg #[.int .i64 k2, .int .i64 n2, .string s2]] w fun e w' => e = .returned (.int .i64 (ordI ⟨k, n, s⟩ ⟨k2, n2, s2⟩)) ∧ Below w.heap.size w w' := by
  unfold maxLen at hs hs2
  by_cases h1 : k = k2
  · by_cases h2 : n = n2
    · subst h1; subst h2
      have q1 : (k != k) = false := by simp
      have q2 : (n != n) = false := by simp
      have hv : ordI ⟨k, n, s⟩ ⟨k, n, s2⟩ = Lib.compareBytes s.data.toList s2.data.toList := by
        rw [ordI]; simp [or3, cmpI]
      rw [hv]
      clear hv
      obtain ⟨z, hz⟩ : ∃ z, Lib.compareBytes s.data.toList s2.data.toList = z := ⟨_, rfl⟩
      rw [hz]
      have HZ := Lib.hid hz
      clear hz
      go_enter Tryd.func14, Tryd.ntmps14
      go_wp2_with fail
      go_loopw [5] (fun i wr => ∃ j : Nat, j ≤ s.size ∧ j ≤ s2.size ∧ i = .int .i64 j ∧ wr.cell? ⟨w.heap.size, 2, none⟩ = some (.string s) ∧ wr.cell? ⟨w.heap.size + 1, 2, none⟩ = some (.string s2) ∧ Hid (Lib.compareBytes (s.data.toList.drop j) (s2.data.toList.drop j) = z) ∧ Hid (Below w.heap.size w wr)) (fun i _ => s.size - (intOf i).toNat)
      case atStart => exact ⟨0, Nat.zero_le _, Nat.zero_le _, rfl, by simp, by simp, HZ, Lib.hid (by repeat (first | exact Below.refl _ _ | assumption | refine bal ?_ _ | refine bdn ?_ _ | refine bdr ?_ | refine bcl ?_ (by assumption)))⟩
      case round =>
        obtain ⟨j, hj, hj2, rfl, c1, c2, HC, HB⟩ := hrel
        have j0 : (0 : Int) ≤ (j : Int) := by omega
        by_cases hlt : j < s.size ∧ j < s2.size
        · obtain ⟨l1, l2⟩ := hlt
          have i1 : (j : Int) < (s.size : Nat) := by omega
          have i2 : (j : Int) < (s2.size : Nat) := by omega
          have hc := cb_drop (list_at l1) (list_at l2)
          rw [HC.out] at hc
          by_cases e : s[j] = s2[j]
          · have q : (((s[j]'l1).toNat : Int) != ((s2[j]'l2).toNat : Int)) = false := by rw [e]; simp
            rw [if_neg (by rw [e]; exact UInt8.lt_irrefl _), if_neg (by rw [e]; exact UInt8.lt_irrefl _)] at hc
            have HC2 := Lib.hid hc.symm
            clear hc e
            go_wp2_with fail
            go_quiet (fail)
            go_wp2_with fail
            go_roundw
            case rel => exact ⟨j + 1, by omega, by omega, by go_num, c1, c2, HC2, Lib.hid (bdn HB.out _)⟩
            case measure => simp [intOf]; omega
          · have q : (((s[j]'l1).toNat : Int) != ((s2[j]'l2).toNat : Int)) = true := by
              rw [bne_iff_ne]; exact fun h => e (UInt8.toNat_inj.1 (by omega))
            by_cases l : (s[j]'l1).toNat < (s2[j]'l2).toNat
            · rw [if_pos (UInt8.lt_iff_toNat_lt.2 l)] at hc
              have l3 : (s[j]'l1).toNat < (s2[j]'l2).toNat := l
              have HC2 := Lib.hid hc
              clear hc e l
              go_wp2_with fail
              go_quiet (fail)
              go_wp2_with fail
              go_quiet (fail)
              go_wp2_with fail
              go_ret
              exact ⟨by rw [HC2.out]; rfl, by first | exact bdn (bdn HB.out _) _ | exact bdn HB.out _ | exact HB.out⟩
            · rw [if_neg (fun h => l (UInt8.lt_iff_toNat_lt.1 h)), if_pos (UInt8.lt_iff_toNat_lt.2 (by have : (s[j]'l1).toNat ≠ (s2[j]'l2).toNat := fun h => e (UInt8.toNat_inj.1 h); omega))] at hc
              have l3 : decide ((s[j]'l1).toNat < (s2[j]'l2).toNat) = false := by simp; omega
              have HC2 := Lib.hid hc
              clear hc e l
              go_wp2_with fail
              go_quiet (fail)
              go_wp2_with fail
              go_quiet (fail)
              go_wp2_with fail
              go_ret
              exact ⟨by rw [HC2.out]; rfl, by first | exact bdn (bdn HB.out _) _ | exact bdn HB.out _ | exact HB.out⟩
        · have hc := cb_end (l := s.data.toList) (r := s2.data.toList) (j := j) ⟨by rw [Array.length_toList]; exact hj, by rw [Array.length_toList]; exact hj2⟩ (by rw [Array.length_toList, Array.length_toList]; show j = s.size ∨ j = s2.size; omega)
          rw [HC.out, show s.data.toList.length = s.size from Array.length_toList, show s2.data.toList.length = s2.size from Array.length_toList] at hc
          have HC2 := Lib.hid hc
          have hx : (decide (j < s.size) = false) ∨ (decide (j < s.size) = true ∧ decide (j < s2.size) = false) := by
            simp only [decide_eq_false_iff_not, decide_eq_true_eq]; omega
          clear hc HC hlt
          by_cases e1 : s.size < s2.size
          · have f1 : ((s.size : Int) != (s2.size : Int)) = true := by rw [bne_iff_ne]; omega
            have f2 : s.size < s2.size := e1
            have HV := Lib.hid (HC2.out.trans (if_pos e1))
            clear e1
            rcases hx with x1 | ⟨x1, x2⟩
            all_goals
              go_wp2_with fail
              go_ret
              exact ⟨by rw [HV.out]; rfl, HB.out⟩
          · by_cases e2 : s2.size < s.size
            · have f1 : ((s.size : Int) != (s2.size : Int)) = true := by rw [bne_iff_ne]; omega
              have f2 : decide (s.size < s2.size) = false := by simp; omega
              have HV := Lib.hid (HC2.out.trans ((if_neg e1).trans (if_pos e2)))
              clear e1 e2
              rcases hx with x1 | ⟨x1, x2⟩
              all_goals
                go_wp2_with fail
                go_ret
                exact ⟨by rw [HV.out]; rfl, HB.out⟩
            · have f1 : ((s.size : Int) != (s2.size : Int)) = false := by
                have : s.size = s2.size := by omega
                rw [this]; simp
              have HV := Lib.hid (HC2.out.trans ((if_neg e1).trans (if_neg e2)))
              clear e1 e2
              rcases hx with x1 | ⟨x1, x2⟩
              all_goals
                go_wp2_with fail
                go_ret
                exact ⟨by rw [HV.out]; rfl, HB.out⟩
    · subst h1
      have q1 : (k != k) = false := by simp
      have q2 : (n != n2) = true := by rw [bne_iff_ne]; exact h2
      by_cases l : n < n2
      · have hv : ordI ⟨k, n, s⟩ ⟨k, n2, s2⟩ = -1 := by rw [ordI]; simp [or3, cmpI, l]
        rw [hv]
        clear hv h2
        go_enter Tryd.func14, Tryd.ntmps14
        go_wp2_with fail
        go_ret
        exact ⟨rfl, (by repeat (first | exact Below.refl _ _ | assumption | refine bal ?_ _ | refine bdn ?_ _ | refine bdr ?_ | refine bcl ?_ (by assumption)))⟩
      · have l2 : n2 < n := by omega
        have hv : ordI ⟨k, n, s⟩ ⟨k, n2, s2⟩ = 1 := by rw [ordI]; simp [or3, cmpI, l, l2]
        rw [hv]
        have l3 : decide (n < n2) = false := by simp; omega
        clear hv h2 l l2
        go_enter Tryd.func14, Tryd.ntmps14
        go_wp2_with fail
        go_ret
        exact ⟨rfl, (by repeat (first | exact Below.refl _ _ | assumption | refine bal ?_ _ | refine bdn ?_ _ | refine bdr ?_ | refine bcl ?_ (by assumption)))⟩
  · have q1 : (k != k2) = true := by rw [bne_iff_ne]; exact h1
    by_cases l : k < k2
    · have hv : ordI ⟨k, n, s⟩ ⟨k2, n2, s2⟩ = -1 := by rw [ordI]; simp [or3, cmpI, l]
      rw [hv]
      clear hv h1
      go_enter Tryd.func14, Tryd.ntmps14
      go_wp2_with fail
      go_ret
      exact ⟨rfl, (by repeat (first | exact Below.refl _ _ | assumption | refine bal ?_ _ | refine bdn ?_ _ | refine bdr ?_ | refine bcl ?_ (by assumption)))⟩
    · have l2 : k2 < k := by omega
      have hv : ordI ⟨k, n, s⟩ ⟨k2, n2, s2⟩ = 1 := by rw [ordI]; simp [or3, cmpI, l, l2]
      rw [hv]
      have l3 : decide (k < k2) = false := by simp; omega
      clear hv h1 l l2
      go_enter Tryd.func14, Tryd.ntmps14
      go_wp2_with fail
      go_ret
      exact ⟨rfl, (by repeat (first | exact Below.refl _ _ | assumption | refine bal ?_ _ | refine bdn ?_ _ | refine bdr ?_ | refine bcl ?_ (by assumption)))⟩
end Go.Proofs.YtamndgeeibfmhaaDoor
