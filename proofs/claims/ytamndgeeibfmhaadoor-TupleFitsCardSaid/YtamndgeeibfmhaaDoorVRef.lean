/- The reference's faults of a value and of a tuple; whether one fits; are two tuples the same? -/
import Derived.Test.YtamndgeeibfmhaaDoorTupleIs
import Derived.Test.YtamndgeeibfmhaaDoorNest
import Derived.Deep.QuietTactic
import Derived.BigQuiet
namespace Go.Proofs.YtamndgeeibfmhaaDoor
open Go.RowKit
set_option linter.unusedVariables false

set_option maxHeartbeats 800000 in
theorem rvalue_any (k n : Int) (s : ByteArray) (hs : s.size ≤ maxLen) (w : World) :
    Calls Tryd.prog 10 #[.agg #[.int .i64 k, .int .i64 n, .string s]] w fun e w' => e = .returned (.int .i64 (vaE ⟨k, n, s⟩)) ∧ Below w.heap.size w w' := by
  unfold maxLen at hs
  by_cases h1 : k < 0
  · have hv : vaE ⟨k, n, s⟩ = 1 := by rw [vaE, if_pos (.inl h1)]
    rw [hv]
    clear hv
    go_enter Tryd.func10, Tryd.ntmps10
    go_wp2_with fail
    go_ret
    exact ⟨rfl, (by repeat (first | exact Below.refl _ _ | assumption | refine bal ?_ _ | refine bdn ?_ _ | refine bdr ?_ | refine bcl ?_ (by assumption)))⟩
  · by_cases h2 : 2 < k
    · have hv : vaE ⟨k, n, s⟩ = 1 := by rw [vaE, if_pos (.inr (.inl h2))]
      rw [hv]
      clear hv
      go_enter Tryd.func10, Tryd.ntmps10
      go_wp2_with fail
      go_ret
      exact ⟨rfl, (by repeat (first | exact Below.refl _ _ | assumption | refine bal ?_ _ | refine bdn ?_ _ | refine bdr ?_ | refine bcl ?_ (by assumption)))⟩
    · obtain rfl | rfl | rfl : k = 0 ∨ k = 1 ∨ k = 2 := by omega
      · by_cases h3 : n < -1000000
        · have hv : vaE ⟨0, n, s⟩ = 1 := by rw [vaE, if_pos (.inr (.inr ⟨rfl, .inl h3⟩))]
          rw [hv]
          clear hv
          go_enter Tryd.func10, Tryd.ntmps10
          go_wp2_with fail
          go_ret
          exact ⟨rfl, (by repeat (first | exact Below.refl _ _ | assumption | refine bal ?_ _ | refine bdn ?_ _ | refine bdr ?_ | refine bcl ?_ (by assumption)))⟩
        · by_cases h4 : 1000000 < n
          · have hv : vaE ⟨0, n, s⟩ = 1 := by rw [vaE, if_pos (.inr (.inr ⟨rfl, .inr h4⟩))]
            rw [hv]
            clear hv
            go_enter Tryd.func10, Tryd.ntmps10
            go_wp2_with fail
            go_ret
            exact ⟨rfl, (by repeat (first | exact Below.refl _ _ | assumption | refine bal ?_ _ | refine bdn ?_ _ | refine bdr ?_ | refine bcl ?_ (by assumption)))⟩
          · by_cases h5 : 0 < s.size
            · have hv : vaE ⟨0, n, s⟩ = 3 := by rw [vaE, if_neg (by simp; omega), if_neg (by simp), if_pos (.inr (.inl ⟨by simp, h5⟩))]
              rw [hv]
              have he := emp_test h5
              clear hv
              go_enter Tryd.func10, Tryd.ntmps10
              go_wp2_with fail
              go_ret
              exact ⟨rfl, (by repeat (first | exact Below.refl _ _ | assumption | refine bal ?_ _ | refine bdn ?_ _ | refine bdr ?_ | refine bcl ?_ (by assumption)))⟩
            · obtain rfl := emp_of (show s.size = 0 by omega)
              have hv : vaE ⟨0, n, ⟨#[]⟩⟩ = 0 := by rw [vaE, if_neg (by simp; omega), if_neg (by simp), if_neg (by simp [okS_empty, ByteArray.size])]
              rw [hv]
              clear hv
              go_enter Tryd.func10, Tryd.ntmps10
              go_wp2_with fail
              refine wp_loop_rounds 1 ?_
              rw [rounds_succ]
              go_wp2_with fail
              go_ret
              exact ⟨rfl, (by repeat (first | exact Below.refl _ _ | assumption | refine bal ?_ _ | refine bdn ?_ _ | refine bdr ?_ | refine bcl ?_ (by assumption)))⟩
      · by_cases h3 : 12 < s.size
        · have hv : vaE ⟨1, n, s⟩ = 4 := by rw [vaE, if_neg (by simp), if_pos ⟨rfl, h3⟩]
          rw [hv]
          clear hv
          go_enter Tryd.func10, Tryd.ntmps10
          go_wp2_with fail
          go_ret
          exact ⟨rfl, (by repeat (first | exact Below.refl _ _ | assumption | refine bal ?_ _ | refine bdn ?_ _ | refine bdr ?_ | refine bcl ?_ (by assumption)))⟩
        · by_cases h4 : n = 0
          · subst h4
            have h12 : s.size ≤ 12 := by omega
            have hv : vaE ⟨1, 0, s⟩ = if okS s = false then 3 else 0 := by rw [vaE, if_neg (by simp), if_neg (by simp; omega)]; simp
            have HV := Lib.hid hv; clear hv
            go_enter Tryd.func10, Tryd.ntmps10
            go_wp2_with fail
            go_loopw [3] (fun i wr => ∃ j : Nat, j ≤ s.size ∧ i = .int .i64 j ∧ Hid (∀ m, m < j → letB (gB s m) = true) ∧ wr.cell? ⟨w.heap.size, 2, none⟩ = some (.string s) ∧ Below w.heap.size w wr) (fun i _ => s.size - (intOf i).toNat)
            case atStart => exact ⟨0, Nat.zero_le _, rfl, fun m hm => absurd hm (by omega), by simp, (by repeat (first | exact Below.refl _ _ | assumption | refine bal ?_ _ | refine bdn ?_ _ | refine bdr ?_ | refine bcl ?_ (by assumption)))⟩
            case round =>
              obtain ⟨j, hj, rfl, hl, hc, hb⟩ := hrel
              by_cases hlt : j < s.size
              · have hg := gB_lt hlt
                by_cases h5 : gB s j < 97
                · have ho : okS s = false := by
                    rw [← Bool.not_eq_true, okS_true]; intro h
                    have := h j hlt
                    simp [letB] at this; omega
                  rw [hg] at h5
                  have HO := Lib.hid ho; clear ho hg
                  go_wp2_with fail
                  rw [HV.out, HO.out, if_pos rfl]
                  go_ret
                  exact ⟨rfl, hb⟩
                · by_cases h6 : 122 < gB s j
                  · have ho : okS s = false := by
                      rw [← Bool.not_eq_true, okS_true]; intro h
                      have := h j hlt
                      simp [letB] at this; omega
                    rw [hg] at h5 h6
                    have HO := Lib.hid ho; clear ho hg
                    go_wp2_with fail
                    rw [HV.out, HO.out, if_pos rfl]
                    go_ret
                    exact ⟨rfl, hb⟩
                  · have hl2 : ∀ m, m < j + 1 → letB (gB s m) = true := fun m hm => by
                      by_cases e : m = j
                      · subst e; simp [letB]; omega
                      · exact hl.out m (by omega)
                    rw [hg] at h5 h6
                    have HL := Lib.hid hl2; clear hl2 hg
                    go_wp2_with fail
                    go_roundw
                    case rel => exact ⟨j + 1, by omega, by go_num, HL, hc, hb⟩
                    case measure => simp [intOf]; omega
              · obtain rfl : j = s.size := by omega
                have ho : okS s = true := okS_true.2 hl.out
                have HO := Lib.hid ho; clear ho
                go_wp2_with fail
                rw [HV.out, HO.out, if_neg (by decide)]
                go_ret
                exact ⟨rfl, hb⟩
          · have hv : vaE ⟨1, n, s⟩ = 3 := by rw [vaE, if_neg (by simp), if_neg (by simp; omega), if_pos (.inl ⟨by simp, h4⟩)]
            rw [hv]
            have hq : (n != 0) = true := by rw [bne_iff_ne]; exact h4
            clear hv h4
            go_enter Tryd.func10, Tryd.ntmps10
            go_wp2_with fail
            go_ret
            exact ⟨rfl, (by repeat (first | exact Below.refl _ _ | assumption | refine bal ?_ _ | refine bdn ?_ _ | refine bdr ?_ | refine bcl ?_ (by assumption)))⟩
      · by_cases h4 : n = 0
        · subst h4
          by_cases h5 : 0 < s.size
          · have hv : vaE ⟨2, 0, s⟩ = 3 := by rw [vaE, if_neg (by simp), if_neg (by simp), if_pos (.inr (.inl ⟨by simp, h5⟩))]
            rw [hv]
            have he := emp_test h5
            clear hv
            go_enter Tryd.func10, Tryd.ntmps10
            go_wp2_with fail
            go_ret
            exact ⟨rfl, (by repeat (first | exact Below.refl _ _ | assumption | refine bal ?_ _ | refine bdn ?_ _ | refine bdr ?_ | refine bcl ?_ (by assumption)))⟩
          · obtain rfl := emp_of (show s.size = 0 by omega)
            have hv : vaE ⟨2, 0, ⟨#[]⟩⟩ = 0 := by rw [vaE, if_neg (by simp), if_neg (by simp), if_neg (by simp [okS_empty, ByteArray.size])]
            rw [hv]
            clear hv
            go_enter Tryd.func10, Tryd.ntmps10
            go_wp2_with fail
            refine wp_loop_rounds 1 ?_
            rw [rounds_succ]
            go_wp2_with fail
            go_ret
            exact ⟨rfl, (by repeat (first | exact Below.refl _ _ | assumption | refine bal ?_ _ | refine bdn ?_ _ | refine bdr ?_ | refine bcl ?_ (by assumption)))⟩
        · have hv : vaE ⟨2, n, s⟩ = 3 := by rw [vaE, if_neg (by simp), if_neg (by simp), if_pos (.inl ⟨by simp, h4⟩)]
          rw [hv]
          have hq : (n != 0) = true := by rw [bne_iff_ne]; exact h4
          clear hv h4
          go_enter Tryd.func10, Tryd.ntmps10
          go_wp2_with fail
          go_ret
          exact ⟨rfl, (by repeat (first | exact Below.refl _ _ | assumption | refine bal ?_ _ | refine bdn ?_ _ | refine bdr ?_ | refine bcl ?_ (by assumption)))⟩
theorem anyB_true {l : List Va} {j : Nat} (hj : j < l.length) (h : (va l j).k = 2) : anyB l = true := by
  cases e : anyB l with
  | true => rfl
  | false => exact absurd h (anyB_false.1 e j hj)
theorem va_ext {a b : List Va} (hl : a.length = b.length) (h : ∀ i, i < a.length → va a i = va b i) : a = b := by
  refine List.ext_getElem hl fun i h1 h2 => ?_
  have := h i h1
  simpa [va, h1, h2] using this
theorem va_eq {a b : Va} (h1 : a.k = b.k) (h2 : a.n = b.n) (h3 : a.s = b.s) : a = b := by
  cases a; cases b; simp_all
theorem likB_2 {a b : Va} (h : a.k = 2) : likB a b = true := decide_eq_true (.inl h)
theorem likB_ne {a b : Va} (h : a.k ≠ 2) : likB a b = decide (a = b) := by rw [likB]; simp [h]
theorem fitB_false {a t : List Va} {j : Nat} (hj : j < t.length) (h : likB (va a j) (va t j) = false) : fitB a t = false := by
  rw [← Bool.not_eq_true, fitB_true]; intro h2
  rw [h2.2 j hj] at h; cases h
set_option maxHeartbeats 800000 in
theorem same_tuple (A B : Option Addr) (c d : Nat) (a b : List Va) (w : World) (hA : Vals w A a) (hB : Vals w B b) (hm : a.length ≤ maxLen) :
    Calls Tryd.prog 20 #[.slice A a.length c, .slice B b.length d] w fun e w' => e = .returned (.bool (decide (a = b))) ∧ Below w.heap.size w w' := by
  unfold maxLen at hm
  by_cases hl : a.length = b.length
  · have hne : ((a.length : Int) != (b.length : Int)) = false := by simp [hl]
    have HL := Lib.hid hl; clear hl
    go_enter Tryd.func20, Tryd.ntmps20
    go_wp2_with fail
    go_loopw [5] (fun i wr => ∃ k : Nat, k ≤ a.length ∧ i = .int .i64 k ∧ Below w.heap.size w wr ∧ Hid (∀ j, j < k → va a j = va b j)) (fun i _ => a.length - (intOf i).toNat)
    case atStart => exact ⟨0, Nat.zero_le _, rfl, Below.refl _ _, fun j hj => absurd hj (by omega)⟩
    case round =>
      obtain ⟨k, hk, rfl, hb, he⟩ := hrel
      by_cases hlt : k < a.length
      · have hlt2 : k < b.length := by have := HL.out; omega
        have q1 : (0 : Int) ≤ k := by omega
        have q2 : (k : Int) < a.length := by omega
        have q3 : (k : Int) < b.length := by omega
        obtain ⟨g1, o1, rfl, _, x1, x2, x3⟩ := (hA.below hb (Nat.le_refl _)).at_ hlt
        obtain ⟨g2, o2, rfl, _, y1, y2, y3⟩ := (hB.below hb (Nat.le_refl _)).at_ hlt2
        have bad : va a k ≠ va b k → Hid (decide (a = b) = false) := fun e => Lib.hid (decide_eq_false fun h => e (by rw [h]))
        by_cases f1 : (va a k).k = (va b k).k
        · by_cases f2 : (va a k).n = (va b k).n
          · by_cases f3 : (va a k).s = (va b k).s
            · have HE : Hid (∀ j, j < k + 1 → va a j = va b j) := Lib.hid fun j hj => by
                by_cases ej : j = k
                · rw [ej]; exact va_eq f1 f2 f3
                · exact he.out j (by omega)
              have hq1 : ((va a k).k == (va b k).k) = true := by simp [f1]
              have hq2 : ((va a k).n == (va b k).n) = true := by simp [f2]
              have hq3 : ((va a k).s.toList == (va b k).s.toList) = true := by rw [f3]; exact str_same _
              clear bad f1 f2 f3
              go_wp2_with fail
              go_quiet (fail)
              go_wp2_with fail
              go_roundw
              case rel => exact ⟨k + 1, by omega, by go_num, bdn hb _, HE⟩
              case measure => simp [intOf]; omega
            · have HV := bad (fun e => f3 (by rw [e]))
              have hq1 : ((va a k).k == (va b k).k) = true := by simp [f1]
              have hq2 : ((va a k).n == (va b k).n) = true := by simp [f2]
              have hq3 : ((va a k).s.toList == (va b k).s.toList) = false := str_other f3
              clear bad f1 f2 f3
              go_wp2_with fail
              go_quiet (fail)
              go_wp2_with fail
              rw [HV.out]
              go_ret
              exact ⟨rfl, (by repeat (first | exact Below.refl _ _ | assumption | refine bal ?_ _ | refine bdn ?_ _ | refine bdr ?_ | refine bcl ?_ (by assumption)))⟩
          · have HV := bad (fun e => f2 (by rw [e]))
            have hq1 : ((va a k).k == (va b k).k) = true := by simp [f1]
            have hq2 : ((va a k).n == (va b k).n) = false := by simp [f2]
            clear bad f1 f2
            go_wp2_with fail
            go_quiet (fail)
            go_wp2_with fail
            rw [HV.out]
            go_ret
            exact ⟨rfl, (by repeat (first | exact Below.refl _ _ | assumption | refine bal ?_ _ | refine bdn ?_ _ | refine bdr ?_ | refine bcl ?_ (by assumption)))⟩
        · have HV := bad (fun e => f1 (by rw [e]))
          have hq1 : ((va a k).k == (va b k).k) = false := by simp [f1]
          clear bad f1
          go_wp2_with fail
          go_quiet (fail)
          go_wp2_with fail
          rw [HV.out]
          go_ret
          exact ⟨rfl, (by repeat (first | exact Below.refl _ _ | assumption | refine bal ?_ _ | refine bdn ?_ _ | refine bdr ?_ | refine bcl ?_ (by assumption)))⟩
      · obtain rfl : k = a.length := by omega
        have hv : decide (a = b) = true := decide_eq_true (va_ext HL.out he.out)
        have HV := Lib.hid hv; clear hv
        go_wp2_with fail
        rw [HV.out]
        go_ret
        exact ⟨rfl, hb⟩
  · have hne : ((a.length : Int) != (b.length : Int)) = true := by rw [bne_iff_ne]; omega
    have hv : decide (a = b) = false := decide_eq_false fun h => hl (by rw [h])
    have HV := Lib.hid hv; clear hv hl
    go_enter Tryd.func20, Tryd.ntmps20
    go_wp2_with fail
    rw [HV.out]
    go_ret
    exact ⟨rfl, Below.refl _ _⟩
theorem gg_ext {α : Type} {a b : List (List α)} (hl : a.length = b.length) (h : ∀ i, i < a.length → gg a i = gg b i) : a = b := by
  refine List.ext_getElem hl fun i h1 h2 => ?_
  have := h i h1
  simpa [gg, h1, h2] using this
end Go.Proofs.YtamndgeeibfmhaaDoor
