/- The reference's faults of a value and of a tuple; whether one fits; are two tuples the same? -/
import Derived.Test.YtfelefkmbbfdjaaGreatDoorTupleIs
import Derived.Test.YtfelefkmbbfdjaaGreatDoorNest
import Derived.Deep.QuietTactic
import Derived.BigQuiet
namespace Go.Proofs.YtfelefkmbbfdjaaGreatDoor
open Go.RowKit
set_option linter.unusedVariables false

set_option maxHeartbeats 800000 in
theorem rvalue_any (k n : Int) (s : ByteArray) (hs : s.size ≤ maxLen) (w : World) :
    Calls Tryz.prog 53 #[.agg #[.int .i64 k, .int .i64 n, .string s]] w fun e w' => e = .returned (.int .i64 (vaE ⟨k, n, s⟩)) ∧ Below w.heap.size w w' := by
  unfold maxLen at hs
  by_cases h1 : k < 0
  · have hv : vaE ⟨k, n, s⟩ = 1 := by rw [vaE, if_pos (.inl h1)]
    rw [hv]
    clear hv
    go_enter Tryz.func53, Tryz.ntmps53
    go_wp2_with fail
    go_ret
    exact ⟨rfl, (by repeat (first | exact Below.refl _ _ | assumption | refine bal ?_ _ | refine bdn ?_ _ | refine bdr ?_ | refine bcl ?_ (by assumption)))⟩
  · by_cases h2 : 2 < k
    · have hv : vaE ⟨k, n, s⟩ = 1 := by rw [vaE, if_pos (.inr (.inl h2))]
      rw [hv]
      clear hv
      go_enter Tryz.func53, Tryz.ntmps53
      go_wp2_with fail
      go_ret
      exact ⟨rfl, (by repeat (first | exact Below.refl _ _ | assumption | refine bal ?_ _ | refine bdn ?_ _ | refine bdr ?_ | refine bcl ?_ (by assumption)))⟩
    · obtain rfl | rfl | rfl : k = 0 ∨ k = 1 ∨ k = 2 := by omega
      · by_cases h3 : n < -1000000
        · have hv : vaE ⟨0, n, s⟩ = 1 := by rw [vaE, if_pos (.inr (.inr ⟨rfl, .inl h3⟩))]
          rw [hv]
          clear hv
          go_enter Tryz.func53, Tryz.ntmps53
          go_wp2_with fail
          go_ret
          exact ⟨rfl, (by repeat (first | exact Below.refl _ _ | assumption | refine bal ?_ _ | refine bdn ?_ _ | refine bdr ?_ | refine bcl ?_ (by assumption)))⟩
        · by_cases h4 : 1000000 < n
          · have hv : vaE ⟨0, n, s⟩ = 1 := by rw [vaE, if_pos (.inr (.inr ⟨rfl, .inr h4⟩))]
            rw [hv]
            clear hv
            go_enter Tryz.func53, Tryz.ntmps53
            go_wp2_with fail
            go_ret
            exact ⟨rfl, (by repeat (first | exact Below.refl _ _ | assumption | refine bal ?_ _ | refine bdn ?_ _ | refine bdr ?_ | refine bcl ?_ (by assumption)))⟩
          · by_cases h5 : 0 < s.size
            · have hv : vaE ⟨0, n, s⟩ = 3 := by rw [vaE, if_neg (by simp; omega), if_neg (by simp), if_pos (.inr (.inl ⟨by simp, h5⟩))]
              rw [hv]
              have he := emp_test h5
              clear hv
              go_enter Tryz.func53, Tryz.ntmps53
              go_wp2_with fail
              go_ret
              exact ⟨rfl, (by repeat (first | exact Below.refl _ _ | assumption | refine bal ?_ _ | refine bdn ?_ _ | refine bdr ?_ | refine bcl ?_ (by assumption)))⟩
            · obtain rfl := emp_of (show s.size = 0 by omega)
              have hv : vaE ⟨0, n, ⟨#[]⟩⟩ = 0 := by rw [vaE, if_neg (by simp; omega), if_neg (by simp), if_neg (by simp [okS_empty, ByteArray.size])]
              rw [hv]
              clear hv
              go_enter Tryz.func53, Tryz.ntmps53
              go_wp2_with fail
              refine wp_loop_rounds 1 ?_
              rw [rounds_succ]
              go_wp2_with fail
              go_ret
              exact ⟨rfl, (by repeat (first | exact Below.refl _ _ | assumption | refine bal ?_ _ | refine bdn ?_ _ | refine bdr ?_ | refine bcl ?_ (by assumption)))⟩
      · by_cases h3 : 12 < s.size
        · have hv : vaE ⟨1, n, s⟩ = 4 := by rw [vaE, if_neg (by simp), if_pos ⟨rfl, h3⟩]
          rw [hv]
          clear hv
          go_enter Tryz.func53, Tryz.ntmps53
          go_wp2_with fail
          go_ret
          exact ⟨rfl, (by repeat (first | exact Below.refl _ _ | assumption | refine bal ?_ _ | refine bdn ?_ _ | refine bdr ?_ | refine bcl ?_ (by assumption)))⟩
        · by_cases h4 : n = 0
          · subst h4
            have h12 : s.size ≤ 12 := by omega
            have hv : vaE ⟨1, 0, s⟩ = if okS s = false then 3 else 0 := by rw [vaE, if_neg (by simp), if_neg (by simp; omega)]; simp
            have HV := Lib.hid hv; clear hv
            go_enter Tryz.func53, Tryz.ntmps53
            go_wp2_with fail
            go_loopw [3] (fun i wr => ∃ j : Nat, j ≤ s.size ∧ i = .int .i64 j ∧ Hid (∀ m, m < j → letB (gB s m) = true) ∧ wr.cell? ⟨w.heap.size, 2, none⟩ = some (.string s) ∧ Below w.heap.size w wr) (fun i _ => s.size - (intOf i).toNat)
            case atStart => exact ⟨0, Nat.zero_le _, rfl, fun m hm => absurd hm (by omega), by simp, (by repeat (first | exact Below.refl _ _ | assumption | refine bal ?_ _ | refine bdn ?_ _ | refine bdr ?_ | refine bcl ?_ (by assumption)))⟩
            case round =>
              obtain ⟨j, hj, rfl, hl, hc, hb⟩ := hrel
              by_cases hlt : j < s.size
              · have hg := gB_lt hlt
                by_cases h5 : gB s j < 97
                · have ho : okS s = false := by
                    rw [← Bool.not_eq_true, okS_true]; intro h
                    have := h j hlt
                    simp [letB] at this; omega
                  rw [hg] at h5
                  have HO := Lib.hid ho; clear ho hg
                  go_wp2_with fail
                  rw [HV.out, HO.out, if_pos rfl]
                  go_ret
                  exact ⟨rfl, hb⟩
                · by_cases h6 : 122 < gB s j
                  · have ho : okS s = false := by
                      rw [← Bool.not_eq_true, okS_true]; intro h
                      have := h j hlt
                      simp [letB] at this; omega
                    rw [hg] at h5 h6
                    have HO := Lib.hid ho; clear ho hg
                    go_wp2_with fail
                    rw [HV.out, HO.out, if_pos rfl]
                    go_ret
                    exact ⟨rfl, hb⟩
                  · have hl2 : ∀ m, m < j + 1 → letB (gB s m) = true := fun m hm => by
                      by_cases e : m = j
                      · subst e; simp [letB]; omega
                      · exact hl.out m (by omega)
                    rw [hg] at h5 h6
                    have HL := Lib.hid hl2; clear hl2 hg
                    go_wp2_with fail
                    go_roundw
                    case rel => exact ⟨j + 1, by omega, by go_num, HL, hc, hb⟩
                    case measure => simp [intOf]; omega
              · obtain rfl : j = s.size := by omega
                have ho : okS s = true := okS_true.2 hl.out
                have HO := Lib.hid ho; clear ho
                go_wp2_with fail
                rw [HV.out, HO.out, if_neg (by decide)]
                go_ret
                exact ⟨rfl, hb⟩
          · have hv : vaE ⟨1, n, s⟩ = 3 := by rw [vaE, if_neg (by simp), if_neg (by simp; omega), if_pos (.inl ⟨by simp, h4⟩)]
            rw [hv]
            have hq : (n != 0) = true := by rw [bne_iff_ne]; exact h4
            clear hv h4
            go_enter Tryz.func53, Tryz.ntmps53
            go_wp2_with fail
            go_ret
            exact ⟨rfl, (by repeat (first | exact Below.refl _ _ | assumption | refine bal ?_ _ | refine bdn ?_ _ | refine bdr ?_ | refine bcl ?_ (by assumption)))⟩
      · by_cases h4 : n = 0
        · subst h4
          by_cases h5 : 0 < s.size
          · have hv : vaE ⟨2, 0, s⟩ = 3 := by rw [vaE, if_neg (by simp), if_neg (by simp), if_pos (.inr (.inl ⟨by simp, h5⟩))]
            rw [hv]
            have he := emp_test h5
            clear hv
            go_enter Tryz.func53, Tryz.ntmps53
            go_wp2_with fail
            go_ret
            exact ⟨rfl, (by repeat (first | exact Below.refl _ _ | assumption | refine bal ?_ _ | refine bdn ?_ _ | refine bdr ?_ | refine bcl ?_ (by assumption)))⟩
          · obtain rfl := emp_of (show s.size = 0 by omega)
            have hv : vaE ⟨2, 0, ⟨#[]⟩⟩ = 0 := by rw [vaE, if_neg (by simp), if_neg (by simp), if_neg (by simp [okS_empty, ByteArray.size])]
            rw [hv]
            clear hv
            go_enter Tryz.func53, Tryz.ntmps53
            go_wp2_with fail
            refine wp_loop_rounds 1 ?_
            rw [rounds_succ]
            go_wp2_with fail
            go_ret
            exact ⟨rfl, (by repeat (first | exact Below.refl _ _ | assumption | refine bal ?_ _ | refine bdn ?_ _ | refine bdr ?_ | refine bcl ?_ (by assumption)))⟩
        · have hv : vaE ⟨2, n, s⟩ = 3 := by rw [vaE, if_neg (by simp), if_neg (by simp), if_pos (.inl ⟨by simp, h4⟩)]
          rw [hv]
          have hq : (n != 0) = true := by rw [bne_iff_ne]; exact h4
          clear hv h4
          go_enter Tryz.func53, Tryz.ntmps53
          go_wp2_with fail
          go_ret
          exact ⟨rfl, (by repeat (first | exact Below.refl _ _ | assumption | refine bal ?_ _ | refine bdn ?_ _ | refine bdr ?_ | refine bcl ?_ (by assumption)))⟩
set_option maxHeartbeats 800000 in
theorem rlike_any (A : Option Addr) (cap : Nat) (l : List Va) (hm : l.length ≤ maxLen) (hok : okL l) (w : World) (hA : Vals w A l) :
    Calls Tryz.prog 28 #[.slice A l.length cap] w fun e w' => e = .returned (.int .i64 (liE l)) ∧ Below w.heap.size w w' := by
  unfold maxLen at hm
  by_cases h0 : l.length = 0
  · have hv : liE l = 5 := by rw [liE, if_pos h0]
    rw [hv, h0]
    clear hv h0
    go_enter Tryz.func28, Tryz.ntmps28
    go_wp2_with fail
    go_ret
    exact ⟨rfl, (by repeat (first | exact Below.refl _ _ | assumption | refine bal ?_ _ | refine bdn ?_ _ | refine bdr ?_ | refine bcl ?_ (by assumption)))⟩
  · have hz : ((l.length : Int) == 0) = false := beq_eq_false_iff_ne.2 (by omega)
    by_cases h5 : 5 < l.length
    · have hv : liE l = 4 := by rw [liE, if_neg h0, if_pos h5]
      rw [hv]
      clear hv h0
      go_enter Tryz.func28, Tryz.ntmps28
      go_wp2_with fail
      go_ret
      exact ⟨rfl, (by repeat (first | exact Below.refl _ _ | assumption | refine bal ?_ _ | refine bdn ?_ _ | refine bdr ?_ | refine bcl ?_ (by assumption)))⟩
    · have hv : liE l = lsE l l.length := by rw [liE, if_neg h0, if_neg h5]
      rw [hv]
      have HOK := Lib.hid hok
      clear hv h0 hok
      go_enter Tryz.func28, Tryz.ntmps28
      go_wp2_with fail
      go_loopw [3, 4] (fun i _ wr => ∃ j : Nat, j ≤ l.length ∧ i = .int .i64 j ∧ Hid (lsE l j = 0) ∧ Below w.heap.size w wr) (fun i _ _ => l.length - (intOf i).toNat)
      case atStart => exact ⟨0, by omega, rfl, rfl, (by repeat (first | exact Below.refl _ _ | assumption | refine bal ?_ _ | refine bdn ?_ _ | refine bdr ?_ | refine bcl ?_ (by assumption)))⟩
      case round =>
        obtain ⟨j, hj, rfl, hzz, hb⟩ := hrel
        by_cases hlt : j < l.length
        · obtain ⟨b, off, rfl, hbl, k0, k1, k2⟩ := (hA.below hb (Nat.le_refl _)).at_ (i := j) hlt
          have c : ∀ W, Calls Tryz.prog 53 #[.agg #[.int .i64 (va l j).k, .int .i64 (va l j).n, .string (va l j).s]] W fun e w' => e = .returned (.int .i64 (vaE (va l j))) ∧ Below W.heap.size W w' := fun W => rvalue_any _ _ _ (HOK.out j hlt) W
          by_cases he : vaE (va l j) = 0
          · rw [he] at c
            have HN := Lib.hid (lsE_next hzz.out he)
            have C := Lib.hid c; clear c he
            go_wp2_with fail
            refine (C.out _).mono ?_
            rintro e w2 ⟨rfl, hb2⟩
            go_wp2_with fail
            go_roundw
            case rel => exact ⟨j + 1, by omega, by go_num, HN, bcl hb hb2⟩
            case measure => simp [intOf]; omega
          · have HN := Lib.hid (lsE_at (n := l.length) hzz.out he hlt)
            have hq : (vaE (va l j) != 0) = true := by rw [bne_iff_ne]; exact he
            generalize vaE (va l j) = E at *
            have C := Lib.hid c; clear c he
            go_wp2_with fail
            refine (C.out _).mono ?_
            rintro e w2 ⟨rfl, hb2⟩
            go_wp2_with fail
            rw [HN.out]
            go_ret
            exact ⟨rfl, bcl hb hb2⟩
        · obtain rfl : j = l.length := by omega
          go_wp2_with fail
          rw [hzz.out]
          go_ret
          exact ⟨rfl, hb⟩
theorem anyB_true {l : List Va} {j : Nat} (hj : j < l.length) (h : (va l j).k = 2) : anyB l = true := by
  cases e : anyB l with
  | true => rfl
  | false => exact absurd h (anyB_false.1 e j hj)
set_option maxHeartbeats 800000 in
theorem rtuple_any (A : Option Addr) (cap : Nat) (l : List Va) (hm : l.length ≤ maxLen) (hok : okL l) (w : World) (hA : Vals w A l) :
    Calls Tryz.prog 55 #[.slice A l.length cap] w fun e w' => e = .returned (.int .i64 (tuE l)) ∧ Below w.heap.size w w' := by
  have c1 := rlike_any A cap l hm hok w hA
  unfold maxLen at hm
  by_cases h1 : liE l = 0
  · rw [h1] at c1
    have hv : tuE l = if anyB l = true then 3 else 0 := by rw [tuE, if_neg (by simp [h1])]
    have C1 := Lib.hid c1; have HV := Lib.hid hv; clear c1 hv h1
    go_enter Tryz.func55, Tryz.ntmps55
    go_wp2_with (go_at_call 28; refine C1.out.mono ?_; rintro e w1 ⟨rfl, hb1⟩)
    go_loopw [3, 4] (fun e i wr => ∃ (j : Nat) (b : Bool), j ≤ l.length ∧ i = .int .i64 j ∧ e = .int .i64 (if b then 3 else 0) ∧ Hid (b = true → anyB l = true) ∧ Hid (b = false → ∀ m, m < j → (va l m).k ≠ 2) ∧ Below w.heap.size w wr) (fun e i _ => if intOf e = 0 then l.length + 1 - (intOf i).toNat else 0)
    case atStart => exact ⟨0, false, by omega, rfl, rfl, (fun h => by cases h), (fun _ m hm => absurd hm (by omega)), hb1⟩
    case round =>
      obtain ⟨j, b, hj, rfl, rfl, ht, hf, hb⟩ := hrel
      cases b with
      | true =>
        have ha := Lib.hid (ht.out rfl)
        simp only [if_true]
        by_cases hlt : j < l.length
        · go_wp2_with fail
          rw [HV.out, ha.out, if_pos rfl]
          go_ret
          exact ⟨rfl, hb⟩
        · obtain rfl : j = l.length := by omega
          go_wp2_with fail
          rw [HV.out, ha.out, if_pos rfl]
          go_ret
          exact ⟨rfl, hb⟩
      | false =>
        simp only [Bool.false_eq_true, if_false]
        by_cases hlt : j < l.length
        · obtain ⟨b, off, rfl, hbl, k0, k1, k2⟩ := (hA.below hb (Nat.le_refl _)).at_ (i := j) hlt
          by_cases h2 : (va l j).k = 2
          · have ha := Lib.hid (anyB_true hlt h2)
            have hq : ((va l j).k == 2) = true := by simp [h2]
            clear h2
            generalize (va l j).k = z at *
            go_wp2_with fail
            go_roundw
            case rel => exact ⟨j + 1, true, by omega, by go_num, rfl, (fun _ => ha.out), (fun h => by cases h), hb⟩
            case measure => simp [intOf]; omega
          · have hq : ((va l j).k == 2) = false := by simp [h2]
            have hf2 : ∀ m, m < j + 1 → (va l m).k ≠ 2 := fun m hm => by
              by_cases e : m = j
              · subst e; exact h2
              · exact hf.out rfl m (by omega)
            have HF := Lib.hid hf2
            clear h2 hf2
            generalize (va l j).k = z at *
            go_wp2_with fail
            go_roundw
            case rel => exact ⟨j + 1, false, by omega, by go_num, rfl, (fun h => by cases h), (fun _ => HF.out), hb⟩
            case measure => simp [intOf]; omega
        · obtain rfl : j = l.length := by omega
          have ha := Lib.hid (anyB_false.2 (hf.out rfl))
          go_wp2_with fail
          rw [HV.out, ha.out, if_neg (by decide)]
          go_ret
          exact ⟨rfl, hb⟩
  · have hv : tuE l = liE l := by rw [tuE, if_pos h1]
    have hq : (liE l == 0) = false := by simp [h1]
    rw [hv]
    generalize liE l = E at *
    have C1 := Lib.hid c1; clear c1 h1 hv
    go_enter Tryz.func55, Tryz.ntmps55
    go_wp2_with (go_at_call 28; refine C1.out.mono ?_; rintro e w1 ⟨rfl, hb1⟩)
    by_cases h0 : 0 < l.length
    · refine wp_loop_rounds 1 ?_
      rw [rounds_succ]
      go_wp2_with fail
      go_ret
      exact ⟨rfl, hb1⟩
    · obtain h0 : l.length = 0 := by omega
      rw [h0]
      refine wp_loop_rounds 1 ?_
      rw [rounds_succ]
      go_wp2_with fail
      go_ret
      exact ⟨rfl, hb1⟩
theorem va_ext {a b : List Va} (hl : a.length = b.length) (h : ∀ i, i < a.length → va a i = va b i) : a = b := by
  refine List.ext_getElem hl fun i h1 h2 => ?_
  have := h i h1
  simpa [va, h1, h2] using this
theorem va_eq {a b : Va} (h1 : a.k = b.k) (h2 : a.n = b.n) (h3 : a.s = b.s) : a = b := by
  cases a; cases b; simp_all
theorem likB_2 {a b : Va} (h : a.k = 2) : likB a b = true := decide_eq_true (.inl h)
theorem likB_ne {a b : Va} (h : a.k ≠ 2) : likB a b = decide (a = b) := by rw [likB]; simp [h]
theorem fitB_false {a t : List Va} {j : Nat} (hj : j < t.length) (h : likB (va a j) (va t j) = false) : fitB a t = false := by
  rw [← Bool.not_eq_true, fitB_true]; intro h2
  rw [h2.2 j hj] at h; cases h
set_option maxHeartbeats 800000 in
theorem rfits_any (A : Option Addr) (c : Nat) (a : List Va) (B : Option Addr) (d : Nat) (t : List Va) (hm : a.length ≤ maxLen) (w : World) (hA : Vals w A a) (hB : Vals w B t) :
    Calls Tryz.prog 83 #[.slice A a.length c, .slice B t.length d] w fun e w' => e = .returned (.bool (fitB a t)) ∧ Below w.heap.size w w' := by
  unfold maxLen at hm
  by_cases hl : a.length = t.length
  · have hne : ((a.length : Int) != (t.length : Int)) = false := by simp [hl]
    have HL := Lib.hid hl; clear hl
    go_enter Tryz.func83, Tryz.ntmps83
    go_wp2_with fail
    go_loopw [5] (fun i wr => ∃ k : Nat, k ≤ t.length ∧ i = .int .i64 k ∧ Below w.heap.size w wr ∧ Hid (∀ j, j < k → likB (va a j) (va t j) = true)) (fun i _ => t.length - (intOf i).toNat)
    case atStart => exact ⟨0, Nat.zero_le _, rfl, Below.refl _ _, fun j hj => absurd hj (by omega)⟩
    case round =>
      obtain ⟨k, hk, rfl, hb, he⟩ := hrel
      by_cases hlt : k < t.length
      · have hlt2 : k < a.length := by have := HL.out; omega
        have q1 : (0 : Int) ≤ k := by omega
        have q2 : (k : Int) < a.length := by omega
        have q3 : (k : Int) < t.length := by omega
        obtain ⟨g1, o1, rfl, _, x1, x2, x3⟩ := (hA.below hb (Nat.le_refl _)).at_ hlt2
        obtain ⟨g2, o2, rfl, _, y1, y2, y3⟩ := (hB.below hb (Nat.le_refl _)).at_ hlt
        have step : likB (va a k) (va t k) = true → Hid (∀ j, j < k + 1 → likB (va a j) (va t j) = true) := fun e => Lib.hid fun j hj => by
          by_cases ej : j = k
          · rw [ej]; exact e
          · exact he.out j (by omega)
        have bad : likB (va a k) (va t k) = false → Hid (fitB a t = false) := fun e => Lib.hid (fitB_false hlt e)
        by_cases e2 : (va a k).k = 2
        · have HE := step (likB_2 e2)
          have hq : ((va a k).k != 2) = false := by simp [e2]
          clear e2 step bad
          go_wp2_with fail
          go_quiet (fail)
          go_wp2_with fail
          go_roundw
          case rel => exact ⟨k + 1, by omega, by go_num, bdn hb _, HE⟩
          case measure => simp [intOf]; omega
        · have hq : ((va a k).k != 2) = true := by simp [e2]
          have hlk := likB_ne (b := va t k) e2
          by_cases f1 : (va a k).k = (va t k).k
          · by_cases f2 : (va a k).n = (va t k).n
            · by_cases f3 : (va a k).s = (va t k).s
              · have HE := step (by rw [hlk]; exact decide_eq_true (va_eq f1 f2 f3))
                have hq1 : ((va a k).k == (va t k).k) = true := by simp [f1]
                have hq2 : ((va a k).n == (va t k).n) = true := by simp [f2]
                have hq3 : ((va a k).s.toList == (va t k).s.toList) = true := by rw [f3]; exact str_same _
                clear e2 step bad hlk f1 f2 f3
                go_wp2_with fail
                go_quiet (fail)
                go_wp2_with fail
                go_roundw
                case rel => exact ⟨k + 1, by omega, by go_num, bdn hb _, HE⟩
                case measure => simp [intOf]; omega
              · have HE := bad (by rw [hlk]; exact decide_eq_false fun e => f3 (by rw [e]))
                have hq1 : ((va a k).k == (va t k).k) = true := by simp [f1]
                have hq2 : ((va a k).n == (va t k).n) = true := by simp [f2]
                have hq3 : ((va a k).s.toList == (va t k).s.toList) = false := str_other f3
                clear e2 step bad hlk f1 f2 f3
                go_wp2_with fail
                go_quiet (fail)
                go_wp2_with fail
                rw [HE.out]
                go_ret
                exact ⟨rfl, (by repeat (first | exact Below.refl _ _ | assumption | refine bal ?_ _ | refine bdn ?_ _ | refine bdr ?_ | refine bcl ?_ (by assumption)))⟩
            · have HE := bad (by rw [hlk]; exact decide_eq_false fun e => f2 (by rw [e]))
              have hq1 : ((va a k).k == (va t k).k) = true := by simp [f1]
              have hq2 : ((va a k).n == (va t k).n) = false := by simp [f2]
              clear e2 step bad hlk f1 f2
              go_wp2_with fail
              go_quiet (fail)
              go_wp2_with fail
              rw [HE.out]
              go_ret
              exact ⟨rfl, (by repeat (first | exact Below.refl _ _ | assumption | refine bal ?_ _ | refine bdn ?_ _ | refine bdr ?_ | refine bcl ?_ (by assumption)))⟩
          · have HE := bad (by rw [hlk]; exact decide_eq_false fun e => f1 (by rw [e]))
            have hq1 : ((va a k).k == (va t k).k) = false := by simp [f1]
            clear e2 step bad hlk f1
            go_wp2_with fail
            go_quiet (fail)
            go_wp2_with fail
            rw [HE.out]
            go_ret
            exact ⟨rfl, (by repeat (first | exact Below.refl _ _ | assumption | refine bal ?_ _ | refine bdn ?_ _ | refine bdr ?_ | refine bcl ?_ (by assumption)))⟩
      · obtain rfl : k = t.length := by omega
        have hv : fitB a t = true := fitB_true.2 ⟨HL.out, he.out⟩
        have HV := Lib.hid hv; clear hv
        go_wp2_with fail
        rw [HV.out]
        go_ret
        exact ⟨rfl, hb⟩
  · have hne : ((a.length : Int) != (t.length : Int)) = true := by rw [bne_iff_ne]; omega
    have hv : fitB a t = false := by rw [← Bool.not_eq_true, fitB_true]; exact fun h => hl h.1
    have HV := Lib.hid hv; clear hv hl
    go_enter Tryz.func83, Tryz.ntmps83
    go_wp2_with fail
    rw [HV.out]
    go_ret
    exact ⟨rfl, Below.refl _ _⟩
theorem gg_ext {α : Type} {a b : List (List α)} (hl : a.length = b.length) (h : ∀ i, i < a.length → gg a i = gg b i) : a = b := by
  refine List.ext_getElem hl fun i h1 h2 => ?_
  have := h i h1
  simpa [gg, h1, h2] using this
end Go.Proofs.YtfelefkmbbfdjaaGreatDoor
