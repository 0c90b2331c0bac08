/- The library's searches in slices of shares: Index, Contains, IndexFunc, ContainsFunc. -/
import Derived.Test.YtamndgeeibfmhaaDoorOwn
import Derived.Test.YtamndgeeibfmhaaDoorFind
import Derived.Test.YtamndgeeibfmhaaDoorBase
import Derived.Deep.QuietTactic
import Derived.BigQuiet
import Derived.RegionTactic
import Derived.Outline
namespace Go.Proofs.YtamndgeeibfmhaaDoor
open Go.RowKit Go.ChangeShapes Go.WideShapes
set_option linter.unusedVariables false

theorem AtNew (w : World) (x y : Value) (t : TypeId) : (w.alloc (.cells #[x, y] t)).cell? ⟨w.heap.size, 0, none⟩ = some x ∧ (w.alloc (.cells #[x, y] t)).cell? ⟨w.heap.size, 1, none⟩ = some y := ⟨by simp, by simp⟩
/-- is it this share? -/
def eqB (l : List Sh) (a b : Int) (i : Nat) : Bool := decide (ga l i = a) && decide (gb l i = b)
set_option maxHeartbeats 800000 in
theorem shidxE_any (A : Option Addr) (cap : Nat) (l : List Sh) (a b : Int) (hm : l.length ≤ maxLen) (w : World) (hA : Shares w A l) :
    Calls Tryd.prog 80 #[.slice A l.length cap, .agg #[.int .i64 a, .int .i64 b]] w fun e w' => e = .returned (.int .i64 (idx (eqB l a b) l.length)) ∧ Below w.heap.size w w' := by
  unfold maxLen at hm
  have hb0 : Below w.heap.size w (w.alloc (.cells #[.int .i64 a, .int .i64 b] 64)) := bal1 _ _
  have HB0 := Lib.hid (AtNew w (.int .i64 a) (.int .i64 b) 64)
  obtain ⟨W1, hW1⟩ : ∃ W1, W1 = w.alloc (.cells #[.int .i64 a, .int .i64 b] 64) := ⟨_, rfl⟩
  rw [← hW1] at hb0 HB0
  have hA1 := hA.below hb0 (Nat.le_refl _)
  go_enter Tryd.func80, Tryd.ntmps80
  go_wp2_with fail
  rw [← hW1]
  clear hW1
  have hz : w.heap.size < W1.heap.size := lt_of_cell HB0.out.1
  go_loopw [5, 8] (fun _ i wr => ∃ k : Nat, k ≤ l.length ∧ i = .int .i64 k ∧ Hid (fst' (eqB l a b) k = none) ∧ Below W1.heap.size W1 wr) (fun _ i _ => l.length - (intOf i).toNat)
  case atStart => exact ⟨0, Nat.zero_le _, rfl, rfl, Below.refl _ _⟩
  case round =>
    obtain ⟨k, hk, rfl, hf, hb⟩ := hrel
    by_cases hlt : k < l.length
    · obtain ⟨g1, o1, rfl, _, h1, h1'⟩ := (hA1.below hb (Nat.le_refl _)).at_ hlt
      have k0 := (hb.cell (p := ⟨w.heap.size, 0, none⟩) hz).trans HB0.out.1
      have k1 := (hb.cell (p := ⟨w.heap.size, 1, none⟩) hz).trans HB0.out.2
      have q1 : (0 : Int) ≤ k := by omega
      have q2 : (k : Int) < l.length := by omega
      by_cases e1 : a = ga l k
      · by_cases e2 : b = gb l k
        · have hq : (a == ga l k) = true := by simp [e1]
          have hq2 : (b == gb l k) = true := by simp [e2]
          have hv : idx (eqB l a b) l.length = (k : Int) := idx_some (k := k + 1) (by rw [fst', hf.out]; simp only; rw [if_pos (by simp [eqB, ← e1, ← e2])]) (by omega)
          have HV := Lib.hid hv; clear hv e1 e2
          go_wp2_with fail
          go_quiet (fail)
          go_wp2_with fail
          rw [HV.out]
          go_ret
          exact ⟨rfl, hb0.trans ((bdn hb _).mono (Nat.le_of_lt hz))⟩
        · have hq : (a == ga l k) = true := by simp [e1]
          have hq2 : (b == gb l k) = false := by simp [e2]
          have hn : fst' (eqB l a b) (k + 1) = none := by rw [fst', hf.out]; simp only; rw [if_neg (by simp [eqB]; exact fun _ h => e2 h.symm)]
          have HN := Lib.hid hn; clear hn e1 e2
          go_wp2_with fail
          go_quiet (fail)
          go_wp2_with fail
          go_roundw
          case rel => exact ⟨k + 1, by omega, by go_num, HN, bdn hb _⟩
          case measure => simp [intOf]; omega
      · have hq : (a == ga l k) = false := by simp [e1]
        have hn : fst' (eqB l a b) (k + 1) = none := by rw [fst', hf.out]; simp only; rw [if_neg (by simp [eqB]; exact fun h => absurd h.symm e1)]
        have HN := Lib.hid hn; clear hn e1
        go_wp2_with fail
        go_quiet (fail)
        go_wp2_with fail
        go_roundw
        case rel => exact ⟨k + 1, by omega, by go_num, HN, bdn hb _⟩
        case measure => simp [intOf]; omega
    · obtain rfl : k = l.length := by omega
      have HI := Lib.hid (idx_none hf.out)
      go_wp2_with fail
      rw [HI.out]
      go_ret
      exact ⟨rfl, hb0.trans (hb.mono (Nat.le_of_lt hz))⟩
/-- is there one? -/
def hasB (l : List Sh) (a b : Int) : Bool := decide (0 ≤ idx (eqB l a b) l.length)
theorem hasB_true {l : List Sh} {a b : Int} : hasB l a b = true ↔ ∃ i, i < l.length ∧ ga l i = a ∧ gb l i = b := by
  unfold hasB
  rw [decide_eq_true_eq]
  constructor
  · intro h
    obtain ⟨i, _, h1, h2, _⟩ := idx_at h
    simp [eqB] at h2
    exact ⟨i, h1, h2⟩
  · rintro ⟨i, h1, h2, h3⟩
    rcases Int.lt_or_le (idx (eqB l a b) l.length) 0 with h | h
    · have := idx_neg.1 h i h1
      simp [eqB, h2, h3] at this
    · exact h
theorem shhas_any (A : Option Addr) (cap : Nat) (l : List Sh) (a b : Int) (hm : l.length ≤ maxLen) (w : World) (hA : Shares w A l) :
    Calls Tryd.prog 59 #[.slice A l.length cap, .agg #[.int .i64 a, .int .i64 b]] w fun e w' => e = .returned (.bool (hasB l a b)) ∧ Below w.heap.size w w' := by
  have c1 := fun W (h : Shares W A l) => shidxE_any A cap l a b hm W h
  unfold hasB
  generalize idx (eqB l a b) l.length = z at *
  have C1 := Lib.hid c1; clear c1
  have hA1 := hA.below (bal1 w (.cells #[.int .i64 a, .int .i64 b] 64)) (Nat.le_refl _)
  by_cases hz : 0 ≤ z
  · have hv : decide (0 ≤ z) = true := decide_eq_true hz
    rw [hv]
    go_enter Tryd.func59, Tryd.ntmps59
    go_wp2_with (go_at_call 80; refine (C1.out _ hA1).mono ?_; rintro e w1 ⟨rfl, hb1⟩)
    go_ret
    exact ⟨rfl, bcl (bal1 _ _) hb1⟩
  · have hv : decide (0 ≤ z) = false := decide_eq_false hz
    rw [hv]
    go_enter Tryd.func59, Tryd.ntmps59
    go_wp2_with (go_at_call 80; refine (C1.out _ hA1).mono ?_; rintro e w1 ⟨rfl, hb1⟩)
    go_ret
    exact ⟨rfl, bcl (bal1 _ _) hb1⟩
set_option maxHeartbeats 800000 in
theorem shidxf_any (A : Option Addr) (cap : Nat) (l : List Sh) (hm : l.length ≤ maxLen) (g : FuncId) (q : Value) (p : Nat → Bool) (w : World) (hA : Shares w A l)
    (hp : ∀ W, Below w.heap.size w W → ∀ i, i < l.length → Calls Tryd.prog g #[.agg #[.int .i64 (ga l i), .int .i64 (gb l i)], q] W fun e w' => e = .returned (.bool (p i)) ∧ Below W.heap.size W w')
    (hg : ∀ args w, (callFunc g args).run Tryd.prog w = .ok (.enter g args) w) :
    Calls Tryd.prog 79 #[.slice A l.length cap, .func (.func g) #[] #[q]] w fun e w' => e = .returned (.int .i64 (idx p l.length)) ∧ Below w.heap.size w w' := by
  have HP := Lib.hid hp; clear hp
  unfold maxLen at hm
  go_enter Tryd.func79, Tryd.ntmps79
  go_wp2_with fail
  go_loopw [5, 8] (fun _ i wr => ∃ k : Nat, k ≤ l.length ∧ i = .int .i64 k ∧ Hid (fst' p k = none) ∧ Below w.heap.size w wr) (fun _ i _ => l.length - (intOf i).toNat)
  case atStart => exact ⟨0, Nat.zero_le _, rfl, rfl, Below.refl _ _⟩
  case round =>
    obtain ⟨k, hk, rfl, hf, hb⟩ := hrel
    by_cases hlt : k < l.length
    · obtain ⟨b, off, rfl, hbl, hc0, hc1⟩ := (hA.below hb (Nat.le_refl _)).at_ hlt
      cases hpk : p k with
      | true =>
        have hi : idx p l.length = (k : Int) := idx_some (k := k + 1) (by simp only [fst', hf.out, hpk, if_true]) (by omega)
        have HI := Lib.hid hi; clear hi
        have hc := HP.out wr hb k hlt
        rw [hpk] at hc
        have HC := Lib.hid hc; clear hc hpk
        go_wp2_with fail
        refine HC.out.mono ?_
        rintro e w1 ⟨rfl, hb1⟩
        go_wp2_with fail
        rw [HI.out]
        go_ret
        exact ⟨rfl, bcl hb hb1⟩
      | false =>
        have hn' : fst' p (k + 1) = none := by simp [fst', hf.out, hpk]
        have HN := Lib.hid hn'; clear hn'
        have hc := HP.out wr hb k hlt
        rw [hpk] at hc
        have HC := Lib.hid hc; clear hc hpk
        go_wp2_with fail
        refine HC.out.mono ?_
        rintro e w1 ⟨rfl, hb1⟩
        go_wp2_with fail
        go_roundw
        case rel => exact ⟨k + 1, by omega, by go_num, HN, bcl hb hb1⟩
        case measure => simp [intOf]; omega
    · obtain rfl : k = l.length := by omega
      have HI := Lib.hid (idx_none hf.out)
      go_wp2_with fail
      rw [HI.out]
      go_ret
      exact ⟨rfl, hb⟩
/-- does one of them? -/
def anyS (p : Nat → Bool) (n : Nat) : Bool := decide (0 ≤ idx p n)
theorem anyS_false {p : Nat → Bool} {n : Nat} : anyS p n = false ↔ ∀ i, i < n → p i = false := by
  rw [anyS, decide_eq_false_iff_not, ← idx_neg]; omega
theorem shconF_any (A : Option Addr) (cap : Nat) (l : List Sh) (hm : l.length ≤ maxLen) (g : FuncId) (q : Value) (p : Nat → Bool) (w : World) (hA : Shares w A l)
    (hp : ∀ W, Below w.heap.size w W → ∀ i, i < l.length → Calls Tryd.prog g #[.agg #[.int .i64 (ga l i), .int .i64 (gb l i)], q] W fun e w' => e = .returned (.bool (p i)) ∧ Below W.heap.size W w')
    (hg : ∀ args w, (callFunc g args).run Tryd.prog w = .ok (.enter g args) w) :
    Calls Tryd.prog 54 #[.slice A l.length cap, .func (.func g) #[] #[q]] w fun e w' => e = .returned (.bool (anyS p l.length)) ∧ Below w.heap.size w w' := by
  have c1 := shidxf_any A cap l hm g q p w hA hp hg
  unfold anyS
  generalize idx p l.length = z at *
  have C1 := Lib.hid c1; clear c1 hp hg
  by_cases hz : 0 ≤ z
  · have hv : decide (0 ≤ z) = true := decide_eq_true hz
    rw [hv]
    go_enter Tryd.func54, Tryd.ntmps54
    go_wp2_with (go_at_call 79; refine C1.out.mono ?_; rintro e w1 ⟨rfl, hb1⟩)
    go_ret
    exact ⟨rfl, hb1⟩
  · have hv : decide (0 ≤ z) = false := decide_eq_false hz
    rw [hv]
    go_enter Tryd.func54, Tryd.ntmps54
    go_wp2_with (go_at_call 79; refine C1.out.mono ?_; rintro e w1 ⟨rfl, hb1⟩)
    go_ret
    exact ⟨rfl, hb1⟩
end Go.Proofs.YtamndgeeibfmhaaDoor
