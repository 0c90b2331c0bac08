/- poly.Points, Through, At, Next, Zero: what each returns. -/
import Derived.Test.YtamndgeeibfmhaaDoorPolyIs
import Derived.Test.YtamndgeeibfmhaaDoorFind
namespace Go.Proofs.YtamndgeeibfmhaaDoor
open Go.RowKit
set_option linter.unusedVariables false

/-! ### slices.ContainsFunc at Points' own closure -/
set_option maxHeartbeats 800000 in
theorem shidx_any (A : Option Addr) (cap : Nat) (l : List Sh) (n : Nat) (hn : n ≤ l.length) (hm : n ≤ maxLen) (g : FuncId) (cb : Array Value) (p : Nat → Bool) (w : World) (hA : Shares w A l)
    (hp : ∀ W, Below w.heap.size w W → ∀ i, i < n → Calls Tryd.prog g (#[.agg #[.int .i64 (ga l i), .int .i64 (gb l i)]] ++ cb) W fun e w' => e = .returned (.bool (p i)) ∧ Below W.heap.size W w')
    (hg : ∀ args w, (callFunc g args).run Tryd.prog w = .ok (.enter g args) w) :
    Calls Tryd.prog 79 #[.slice A n cap, .func (.func g) #[] cb] w fun e w' => e = .returned (.int .i64 (idx p n)) ∧ Below w.heap.size w w' := by
  have HP := Lib.hid hp; clear hp
  unfold maxLen at hm
  go_enter Tryd.func79, Tryd.ntmps79
  go_wp2_with fail
  go_loopw [8] (fun i wr => ∃ k : Nat, k ≤ n ∧ i = .int .i64 k ∧ Hid (fst' p k = none) ∧ Below w.heap.size w wr) (fun i _ => n - (intOf i).toNat)
  case atStart => exact ⟨0, Nat.zero_le _, rfl, rfl, Below.refl _ _⟩
  case round =>
    obtain ⟨k, hk, rfl, hf, hb⟩ := hrel
    by_cases hlt : k < n
    · obtain ⟨b, off, rfl, hbl, hc1, hc2⟩ := (hA.below hb (Nat.le_refl _)).at_ (i := k) (by omega)
      cases hpk : p k with
      | true =>
        have hi : idx p n = (k : Int) := idx_some (k := k + 1) (by simp only [fst', hf.out, hpk, if_true]) (by omega)
        have HI := Lib.hid hi; clear hi
        have hc := HP.out wr hb k hlt
        rw [hpk] at hc
        have HC := Lib.hid hc; clear hc hpk
        go_wp2_with fail
        refine HC.out.mono ?_
        rintro e w1 ⟨rfl, hb1⟩
        go_wp2_with fail
        rw [HI.out]
        go_ret
        exact ⟨rfl, bcl hb hb1⟩
      | false =>
        have hn' : fst' p (k + 1) = none := by simp [fst', hf.out, hpk]
        have HN := Lib.hid hn'; clear hn'
        have hc := HP.out wr hb k hlt
        rw [hpk] at hc
        have HC := Lib.hid hc; clear hc hpk
        go_wp2_with fail
        refine HC.out.mono ?_
        rintro e w1 ⟨rfl, hb1⟩
        go_wp2_with fail
        go_roundw
        case rel => exact ⟨k + 1, by omega, by go_num, HN, bcl hb hb1⟩
        case measure => simp [intOf]; omega
    · obtain rfl : k = n := by omega
      have HI := Lib.hid (idx_none hf.out)
      go_wp2_with fail
      rw [HI.out]
      go_ret
      exact ⟨rfl, hb⟩

theorem wasB_fst (l : List Sh) (x : Int) (n : Nat) : wasB l x n = decide (0 ≤ idx (fun i => ga l i == x) n) := by
  have h : ∀ n, (wasB l x n = true ↔ fst' (fun i => ga l i == x) n ≠ none) := by
    intro n
    induction n with
    | zero => simp [wasB, fst']
    | succ n ih =>
      simp only [wasB, fst', Bool.or_eq_true]
      cases hf : fst' (fun i => ga l i == x) n with
      | some i => rw [hf] at ih; simp [ih]
      | none =>
        rw [hf] at ih
        by_cases h2 : (ga l n == x) = true
        · simp [h2]
        · have : ¬ wasB l x n = true := by rw [ih]; simp
          simp [h2, this]
  have hn := h n
  cases hf : fst' (fun i => ga l i == x) n with
  | some i => rw [hf] at hn; rw [idx, hf, hn.2 (by simp)]; simp
  | none =>
    rw [hf] at hn
    have : wasB l x n = false := by rw [← Bool.not_eq_true, hn]; simp
    rw [this, idx, hf]; rfl

end Go.Proofs.YtamndgeeibfmhaaDoor
