/- The first place at which a test holds. Plain Lean. -/
import Derived.Test.YtfelefkmbbfdjaaGreatDoorMem
namespace Go.Proofs.YtfelefkmbbfdjaaGreatDoor
set_option linter.unusedVariables false

/-- the first of the first k at which p holds -/
def fst' (p : Nat → Bool) : Nat → Option Nat
  | 0 => none
  | k + 1 => match fst' p k with
    | some i => some i
    | none => if p k = true then some k else none
theorem fst_some {p : Nat → Bool} {k i : Nat} (h : fst' p k = some i) {n : Nat} (hn : k ≤ n) : fst' p n = some i := by
  induction n with
  | zero => obtain rfl : k = 0 := by omega
            exact h
  | succ n ih =>
    by_cases e : k = n + 1
    · subst e; exact h
    · simp only [fst', ih (by omega)]
/-- where it is, or -1 -/
def idx (p : Nat → Bool) (n : Nat) : Int := match fst' p n with
  | some i => (i : Int)
  | none => -1
theorem idx_some {p : Nat → Bool} {k i n : Nat} (h : fst' p k = some i) (hn : k ≤ n) : idx p n = i := by rw [idx, fst_some h hn]
theorem idx_none {p : Nat → Bool} {n : Nat} (h : fst' p n = none) : idx p n = -1 := by rw [idx, h]

theorem fst_none {p : Nat → Bool} {n : Nat} : fst' p n = none ↔ ∀ i, i < n → p i = false := by
  induction n with
  | zero => simp [fst']
  | succ n ih =>
    rw [fst']
    constructor
    · intro h i hi
      cases hf : fst' p n with
      | some k => rw [hf] at h; cases h
      | none =>
        rw [hf] at h
        rcases Nat.lt_or_ge i n with h1 | h1
        · exact ih.1 hf i h1
        · obtain rfl : i = n := by omega
          cases hp : p i with
          | false => rfl
          | true => simp [hp] at h
    · intro h
      rw [ih.2 fun i hi => h i (by omega)]
      simp [h n (by omega)]
theorem fst_first {p : Nat → Bool} {n i : Nat} (h : fst' p n = some i) : i < n ∧ p i = true ∧ ∀ j, j < i → p j = false := by
  induction n with
  | zero => cases h
  | succ n ih =>
    rw [fst'] at h
    cases hf : fst' p n with
    | some k =>
      rw [hf] at h
      have h2 : k = i := by simpa using h
      subst h2
      have := ih hf
      exact ⟨by omega, this.2⟩
    | none =>
      rw [hf] at h
      cases hp : p n with
      | false => simp [hp] at h
      | true =>
        simp [hp] at h
        subst h
        exact ⟨by omega, hp, fst_none.1 hf⟩
theorem idx_neg {p : Nat → Bool} {n : Nat} : idx p n < 0 ↔ ∀ i, i < n → p i = false := by
  rw [← fst_none, idx]
  cases h : fst' p n with
  | some i => simp
  | none => simp
theorem idx_at {p : Nat → Bool} {n : Nat} (h : 0 ≤ idx p n) : ∃ i : Nat, idx p n = (i : Int) ∧ i < n ∧ p i = true ∧ ∀ j, j < i → p j = false := by
  cases hf : fst' p n with
  | none => rw [idx, hf] at h; simp at h
  | some i => exact ⟨i, by rw [idx, hf], fst_first hf⟩
theorem idx_congr {p q : Nat → Bool} {n : Nat} (h : ∀ i, i < n → p i = q i) : idx p n = idx q n := by
  have : ∀ k, k ≤ n → fst' p k = fst' q k := by
    intro k hk
    induction k with
    | zero => rfl
    | succ k ih => rw [fst', fst', ih (by omega), h k (by omega)]
  rw [idx, idx, this n (Nat.le_refl _)]
end Go.Proofs.YtfelefkmbbfdjaaGreatDoor
