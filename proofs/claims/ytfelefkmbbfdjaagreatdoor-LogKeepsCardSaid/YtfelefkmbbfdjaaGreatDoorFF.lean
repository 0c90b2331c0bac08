/- The first fault among several. Plain Lean. -/
import Derived.Test.YtfelefkmbbfdjaaGreatDoorFind
namespace Go.Proofs.YtfelefkmbbfdjaaGreatDoor
/-- the first of the first k that is not 0 -/
def ff (f : Nat → Int) : Nat → Int
  | 0 => 0
  | k + 1 => if ff f k ≠ 0 then ff f k else f k
theorem ff_stay {f : Nat → Int} {k n : Nat} (h : ff f k ≠ 0) (hk : k ≤ n) : ff f n = ff f k := by
  induction n with
  | zero => obtain rfl : k = 0 := by omega
            rfl
  | succ n ih =>
    by_cases e : k = n + 1
    · subst e; rfl
    · have := ih (by omega)
      rw [ff, if_pos (by rw [this]; exact h), this]
theorem ff_zero {f : Nat → Int} {n : Nat} (h : ff f n = 0) {i : Nat} (hi : i < n) : f i = 0 := by
  have h1 : ff f (i + 1) = 0 := by
    by_cases e : ff f (i + 1) = 0
    · exact e
    · have := ff_stay e (n := n) (by omega); rw [h] at this; exact absurd this.symm e
  have h0 : ff f i = 0 := by
    by_cases e : ff f i = 0
    · exact e
    · have := ff_stay e (n := n) (by omega); rw [h] at this; exact absurd this.symm e
  rwa [ff, if_neg (by rw [h0]; simp)] at h1
theorem ff_of {f : Nat → Int} {n : Nat} (h : ∀ i, i < n → f i = 0) : ff f n = 0 := by
  induction n with
  | zero => rfl
  | succ n ih => rw [ff, if_neg (by rw [ih fun i hi => h i (by omega)]; simp), h n (by omega)]
theorem ff_at {f : Nat → Int} {k n : Nat} (h0 : ff f k = 0) (h : f k ≠ 0) (hk : k < n) : ff f n = f k := by
  have h1 : ff f (k + 1) = f k := by rw [ff, if_neg (by rw [h0]; simp)]
  rw [ff_stay (by rw [h1]; exact h) (show k + 1 ≤ n by omega), h1]
theorem ff_next {f : Nat → Int} {k : Nat} (h0 : ff f k = 0) (h : f k = 0) : ff f (k + 1) = 0 := by rw [ff, if_neg (by rw [h0]; simp), h]
theorem ff_first {f : Nat → Int} {n : Nat} (h : ff f n ≠ 0) : ∃ k, k < n ∧ ff f k = 0 ∧ f k ≠ 0 ∧ ff f n = f k := by
  induction n with
  | zero => exact absurd rfl h
  | succ n ih =>
    by_cases e : ff f n = 0
    · have h2 : ff f (n + 1) = f n := by rw [ff, if_neg (by rw [e]; simp)]
      exact ⟨n, by omega, e, by rw [← h2]; exact h, h2⟩
    · obtain ⟨k, h1, h2, h3, h4⟩ := ih e
      exact ⟨k, by omega, h2, h3, by rw [ff_stay e (by omega), h4]⟩
end Go.Proofs.YtfelefkmbbfdjaaGreatDoor
