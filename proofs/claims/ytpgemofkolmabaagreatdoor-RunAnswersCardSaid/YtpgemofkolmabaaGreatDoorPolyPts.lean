/- poly.Points, Through, At, Next, Zero: what each returns. -/
import Derived.Test.YtpgemofkolmabaaGreatDoorPolyIs
import Derived.Test.YtpgemofkolmabaaGreatDoorFind
namespace Go.Proofs.YtpgemofkolmabaaGreatDoor
open Go.RowKit
set_option linter.unusedVariables false

/-! ### slices.ContainsFunc at Points' own closure -/
theorem wasB_fst (l : List Sh) (x : Int) (n : Nat) : wasB l x n = decide (0 ≤ idx (fun i => ga l i == x) n) := by
  have h : ∀ n, (wasB l x n = true ↔ fst' (fun i => ga l i == x) n ≠ none) := by
    intro n
    induction n with
    | zero => simp [wasB, fst']
    | succ n ih =>
      simp only [wasB, fst', Bool.or_eq_true]
      cases hf : fst' (fun i => ga l i == x) n with
      | some i => rw [hf] at ih; simp [ih]
      | none =>
        rw [hf] at ih
        by_cases h2 : (ga l n == x) = true
        · simp [h2]
        · have : ¬ wasB l x n = true := by rw [ih]; simp
          simp [h2, this]
  have hn := h n
  cases hf : fst' (fun i => ga l i == x) n with
  | some i => rw [hf] at hn; rw [idx, hf, hn.2 (by simp)]; simp
  | none =>
    rw [hf] at hn
    have : wasB l x n = false := by rw [← Bool.not_eq_true, hn]; simp
    rw [this, idx, hf]; rfl

end Go.Proofs.YtpgemofkolmabaaGreatDoor
