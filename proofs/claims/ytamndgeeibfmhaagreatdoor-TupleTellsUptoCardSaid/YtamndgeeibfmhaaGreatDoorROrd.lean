/- The reference's Order: what it returns. -/
import Derived.Test.YtamndgeeibfmhaaGreatDoorVOrder
import Derived.Test.YtamndgeeibfmhaaGreatDoorRRd
import Derived.Deep.QuietTactic
import Derived.BigQuiet
namespace Go.Proofs.YtamndgeeibfmhaaGreatDoor
open Go.RowKit
set_option linter.unusedVariables false

theorem cb_drop {l r : List UInt8} {j : Nat} {a b : UInt8} (ha : l[j]? = some a) (hb : r[j]? = some b) : Lib.compareBytes (l.drop j) (r.drop j) = if a < b then -1 else if b < a then 1 else Lib.compareBytes (l.drop (j + 1)) (r.drop (j + 1)) := by
  have h1 : l.drop j = a :: l.drop (j + 1) := by
    obtain ⟨hl, e⟩ := List.getElem?_eq_some_iff.1 ha
    rw [← e, List.drop_eq_getElem_cons hl]
  have h2 : r.drop j = b :: r.drop (j + 1) := by
    obtain ⟨hl, e⟩ := List.getElem?_eq_some_iff.1 hb
    rw [← e, List.drop_eq_getElem_cons hl]
  rw [h1, h2]
  simp only [Lib.compareBytes]
theorem cb_end {l r : List UInt8} {j : Nat} (hj : j ≤ l.length ∧ j ≤ r.length) (h : j = l.length ∨ j = r.length) : Lib.compareBytes (l.drop j) (r.drop j) = if l.length < r.length then -1 else if r.length < l.length then 1 else 0 := by
  rcases h with e | e
  · rw [show l.drop j = [] from List.drop_eq_nil_of_le (by omega)]
    by_cases h2 : l.length < r.length
    · obtain ⟨b, t, hb⟩ : ∃ b t, r.drop j = b :: t := by
        cases hd : r.drop j with
        | nil => have := congrArg List.length hd; rw [List.length_drop, List.length_nil] at this; omega
        | cons b t => exact ⟨b, t, rfl⟩
      rw [hb, if_pos h2]; rfl
    · rw [show r.drop j = [] from List.drop_eq_nil_of_le (by omega), if_neg h2, if_neg (by omega)]; rfl
  · rw [show r.drop j = [] from List.drop_eq_nil_of_le (by omega)]
    by_cases h2 : r.length < l.length
    · obtain ⟨b, t, hb⟩ : ∃ b t, l.drop j = b :: t := by
        cases hd : l.drop j with
        | nil => have := congrArg List.length hd; rw [List.length_drop, List.length_nil] at this; omega
        | cons b t => exact ⟨b, t, rfl⟩
      rw [hb, if_neg (by omega), if_pos h2]; rfl
    · rw [show l.drop j = [] from List.drop_eq_nil_of_le (by omega), if_neg (by omega), if_neg h2]; rfl
end Go.Proofs.YtamndgeeibfmhaaGreatDoor
