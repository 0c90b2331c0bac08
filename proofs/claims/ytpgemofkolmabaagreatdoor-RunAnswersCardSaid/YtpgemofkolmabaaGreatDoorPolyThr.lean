/- poly.Through (Lagrange), At, Next, Zero: what each returns. -/
import Derived.Test.YtpgemofkolmabaaGreatDoorPolyPts
namespace Go.Proofs.YtpgemofkolmabaaGreatDoor
open Go.RowKit
set_option linter.unusedVariables false

theorem ptE_pts (l : List Sh) (k : Nat) (h : ptE l k = 0) : (∀ i, i < k → pinB l i = true) ∧ ∀ i j, i < k → j < i → ga l j ≠ ga l i := by
  have hw : ∀ (x : Int) (n : Nat), wasB l x n = false → ∀ j, j < n → ga l j ≠ x := by
    intro x n
    induction n with
    | zero => intro _ j hj; omega
    | succ n ih =>
      intro hf j hj
      simp only [wasB, Bool.or_eq_false_iff] at hf
      by_cases e : j = n
      · subst e; simpa using hf.2
      · exact ih hf.1 j (by omega)
  induction k with
  | zero => exact ⟨fun i hi => by omega, fun i j hi => by omega⟩
  | succ k ih =>
    by_cases h0 : ptE l k = 0
    · have hi := ih h0
      simp only [ptE, h0, if_true] at h
      cases hp : pinB l k with
      | false => rw [hp] at h; simp at h
      | true =>
        rw [hp] at h; simp only [if_true] at h
        cases hwk : wasB l (ga l k) k with
        | true => rw [hwk] at h; simp at h
        | false =>
          refine ⟨fun i hik => ?_, fun i j hik hji => ?_⟩
          · by_cases e : i = k
            · subst e; exact hp
            · exact hi.1 i (by omega)
          · by_cases e : i = k
            · subst e; exact hw _ _ hwk j hji
            · exact hi.2 i j (by omega) hji
    · simp only [ptE] at h
      rw [if_neg h0] at h
      exact absurd h h0
/-- points that are right -/
theorem poi_pts (l : List Sh) (h : poiE l = 0) : 0 < l.length ∧ l.length ≤ 7 ∧ PM.Pts (ga l) (gb l) l.length := by
  unfold poiE at h
  split at h
  · cases h
  · split at h
    · cases h
    · obtain ⟨h1, h2⟩ := ptE_pts l _ h
      have hin : ∀ i, i < l.length → (0 ≤ ga l i ∧ ga l i < 257) ∧ 0 ≤ gb l i ∧ gb l i < 257 := fun i hi => by
        have := h1 i hi
        rw [pinB, Bool.and_eq_true] at this
        exact ⟨inB_true.1 this.1, inB_true.1 this.2⟩
      refine ⟨by omega, by omega, ⟨fun i hi => (hin i hi).1, fun i hi => (hin i hi).2, fun i j hi hj hne => ?_⟩⟩
      rcases Nat.lt_or_gt_of_ne hne with h3 | h3
      · exact h2 j i hj h3
      · exact fun e => h2 i j hi h3 e.symm

theorem up_bd {u d : Int} (h0 : 0 ≤ u) (h1 : u < 257) (h2 : 0 ≤ d) (h3 : d < 514) : 0 ≤ u * d ∧ u * d ≤ 1000000000000 := mul_bd (b := 514) h0 (by omega) h2 h3 (by omega)

/-- At -/
def atE (xs : List Int) (x : Int) : Value := if 7 < xs.length then errV 4 else if allIn xs xs.length = false then errV 1 else if inB x = false then errV 1 else .nilIface
end Go.Proofs.YtpgemofkolmabaaGreatDoor
