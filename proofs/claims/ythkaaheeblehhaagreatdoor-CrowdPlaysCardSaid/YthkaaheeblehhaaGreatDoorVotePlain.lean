/- Plain law: of n of whom at most f lie, n at least 3f + 1, what wins by f + 1 is the truth. No Go in sight, but for the lists' words. -/
import Derived.Test.YthkaaheeblehhaaGreatDoorVote
namespace Go.Proofs.YthkaaheeblehhaaGreatDoor

/-- how many of the first k are not the truth -/
def bad (ss : List ByteArray) (t : ByteArray) : Nat → Nat
  | 0 => 0
  | k + 1 => bad ss t k + if gs ss k = t then 0 else 1
theorem cn_succ (ss : List ByteArray) (k : Nat) (s : ByteArray) : cn ss (k + 1) s = cn ss k s + if s = gs ss k then 1 else 0 := by
  simp only [cn]
  by_cases h : s = gs ss k
  · subst h; simp
  · simp [h]
theorem cn_truth (ss : List ByteArray) (t : ByteArray) (k : Nat) : cn ss k t + bad ss t k = k := by
  induction k with
  | zero => rfl
  | succ k ih =>
    rw [cn_succ, bad]
    by_cases h : gs ss k = t
    · subst h; simp; omega
    · have h' : ¬ t = gs ss k := fun e => h e.symm
      simp [h, h']; omega
theorem cn_other (ss : List ByteArray) (t s : ByteArray) (hs : s ≠ t) (k : Nat) : cn ss k s ≤ bad ss t k := by
  induction k with
  | zero => simp [cn]
  | succ k ih =>
    rw [cn_succ, bad]
    by_cases h : s = gs ss k
    · have : ¬ gs ss k = t := fun e => hs (h.trans e)
      simp [h, this]; rw [← h]; exact ih
    · simp [h]; omega
theorem bad_mono (ss : List ByteArray) (t : ByteArray) {k n : Nat} (h : k ≤ n) : bad ss t k ≤ bad ss t n := by
  induction n with
  | zero => obtain rfl : k = 0 := by omega
            exact Nat.le_refl _
  | succ n ih =>
    rcases Nat.lt_or_ge k (n + 1) with h1 | h1
    · rw [bad]; have := ih (by omega); omega
    · obtain rfl : k = n + 1 := by omega
      exact Nat.le_refl _
theorem wn_none_cn (ss : List ByteArray) (need : Nat) (h0 : 0 < need) (s : ByteArray) (k : Nat) (h : wn ss need k = none) : cn ss k s < need := by
  induction k with
  | zero => simpa [cn] using h0
  | succ k ih =>
    simp only [wn] at h
    cases hk : wn ss need k with
    | some i => rw [hk] at h; cases h
    | none =>
      rw [hk] at h
      simp only at h
      have hlt := ih hk
      split at h
      · cases h
      · rename_i hne
        rw [cn_succ]
        by_cases e : s = gs ss k
        · subst e
          simp only [if_true] at hlt ⊢
          rw [cn_succ] at hne
          simp only [if_true] at hne
          omega
        · simp [e]; exact hlt
theorem wn_some_cn (ss : List ByteArray) (need : Int) (k i : Nat) (h : wn ss need k = some i) : i < k ∧ (cn ss (i + 1) (gs ss i) : Int) = need := by
  induction k with
  | zero => cases h
  | succ k ih =>
    simp only [wn] at h
    cases hk : wn ss need k with
    | some j => rw [hk] at h; simp only [Option.some.injEq] at h; subst h; have := ih hk; exact ⟨by omega, this.2⟩
    | none =>
      rw [hk] at h
      simp only at h
      split at h
      · simp only [Option.some.injEq] at h; subst h; rename_i he; exact ⟨by omega, he⟩
      · cases h
/-- THE TRUTH WINS -/
theorem truth_wins (ss : List ByteArray) (t : ByteArray) (f : Nat) (hb : bad ss t ss.length ≤ f) (hn : 2 * f + 1 ≤ ss.length) : winV ss ((f : Int) + 1) = .tuple #[.string t, .nilIface] := by
  have hc := cn_truth ss t ss.length
  cases h : wn ss ((f : Int) + 1) ss.length with
  | none =>
    have := wn_none_cn ss (f + 1) (by omega) t ss.length h
    omega
  | some i =>
    obtain ⟨hi, he⟩ := wn_some_cn ss _ _ _ h
    rw [winV_some h (Nat.le_refl _)]
    by_cases e : gs ss i = t
    · rw [e]
    · have h1 := cn_other ss t (gs ss i) e (i + 1)
      have h2 := bad_mono ss t (show i + 1 ≤ ss.length by omega)
      omega
theorem cn_le_mo (ss : List ByteArray) (s : ByteArray) (k : Nat) : cn ss k s ≤ mo ss k := by
  induction k with
  | zero => simp [cn]
  | succ k ih =>
    simp only [mo]
    rw [cn_succ]
    by_cases e : s = gs ss k
    · subst e; simp; omega
    · simp [e]; omega
/-- HOW MANY SAY THE SAME -/
theorem most_truth (ss : List ByteArray) (t : ByteArray) (f : Nat) (hb : bad ss t ss.length ≤ f) : ss.length - f ≤ mo ss ss.length := by
  have := cn_truth ss t ss.length
  have := cn_le_mo ss t ss.length
  omega

/-- one of them set anew -/
def setS (l : List ByteArray) (p : Nat) (s : ByteArray) : List ByteArray := l.set p s
theorem gs_set (l : List ByteArray) (p : Nat) (s : ByteArray) (hp : p < l.length) (j : Nat) : gs (setS l p s) j = if j = p then s else gs l j := by
  unfold gs setS
  rw [List.getD_eq_getElem?_getD, List.getD_eq_getElem?_getD, List.getElem?_set]
  by_cases h : p = j
  · subst h; simp [hp]
  · rw [if_neg h, if_neg (fun e => h e.symm)]
theorem bad_set (l : List ByteArray) (t : ByteArray) (p : Nat) (s : ByteArray) (hp : p < l.length) (k : Nat) : bad (setS l p s) t k ≤ bad l t k + if p < k then 1 else 0 := by
  induction k with
  | zero => simp [bad]
  | succ k ih =>
    simp only [bad]
    rw [gs_set l p s hp k]
    by_cases e : k = p
    · subst e
      rw [if_pos rfl]
      simp only [Nat.lt_irrefl, if_false] at ih
      simp only [Nat.lt_succ_self, if_true]
      split <;> omega
    · rw [if_neg e]
      by_cases h1 : p < k
      · simp only [h1, if_true] at ih
        simp only [show p < k + 1 by omega, if_true]
        omega
      · simp only [h1, if_false] at ih
        simp only [show ¬ p < k + 1 by omega, if_false]
        omega
theorem bad_all (t : ByteArray) (n k : Nat) (hk : k ≤ n) : bad (List.replicate n t) t k = 0 := by
  induction k with
  | zero => rfl
  | succ k ih =>
    rw [bad, ih (by omega)]
    have : gs (List.replicate n t) k = t := by simp [gs, show k < n by omega]
    simp [this]
end Go.Proofs.YthkaaheeblehhaaGreatDoor
