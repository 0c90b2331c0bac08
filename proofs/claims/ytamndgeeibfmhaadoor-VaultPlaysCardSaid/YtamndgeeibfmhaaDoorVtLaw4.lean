/- VaultPlays: what the law's loop over what is asked with keeps. -/
import Derived.Test.YtamndgeeibfmhaaDoorVtLaw3
namespace Go.Proofs.YtamndgeeibfmhaaDoor
open Go.RowKit Go.ChangeShapes Go.WideShapes
set_option linter.unusedVariables false

/-- the loop over the shares that are asked with: e the fault, G the good ones -/
def R3 (e1 : Int) (many : Nat) (q : List Int) (S : List Sh) (k : Nat) (e : Int) (G : List Sh) : Prop :=
  (e1 ≠ 0 ∧ e = e1 ∧ G = []) ∨ (e1 = 0 ∧ e = 0 ∧ (∀ i, i < k → badB many S i = false) ∧ G = gdL q S k) ∨ (e1 = 0 ∧ e = 1 ∧ anyS (badB many S) S.length = true)
/-- what the vault keeps of the name, and the first fault -/
def Qq (o : Option (List Int)) (z : Int) (P : List (List Int)) (n : Nat) (S : List Sh) (q : List Int) (e1 : Int) : Prop :=
  (z = -1 ∧ o = none ∧ e1 = 5) ∨ ∃ i : Nat, z = (i : Int) ∧ i < n ∧ o = some q ∧ q = gg P i ∧ e1 = if 30 < S.length then 4 else 0
theorem Qq.make {o : Option (List Int)} {z : Int} {P : List (List Int)} {n : Nat} (S : List Sh) (h : (z = -1 ∧ o = none) ∨ ∃ i : Nat, z = (i : Int) ∧ i < n ∧ o = some (gg P i)) : ∃ (q : List Int) (e1 : Int), Qq o z P n S q e1 ∧ e1 = if z < 0 then 5 else if 30 < S.length then 4 else 0 := by
  rcases h with ⟨h1, h2⟩ | ⟨i, h1, h2, h3⟩
  · exact ⟨[], 5, .inl ⟨h1, h2, rfl⟩, by rw [if_pos (show z < 0 by omega)]⟩
  · exact ⟨gg P i, if 30 < S.length then 4 else 0, .inr ⟨i, h1, h2, h3, rfl, rfl⟩, by rw [if_neg (show ¬ z < 0 by omega)]⟩
theorem Qq.zero {o : Option (List Int)} {z : Int} {P : List (List Int)} {n : Nat} {S : List Sh} {q : List Int} {e1 : Int} (h : Qq o z P n S q e1) (h0 : e1 = 0) : ∃ i : Nat, z = (i : Int) ∧ i < n ∧ o = some q ∧ q = gg P i ∧ S.length ≤ 30 := by
  rcases h with ⟨_, _, h3⟩ | ⟨i, h1, h2, h3, h4, h5⟩
  · omega
  · refine ⟨i, h1, h2, h3, h4, ?_⟩
    split at h5 <;> omega
section
variable {e1 e : Int} {many need k n : Nat} {q : List Int} {S G : List Sh} {o : Option (List Int)} {z : Int} {P : List (List Int)}
theorem R3.start : R3 e1 many q S 0 e1 [] := by
  by_cases h : e1 = 0
  · exact .inr (.inl ⟨h, h, fun i hi => absurd hi (by omega), rfl⟩)
  · exact .inl ⟨h, rfl, rfl⟩
theorem R3.zero (h : R3 e1 many q S k 0 G) : e1 = 0 ∧ (∀ i, i < k → badB many S i = false) ∧ G = gdL q S k := by
  rcases h with ⟨h1, h2, _⟩ | ⟨h1, _, h3, h4⟩ | ⟨_, h2, _⟩
  · exact absurd h2.symm h1
  · exact ⟨h1, h3, h4⟩
  · cases h2
theorem any_of {p : Nat → Bool} {n i : Nat} (hi : i < n) (h : p i = true) : anyS p n = true := by
  cases e : anyS p n with
  | true => rfl
  | false => rw [anyS_false.1 e i hi] at h; cases h
theorem R3.bad (h : R3 e1 many q S k 0 G) (hk : k < S.length) (hb : badB many S k = true) : R3 e1 many q S (k + 1) 1 G := .inr (.inr ⟨h.zero.1, rfl, any_of hk hb⟩)
theorem R3.clean (h : R3 e1 many q S k 0 G) (hb : badB many S k = false) : ∀ i, i < k + 1 → badB many S i = false := fun i hi => by
  rcases Nat.lt_or_ge i k with hl | hl
  · exact h.zero.2.1 i hl
  · obtain rfl : i = k := by omega
    exact hb
theorem R3.yes (h : R3 e1 many q S k 0 G) (hb : badB many S k = false) (hy : ((gb S k == PM.hor q (ga S k)) && !(hadB G (ga S k) G.length)) = true) : R3 e1 many q S (k + 1) 0 (G ++ [(ga S k, gb S k)]) := by
  obtain ⟨h1, _, h3⟩ := h.zero
  subst h3
  exact .inr (.inl ⟨h1, rfl, h.clean hb, (gd_yes hy).symm⟩)
theorem R3.no (h : R3 e1 many q S k 0 G) (hb : badB many S k = false) (hy : ((gb S k == PM.hor q (ga S k)) && !(hadB G (ga S k) G.length)) = false) : R3 e1 many q S (k + 1) 0 G := by
  obtain ⟨h1, _, h3⟩ := h.zero
  subst h3
  exact .inr (.inl ⟨h1, rfl, h.clean hb, (gd_no hy).symm⟩)
theorem R3.len (h : R3 e1 many q S k 0 G) : G.length ≤ k := by rw [h.zero.2.2]; exact gdL_le q S k
theorem R3.end_ne (h : R3 e1 many q S k e G) (he : e ≠ 0) (hq : Qq o z P n S q e1) : ggE many need o S = e ∧ ggV many need o S = 0 := by
  rcases h with ⟨h1, h2, _⟩ | ⟨_, h2, _⟩ | ⟨h1, h2, h3⟩
  · subst h2
    rcases hq with ⟨_, q2, q3⟩ | ⟨i, _, _, q3, _, q5⟩
    · subst q2 q3; exact ⟨rfl, rfl⟩
    · subst q3
      by_cases h30 : 30 < S.length
      · rw [if_pos h30] at q5
        have : vgE many need q S = 4 := if_pos h30
        refine ⟨by simp only [ggE]; rw [this, q5], by simp only [ggV]; rw [this, if_neg (by decide)]⟩
      · rw [if_neg h30] at q5; exact absurd q5 h1
  · exact absurd h2 he
  · obtain ⟨i, _, _, q3, _, q5⟩ := hq.zero h1
    subst q3
    have : vgE many need q S = 1 := by rw [vgE, if_neg (by omega), if_pos h3]
    exact ⟨by simp only [ggE]; rw [this, h2], by simp only [ggV]; rw [this, if_neg (by decide)]⟩
theorem R3.vgE (h : R3 e1 many q S S.length 0 G) (hq : Qq o z P n S q e1) : o = some q ∧ Go.Proofs.YtamndgeeibfmhaaDoor.vgE many need q S = if G.length < need then 5 else 0 := by
  obtain ⟨h1, h2, h3⟩ := h.zero
  obtain ⟨i, _, _, q3, _, q5⟩ := hq.zero h1
  refine ⟨q3, ?_⟩
  rw [Go.Proofs.YtamndgeeibfmhaaDoor.vgE, if_neg (by omega), if_neg (by rw [anyS_false.2 h2]; decide), ← h3]
theorem R3.end_few (h : R3 e1 many q S S.length 0 G) (hq : Qq o z P n S q e1) (hl : G.length < need) : ggE many need o S = 5 ∧ ggV many need o S = 0 := by
  obtain ⟨h1, h2⟩ := h.vgE (need := need) hq
  rw [if_pos hl] at h2
  subst h1
  exact ⟨by simp only [ggE]; exact h2, by simp only [ggV]; rw [h2, if_neg (by decide)]⟩
theorem R3.end_ok (h : R3 e1 many q S S.length 0 G) (hq : Qq o z P n S q e1) (hl : ¬ G.length < need) : ggE many need o S = 0 ∧ ggV many need o S = thrL (G.take need) 0 := by
  obtain ⟨h1, h2⟩ := h.vgE (need := need) hq
  rw [if_neg hl] at h2
  subst h1
  refine ⟨by simp only [ggE]; exact h2, ?_⟩
  simp only [ggV]
  rw [h2, if_pos rfl, vgV, ← h.zero.2.2]
theorem R3.pts (h7 : many ≤ 7) (h : R3 e1 many q S S.length 0 G) : PM.Pts (ga G) (gb G) G.length := by
  obtain ⟨h1, h2, h3⟩ := h.zero
  rw [h3]
  exact good_pts h7 (gdL_good q S S.length) h2
end
end Go.Proofs.YtamndgeeibfmhaaDoor
