/- VaultPlays: the plain law of what Get tells. -/
import Derived.Test.YtamndgeeibfmhaaDoorVtLaw2
namespace Go.Proofs.YtamndgeeibfmhaaDoor
open Go.RowKit Go.ChangeShapes Go.WideShapes
set_option linter.unusedVariables false

/-- a row of one kind stays while one of another kind grows -/
theorem own_other {w w' : World} {o : Obj} {base c : Nat} {t t' : TypeId} {k n : Nat} {A : Option Addr} {xs : List Value} {row : Option Nat} (h : w.ownsRow base t k (.slice A n c) n xs) (hk : ∀ g, row = some g → kin w g t') (hne : t ≠ t') (hg : (w.alloc o).grownBy w' row) : w'.ownsRow base t k (.slice A n c) n xs := by
  have h1 : (w.alloc o).ownsRow base t k (.slice A n c) n xs := own_keep h (bal1 _ _)
  exact own_stayV h1 fun g hg' => (Go.Proofs.YtamndgeeibfmhaaDoor.Chs.grown hg).block g (own_block_of h1 hg').2.lt fun e => hne (kin.ne (own_block_of h hg').2 (hk g e))
/-- is one of the first j at this place? -/
def hadB (l : List Sh) (a : Int) : Nat → Bool
  | 0 => false
  | j + 1 => hadB l a j || (ga l j == a)
theorem hadB_true {l : List Sh} {a : Int} {n : Nat} : hadB l a n = true ↔ ∃ i, i < n ∧ ga l i = a := by
  induction n with
  | zero => simp [hadB]
  | succ n ih =>
    rw [hadB, Bool.or_eq_true, ih, beq_iff_eq]
    constructor
    · rintro (⟨i, hi, e⟩ | e)
      · exact ⟨i, by omega, e⟩
      · exact ⟨n, by omega, e⟩
    · rintro ⟨i, hi, e⟩
      by_cases h : i = n
      · subst h; exact .inr e
      · exact .inl ⟨i, by omega, e⟩
theorem gd_step {q : List Int} {S : List Sh} {k : Nat} : ((gb S k == PM.hor q (ga S k)) && !(hadB (gdL q S k) (ga S k) (gdL q S k).length)) = ((gb S k == PM.hor q (ga S k)) && !(hasB (gdL q S k) (ga S k) (gb S k))) := by
  by_cases h : gb S k = PM.hor q (ga S k)
  · have : hadB (gdL q S k) (ga S k) (gdL q S k).length = hasB (gdL q S k) (ga S k) (gb S k) := by
      rw [Bool.eq_iff_iff, hadB_true, hasB_true]
      constructor
      · rintro ⟨i, hi, e⟩
        exact ⟨i, hi, e, by rw [(gdL_good q S k).true_ i hi, e, h]⟩
      · rintro ⟨i, hi, e, _⟩
        exact ⟨i, hi, e⟩
    rw [this]
  · have : (gb S k == PM.hor q (ga S k)) = false := beq_eq_false_iff_ne.2 h
    rw [this, Bool.false_and, Bool.false_and]
theorem gd_yes {q : List Int} {S : List Sh} {k : Nat} (h : ((gb S k == PM.hor q (ga S k)) && !(hadB (gdL q S k) (ga S k) (gdL q S k).length)) = true) : gdL q S (k + 1) = gdL q S k ++ [(ga S k, gb S k)] := by
  rw [gd_step] at h
  rw [gdL, if_pos h]
theorem gd_no {q : List Int} {S : List Sh} {k : Nat} (h : ((gb S k == PM.hor q (ga S k)) && !(hadB (gdL q S k) (ga S k) (gdL q S k).length)) = false) : gdL q S (k + 1) = gdL q S k := by
  rw [gd_step] at h
  rw [gdL, if_neg (by rw [h]; decide)]
theorem infoIts : (Tryd.prog.info? 51).map (fun i => (i.zero, i.size, i.bytes)) = some (some (.slice none 0 0), 1, 24) := by kernel_rfl
theorem vpE_sh {n many need : Nat} {K : ByteArray → Option (List Int)} {s : ByteArray} {x : Int} {r : List Int} (h : vpE n many need K s x r = 0) : shE x r many = 0 := by
  unfold vpE at h
  split at h
  · cases h
  · split at h
    · cases h
    · split at h
      · cases h
      · split at h
        · contradiction
        · rename_i h4
          exact Classical.not_not.1 h4
theorem vpE_none {n many need : Nat} {K : ByteArray → Option (List Int)} {s : ByteArray} {x : Int} {r : List Int} (h : vpE n many need K s x r = 0) : K s = none := by
  unfold vpE at h
  split at h
  · cases h
  · split at h
    · cases h
    · rename_i h2
      cases e : K s with
      | none => rfl
      | some q => rw [e] at h2; exact absurd rfl h2
/-- the fault, but for the room -/
def v1E (s : ByteArray) (z : Int) (need : Nat) (x : Int) (r : List Int) (many : Nat) : Int := if 12 < s.size then 4 else if 0 ≤ z then 7 else if r.length + 1 ≠ need then 3 else shE x r many
theorem v1E_a {s : ByteArray} {z : Int} {need : Nat} {x : Int} {r : List Int} {many : Nat} (h : 12 < s.size) : v1E s z need x r many = 4 := if_pos h
theorem v1E_b {s : ByteArray} {z : Int} {need : Nat} {x : Int} {r : List Int} {many : Nat} (h : ¬ 12 < s.size) (h2 : 0 ≤ z) : v1E s z need x r many = 7 := by rw [v1E, if_neg h, if_pos h2]
theorem v1E_c {s : ByteArray} {z : Int} {need : Nat} {x : Int} {r : List Int} {many : Nat} (h : ¬ 12 < s.size) (h2 : ¬ 0 ≤ z) (h3 : r.length + 1 ≠ need) : v1E s z need x r many = 3 := by rw [v1E, if_neg h, if_neg h2, if_pos h3]
theorem v1E_d {s : ByteArray} {z : Int} {need : Nat} {x : Int} {r : List Int} {many : Nat} (h : ¬ 12 < s.size) (h2 : ¬ 0 ≤ z) (h3 : ¬ r.length + 1 ≠ need) : v1E s z need x r many = shE x r many := by rw [v1E, if_neg h, if_neg h2, if_neg h3]
theorem vp_split {n many need : Nat} {K : ByteArray → Option (List Int)} {s : ByteArray} {x z : Int} {r : List Int} (hz : (z = -1 ∧ K s = none) ∨ (0 ≤ z ∧ ∃ q, K s = some q)) : vpE n many need K s x r = if v1E s z need x r many ≠ 0 then v1E s z need x r many else if n = 20 then 4 else 0 := by
  by_cases a1 : 12 < s.size
  · rw [v1E_a a1, vpE, if_pos a1, if_pos (by decide)]
  · rcases hz with ⟨h1, h2⟩ | ⟨h1, q, h2⟩
    · have hz : ¬ 0 ≤ z := by omega
      rw [vpE, if_neg a1, h2, if_neg (by simp)]
      by_cases a3 : r.length + 1 ≠ need
      · rw [v1E_c a1 hz a3, if_pos a3, if_pos (by decide)]
      · rw [v1E_d a1 hz a3, if_neg a3]
    · rw [vpE, if_neg a1, h2, if_pos (show (some q).isSome = true from rfl), v1E_b a1 h1, if_pos (by decide)]
end Go.Proofs.YtamndgeeibfmhaaDoor
