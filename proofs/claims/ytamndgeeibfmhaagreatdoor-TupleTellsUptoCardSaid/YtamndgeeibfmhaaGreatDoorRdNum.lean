/- Numbers as text: strconv.Atoi and Itoa hand in hand say of a text what the document's reading says. No program in sight. -/
import Derived.Test.YtamndgeeibfmhaaGreatDoorVRef
import Derived.Lib.AtoiTie
import Derived.Lib.ItoaNum
import Derived.Lib.ItoaMem
import Derived.Lib.ItoaLen
import Derived.Lib.Strings
namespace Go.Proofs.YtamndgeeibfmhaaGreatDoor
set_option linter.unusedVariables false

theorem digit_val {b : UInt8} {d : Nat} (h : Lib.digitVal b = some d) : d < 10 ∧ b = UInt8.ofNat (48 + d) ∧ b.toNat = 48 + d := by
  unfold Lib.digitVal at h
  split at h
  · rename_i hb
    simp only [Option.some.injEq] at h
    refine ⟨by omega, ?_, by omega⟩
    rw [← h, show 48 + (b.toNat - 48) = b.toNat by omega]
    simp
  · cases h
theorem digit_of (d : Nat) (h : d < 10) : Lib.digitVal (UInt8.ofNat (48 + d)) = some d := by
  have e : (UInt8.ofNat (48 + d)).toNat = 48 + d := by
    rw [UInt8.toNat_ofNat']; omega
  unfold Lib.digitVal
  rw [e, if_pos (by omega)]
  simp
theorem dec_app : ∀ (l : List UInt8) (acc : Nat) (c : UInt8), Lib.decFrom acc (l ++ [c]) = (Lib.decFrom acc l).bind fun m => (Lib.digitVal c).map fun d => m * 10 + d
  | [], acc, c => by
    simp only [List.nil_append, Lib.decFrom, Option.bind]
    cases Lib.digitVal c <;> rfl
  | a :: t, acc, c => by
    simp only [List.cons_append, Lib.decFrom]
    cases h : Lib.digitVal a with
    | none => rfl
    | some e => exact dec_app t _ c
/-- the digits of a number are read as it -/
theorem dec_back (u : Nat) : Lib.decFrom 0 (Lib.decDigits u) = some u := by
  induction u using Nat.strongRecOn with
  | ind u ih =>
    by_cases h : u < 10
    · rw [Lib.decDigits_one h]
      rw [show Lib.decFrom 0 [UInt8.ofNat (48 + u)] = (match Lib.digitVal (UInt8.ofNat (48 + u)) with | some d => Lib.decFrom (0 * 10 + d) [] | none => none) from rfl, digit_of u h]
      simp [Lib.decFrom]
    · rw [Lib.decDigits, dif_neg h, dec_app, ih (u / 10) (by omega), digit_of _ (by omega)]
      simp only [Option.bind, Option.map, Option.some.injEq]
      omega
theorem dd_ne (u : Nat) : Lib.decDigits u ≠ [] := by
  intro e
  have h1 := Lib.decDigits_length u
  have h2 := Lib.nDigits_pos u
  rw [e] at h1
  simp at h1
  omega
/-- no numeral of a number but nought begins with nought -/
theorem dd_head (u : Nat) (h : 0 < u) : ∀ c, (Lib.decDigits u).head? = some c → c.toNat ≠ 48 ∧ 48 ≤ c.toNat ∧ c.toNat ≤ 57 := by
  induction u using Nat.strongRecOn with
  | ind u ih =>
    intro c hc
    by_cases h10 : u < 10
    · rw [Lib.decDigits_one h10] at hc
      simp only [List.head?_cons, Option.some.injEq] at hc
      subst hc
      have e : (UInt8.ofNat (48 + u)).toNat = 48 + u := by rw [UInt8.toNat_ofNat']; omega
      rw [e]; omega
    · rw [Lib.decDigits, dif_neg h10] at hc
      cases hd : Lib.decDigits (u / 10) with
      | nil => exact absurd hd (dd_ne _)
      | cons x r =>
        rw [hd] at hc
        exact ih (u / 10) (by omega) (by omega) c (by rw [hd]; simpa using hc)
theorem dd_zero : Lib.decDigits 0 = [48] := by rw [Lib.decDigits_one (by omega)]; rfl
/-- a row of digits that does not begin with nought is its number's numeral -/
theorem dd_of : ∀ (n : Nat) (l : List UInt8), l.length = n → l ≠ [] → (∀ c, l.head? = some c → c.toNat ≠ 48) → ∀ m, Lib.decFrom 0 l = some m → Lib.decDigits m = l ∧ 0 < m := by
  intro n
  induction n with
  | zero => intro l hl hne; exact absurd (List.eq_nil_of_length_eq_zero hl) hne
  | succ n ih =>
    intro l hl hne hh m hm
    obtain ⟨t, c, rfl⟩ : ∃ t c, l = t ++ [c] := ⟨l.dropLast, l.getLast hne, (List.dropLast_concat_getLast hne).symm⟩
    rw [dec_app] at hm
    cases ht : Lib.decFrom 0 t with
    | none => rw [ht] at hm; cases hm
    | some m0 =>
      rw [ht] at hm
      cases hc : Lib.digitVal c with
      | none => rw [hc] at hm; cases hm
      | some d =>
        rw [hc] at hm
        simp only [Option.bind, Option.map, Option.some.injEq] at hm
        obtain ⟨d1, d2, d3⟩ := digit_val hc
        by_cases e : t = []
        · subst e
          simp only [Lib.decFrom, Option.some.injEq] at ht
          subst ht
          have := hh c rfl
          obtain rfl : m = d := by omega
          refine ⟨?_, by omega⟩
          rw [Lib.decDigits_one d1, ← d2]; rfl
        · have hl2 : t.length = n := by simpa using hl
          obtain ⟨i1, i2⟩ := ih t hl2 e (fun x hx => hh x (by
            cases t with
            | nil => exact absurd rfl e
            | cons y r => simpa using hx)) m0 ht
          refine ⟨?_, by omega⟩
          rw [Lib.decDigits, dif_neg (by omega), show m / 10 = m0 by omega, i1, show m % 10 = d by omega, ← d2]
/-- a numeral's number, as it is read: at most seven digits, no nought ahead, no minus ahead of nought -/
def rdN (l : List UInt8) : Option Int :=
  if l.head? = some 45 then
    if l.tail.length < 1 ∨ 7 < l.tail.length ∨ l.tail.head? = some 48 then none else (Lib.decFrom 0 l.tail).map fun (m : Nat) => -(m : Int)
  else if l.length < 1 ∨ 7 < l.length ∨ (l.head? = some 48 ∧ 1 < l.length) then none else (Lib.decFrom 0 l).map fun (m : Nat) => (m : Int)
theorem rdN_cons (r : List UInt8) : rdN (45 :: r) = if r.length < 1 ∨ 7 < r.length ∨ r.head? = some 48 then none else (Lib.decFrom 0 r).map fun (m : Nat) => -(m : Int) := by
  unfold rdN
  rw [if_pos (show (45 :: r : List UInt8).head? = some 45 from rfl)]
  rfl
theorem rdN_other {l : List UInt8} (h : l.head? ≠ some 45) : rdN l = if l.length < 1 ∨ 7 < l.length ∨ (l.head? = some 48 ∧ 1 < l.length) then none else (Lib.decFrom 0 l).map fun (m : Nat) => (m : Int) := by
  unfold rdN
  rw [if_neg h]
/-- the same by strconv: it is read, it is written as it was, and it is not too long -/
def rdA (l : List UInt8) : Option Int :=
  match Lib.atoiAll l with
  | .ok n => if Lib.itoa n = l ∧ (Lib.trimPrefix l [45]).length ≤ 7 then some n else none
  | _ => none
theorem trim_minus (r : List UInt8) : Lib.trimPrefix (45 :: r) [45] = r := by
  simp [Lib.trimPrefix, Lib.hasPrefix, List.isPrefixOf]
theorem trim_other (l : List UInt8) (h : l.head? ≠ some 45) : Lib.trimPrefix l [45] = l := by
  cases l with
  | nil => simp [Lib.trimPrefix, Lib.hasPrefix, List.isPrefixOf]
  | cons c r =>
    have : c ≠ 45 := fun e => h (by rw [e]; rfl)
    have h2 : (45 == c) = false := by simp; exact fun e => this e.symm
    simp [Lib.trimPrefix, Lib.hasPrefix, List.isPrefixOf, h2]
theorem rdA_long {l : List UInt8} (h : 7 < (Lib.trimPrefix l [45]).length) : rdA l = none := by
  unfold rdA
  split
  · rw [if_neg (by omega)]
  · rfl
theorem itoa_pos {m : Nat} : Lib.itoa (m : Int) = Lib.decDigits m := Lib.itoa_nonneg m
theorem rd_digits {l : List UInt8} {m : Nat} (h : Lib.decFrom 0 l = some m) (hne : l ≠ []) : Lib.decDigits m = l ↔ ¬ (l.head? = some 48 ∧ 1 < l.length) := by
  constructor
  · rintro e ⟨h1, h2⟩
    rcases Nat.eq_zero_or_pos m with h0 | h0
    · subst h0
      rw [dd_zero] at e
      rw [← e] at h2
      simp at h2
    · rw [← e] at h1
      exact (dd_head m h0 48 h1).1 rfl
  · intro hn
    by_cases h48 : l.head? = some 48
    · have : ¬ 1 < l.length := fun h2 => hn ⟨h48, h2⟩
      cases l with
      | nil => exact absurd rfl hne
      | cons c r =>
        simp only [List.head?_cons, Option.some.injEq] at h48
        subst h48
        obtain rfl : r = [] := List.eq_nil_of_length_eq_zero (by rw [List.length_cons] at this; omega)
        simp only [Lib.decFrom, Lib.digitVal] at h
        simp at h
        subst h
        exact dd_zero
    · exact (dd_of l.length l rfl hne (fun c hc e => h48 (by rw [hc, ← UInt8.toNat_inj.1 (show c.toNat = (48 : UInt8).toNat from e)])) m h).1
/-- THE TWO READINGS ARE ONE -/
theorem rd_eq (l : List UInt8) : rdA l = rdN l := by
  by_cases hm : l.head? = some 45
  · obtain ⟨r, rfl⟩ : ∃ r, l = 45 :: r := by
      cases l with
      | nil => cases hm
      | cons c r => simp only [List.head?_cons, Option.some.injEq] at hm; exact ⟨r, by rw [hm]⟩
    rw [rdN_cons]
    by_cases h7 : 7 < r.length
    · rw [if_pos (.inr (.inl h7)), rdA_long (by rw [trim_minus]; exact h7)]
    · rw [rdA, Lib.atoiAll_minus, Lib.signed_short (by omega), trim_minus]
      cases hd : Lib.decNat r with
      | none =>
        simp only [Option.map, Lib.NumEnd.ofOption]
        split
        · rfl
        · rename_i hx
          have hne : r.isEmpty = false := by
            cases r with
            | nil => exact absurd (.inl (by simp)) hx
            | cons c t => rfl
          unfold Lib.decNat at hd
          rw [hne] at hd
          simp only [Bool.false_eq_true, if_false] at hd
          rw [hd]
      | some m =>
        obtain ⟨hne, hdf⟩ := Lib.decNat_some hd
        simp only [Option.map, Lib.NumEnd.ofOption]
        rw [hdf]
        have hpos : 1 ≤ r.length := List.length_pos_iff.2 hne
        by_cases h48 : r.head? = some 48
        · rw [if_neg, if_pos (.inr (.inr h48))]
          rintro ⟨e, _⟩
          rcases Nat.eq_zero_or_pos m with h0 | h0
          · subst h0
            have e2 : Lib.itoa (-((0 : Nat) : Int)) = [48] := by rw [show (-((0 : Nat) : Int)) = ((0 : Nat) : Int) by simp, itoa_pos, dd_zero]
            rw [e2] at e
            cases e
          · rw [Lib.itoa_neg m h0] at e
            injection e with _ e
            rw [← e] at h48
            exact (dd_head m h0 48 h48).1 rfl
        · have hh : ∀ c, r.head? = some c → c.toNat ≠ 48 := fun c hc e => h48 (by rw [hc, ← UInt8.toNat_inj.1 (show c.toNat = (48 : UInt8).toNat from e)])
          obtain ⟨d1, d2⟩ := dd_of r.length r rfl hne hh m hdf
          rw [if_pos ⟨by rw [Lib.itoa_neg m d2, d1], by omega⟩, if_neg (by rintro (h | h | h) <;> first | omega | exact h48 h)]
  · rw [rdN_other hm]
    have ht := trim_other l hm
    by_cases h7 : 7 < l.length
    · rw [if_pos (.inr (.inl h7)), rdA_long (by rw [ht]; exact h7)]
    · cases l with
      | nil => rfl
      | cons c r =>
        have h45 : c.toNat ≠ 45 := fun e => hm (by rw [List.head?_cons, ← UInt8.toNat_inj.1 (show c.toNat = (45 : UInt8).toNat from e)])
        by_cases h43 : c = 43
        · subst h43
          have hn : Lib.decFrom 0 (43 :: r) = none := by simp [Lib.decFrom, Lib.digitVal]
          rw [hn, rdA, Lib.atoiAll_plus]
          simp only [Option.map, ite_self]
          have hl : ∀ e : Lib.NumEnd Nat, (match Lib.signless e with
            | .ok n => if Lib.itoa n = 43 :: r ∧ (Lib.trimPrefix (43 :: r) [45]).length ≤ 7 then some n else none
            | _ => (none : Option Int)) = none := by
            intro e
            cases e with
            | range => rfl
            | ok u =>
              simp only [Lib.signless]
              split
              · rename_i n hx
                split at hx
                · cases hx
                · injection hx with hx
                  subst hx
                  rw [if_neg]
                  rintro ⟨e, _⟩
                  rw [itoa_pos] at e
                  rcases Nat.eq_zero_or_pos u with h0 | h0
                  · subst h0; rw [dd_zero] at e; cases e
                  · have := dd_head u h0 43 (by rw [e]; rfl)
                    exact absurd this.2.1 (by decide)
              · rfl
            | _ => rfl
          exact hl _
        · rw [rdA, Lib.atoiAll_plain c r (fun e => h43 (UInt8.toNat_inj.1 e)) h45, Lib.signless_short (by omega), ht]
          cases hd : Lib.decNat (c :: r) with
          | none =>
            have hdf : Lib.decFrom 0 (c :: r) = none := by simpa [Lib.decNat] using hd
            rw [hdf]
            simp only [Option.map, Lib.NumEnd.ofOption, ite_self]
          | some m =>
            obtain ⟨hne, hdf⟩ := Lib.decNat_some hd
            simp only [Option.map, Lib.NumEnd.ofOption]
            rw [hdf]
            have hi := rd_digits hdf hne
            have hl1 : ¬ (c :: r).length < 1 := by simp
            by_cases hx : (c :: r).head? = some 48 ∧ 1 < (c :: r).length
            · rw [if_neg, if_pos (.inr (.inr hx))]
              rintro ⟨e, _⟩
              rw [itoa_pos] at e
              exact hi.1 e hx
            · rw [if_pos ⟨by rw [itoa_pos]; exact hi.2 hx, by omega⟩, if_neg (by rintro (h | h | h) <;> first | omega | exact hx h)]
theorem nd_le : ∀ (k u : Nat), 1 ≤ k → u < 10 ^ k → Lib.nDigits u ≤ k
  | 0, _, h, _ => absurd h (by omega)
  | k + 1, u, _, h => by
    by_cases h10 : u < 10
    · rw [Lib.nDigits_small h10]; omega
    · rw [Lib.nDigits_big h10]
      have hk : 1 ≤ k := by
        rcases Nat.eq_zero_or_pos k with h0 | h0
        · subst h0; simp at h; omega
        · exact h0
      have := nd_le k (u / 10) hk (by rw [Nat.pow_succ] at h; omega)
      omega
/-- what is written is read as it was -/
theorem rdN_itoa (n : Int) (h0 : -1000000 ≤ n) (h1 : n ≤ 1000000) : rdN (Lib.itoa n) = some n := by
  have key : ∀ u : Nat, u ≤ 1000000 → (Lib.decDigits u).length ≤ 7 := fun u hu => by rw [Lib.decDigits_length]; exact nd_le 7 u (by omega) (by omega)
  by_cases hn : n < 0
  · obtain ⟨u, hu, rfl⟩ : ∃ u : Nat, 1 ≤ u ∧ n = -(u : Int) := ⟨n.natAbs, by omega, by omega⟩
    rw [Lib.itoa_neg u hu, rdN_cons, dec_back]
    have h7 := key u (by omega)
    have hp : 1 ≤ (Lib.decDigits u).length := List.length_pos_iff.2 (dd_ne u)
    rw [if_neg]
    · rfl
    · rintro (h | h | h)
      · omega
      · omega
      · exact (dd_head u hu 48 h).1 rfl
  · obtain ⟨u, rfl⟩ : ∃ u : Nat, n = (u : Int) := ⟨n.toNat, by omega⟩
    have h7 := key u (by omega)
    have hp : 1 ≤ (Lib.decDigits u).length := List.length_pos_iff.2 (dd_ne u)
    rw [itoa_pos, rdN, if_neg, if_neg]
    · rw [dec_back]; rfl
    · rintro (h | h | ⟨h, h2⟩)
      · omega
      · omega
      · rcases Nat.eq_zero_or_pos u with e | e
        · subst e; rw [dd_zero] at h2; simp at h2
        · exact (dd_head u e 48 h).1 rfl
    · intro h
      rcases Nat.eq_zero_or_pos u with e | e
      · subst e; rw [dd_zero] at h; cases h
      · have := dd_head u e 45 h
        exact absurd this.2.1 (by decide)
/-- a number that was read is written as it was -/
theorem itoa_rdN {l : List UInt8} {n : Int} (h : rdN l = some n) : Lib.itoa n = l := by
  rw [← rd_eq, rdA] at h
  split at h
  · split at h
    · rename_i m hm hc
      simp only [Option.some.injEq] at h
      rw [← h]; exact hc.1
    · cases h
  · cases h
theorem rdN_small {l : List UInt8} {n : Int} (h : rdN l = some n) : l.length ≤ 8 ∧ -10000000 < n ∧ n < 10000000 := by
  have b : ∀ (r : List UInt8) (m : Nat), r.length ≤ 7 → Lib.decFrom 0 r = some m → m < 10000000 := fun r m hr hm => by
    have := Lib.decFrom_lt r 0 m hm
    have hp : 10 ^ r.length ≤ 10 ^ 7 := Nat.pow_le_pow_right (by decide) hr
    have e : (10 : Nat) ^ 7 = 10000000 := by decide
    omega
  unfold rdN at h
  split at h
  · split at h
    · cases h
    · rename_i hm hx
      cases hd : Lib.decFrom 0 l.tail with
      | none => rw [hd] at h; cases h
      | some m =>
        rw [hd] at h
        simp only [Option.map, Option.some.injEq] at h
        have h7 : l.tail.length ≤ 7 := by omega
        have := b _ _ h7 hd
        rw [List.length_tail] at h7
        omega
  · split at h
    · cases h
    · rename_i hm hx
      cases hd : Lib.decFrom 0 l with
      | none => rw [hd] at h; cases h
      | some m =>
        rw [hd] at h
        simp only [Option.map, Option.some.injEq] at h
        have h7 : l.length ≤ 7 := by omega
        have := b _ _ h7 hd
        omega
end Go.Proofs.YtamndgeeibfmhaaGreatDoor
