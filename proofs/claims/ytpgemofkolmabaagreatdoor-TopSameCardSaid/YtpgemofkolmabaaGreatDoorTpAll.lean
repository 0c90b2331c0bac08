/- Numbers as text: strconv.Atoi and Itoa hand in hand say of a text what the document's reading says. No program in sight. The reference's Read: what it returns. A text cut at each byte: plain laws. A loop over an iterator of texts that keeps its place in a box of its own (strings.Lines, strings.SplitSeq): what the caller owes. strings.SplitSeq at a byte: what its iterator gives. Texts as values: value.Read and Parse: what each returns. value.Parse: what it returns. tuple.Parse: what it returns. The reference's Read, the rest. tuple.Parse, any text; the reference's Cut and ReadTuple. value.Order: what it returns. The reference's Order: what it returns. What is read was written so; which comes first: plain laws. A tuple is read as it was written; what asks for less fits more: plain laws. A text's lines: plain laws. Records as text, and read back: plain laws. -/
import Derived.Test.YtpgemofkolmabaaGreatDoorVRef
import Derived.Lib.AtoiTie
import Derived.Lib.ItoaNum
import Derived.Lib.ItoaMem
import Derived.Lib.ItoaLen
import Derived.Lib.Strings
import Derived.WalkKit
import Derived.WalkLawsBesides
import Derived.WalkSpells
import Derived.RegionTactic
import Derived.Outline
import Derived.Lib.IndexLaws
import Derived.RangeFuncNested
import Derived.RangeFuncBound
import Derived.RangeFuncCalls
import Derived.RangeFuncLeaves
import Derived.RangeFuncBox
import Derived.Shelf.Abstract
import Derived.OwnWalkIn
import Derived.TacticsInMore
import Derived.LoopNIn
import Derived.LoopIn
import Derived.Test.YtpgemofkolmabaaGreatDoorMem
import Derived.Test.YtpgemofkolmabaaGreatDoorChs
import Derived.Test.YtpgemofkolmabaaGreatDoorShelf
import Derived.Test.YtpgemofkolmabaaGreatDoorWord
import Derived.Test.YtpgemofkolmabaaGreatDoorVOwn
import Derived.Test.YtpgemofkolmabaaGreatDoorOStr
import Derived.Test.YtpgemofkolmabaaGreatDoorTuple
import Derived.Deep.RegionHeld3
import Derived.Deep.QuietTactic
import Derived.BigQuiet
import Derived.Test.YtpgemofkolmabaaGreatDoorLine
import Derived.Lib.Fields
namespace Go.Proofs.YtpgemofkolmabaaGreatDoor
set_option linter.unusedVariables false

theorem digit_val {b : UInt8} {d : Nat} (h : Lib.digitVal b = some d) : d < 10 ∧ b = UInt8.ofNat (48 + d) ∧ b.toNat = 48 + d := by
  unfold Lib.digitVal at h
  split at h
  · rename_i hb
    simp only [Option.some.injEq] at h
    refine ⟨by omega, ?_, by omega⟩
    rw [← h, show 48 + (b.toNat - 48) = b.toNat by omega]
    simp
  · cases h
theorem digit_of (d : Nat) (h : d < 10) : Lib.digitVal (UInt8.ofNat (48 + d)) = some d := by
  have e : (UInt8.ofNat (48 + d)).toNat = 48 + d := by
    rw [UInt8.toNat_ofNat']; omega
  unfold Lib.digitVal
  rw [e, if_pos (by omega)]
  simp
theorem dec_app : ∀ (l : List UInt8) (acc : Nat) (c : UInt8), Lib.decFrom acc (l ++ [c]) = (Lib.decFrom acc l).bind fun m => (Lib.digitVal c).map fun d => m * 10 + d
  | [], acc, c => by
    simp only [List.nil_append, Lib.decFrom, Option.bind]
    cases Lib.digitVal c <;> rfl
  | a :: t, acc, c => by
    simp only [List.cons_append, Lib.decFrom]
    cases h : Lib.digitVal a with
    | none => rfl
    | some e => exact dec_app t _ c
/-- the digits of a number are read as it -/
theorem dec_back (u : Nat) : Lib.decFrom 0 (Lib.decDigits u) = some u := by
  induction u using Nat.strongRecOn with
  | ind u ih =>
    by_cases h : u < 10
    · rw [Lib.decDigits_one h]
      rw [show Lib.decFrom 0 [UInt8.ofNat (48 + u)] = (match Lib.digitVal (UInt8.ofNat (48 + u)) with | some d => Lib.decFrom (0 * 10 + d) [] | none => none) from rfl, digit_of u h]
      simp [Lib.decFrom]
    · rw [Lib.decDigits, dif_neg h, dec_app, ih (u / 10) (by omega), digit_of _ (by omega)]
      simp only [Option.bind, Option.map, Option.some.injEq]
      omega
theorem dd_ne (u : Nat) : Lib.decDigits u ≠ [] := by
  intro e
  have h1 := Lib.decDigits_length u
  have h2 := Lib.nDigits_pos u
  rw [e] at h1
  simp at h1
  omega
/-- no numeral of a number but nought begins with nought -/
theorem dd_head (u : Nat) (h : 0 < u) : ∀ c, (Lib.decDigits u).head? = some c → c.toNat ≠ 48 ∧ 48 ≤ c.toNat ∧ c.toNat ≤ 57 := by
  induction u using Nat.strongRecOn with
  | ind u ih =>
    intro c hc
    by_cases h10 : u < 10
    · rw [Lib.decDigits_one h10] at hc
      simp only [List.head?_cons, Option.some.injEq] at hc
      subst hc
      have e : (UInt8.ofNat (48 + u)).toNat = 48 + u := by rw [UInt8.toNat_ofNat']; omega
      rw [e]; omega
    · rw [Lib.decDigits, dif_neg h10] at hc
      cases hd : Lib.decDigits (u / 10) with
      | nil => exact absurd hd (dd_ne _)
      | cons x r =>
        rw [hd] at hc
        exact ih (u / 10) (by omega) (by omega) c (by rw [hd]; simpa using hc)
theorem dd_zero : Lib.decDigits 0 = [48] := by rw [Lib.decDigits_one (by omega)]; rfl
/-- a row of digits that does not begin with nought is its number's numeral -/
theorem dd_of : ∀ (n : Nat) (l : List UInt8), l.length = n → l ≠ [] → (∀ c, l.head? = some c → c.toNat ≠ 48) → ∀ m, Lib.decFrom 0 l = some m → Lib.decDigits m = l ∧ 0 < m := by
  intro n
  induction n with
  | zero => intro l hl hne; exact absurd (List.eq_nil_of_length_eq_zero hl) hne
  | succ n ih =>
    intro l hl hne hh m hm
    obtain ⟨t, c, rfl⟩ : ∃ t c, l = t ++ [c] := ⟨l.dropLast, l.getLast hne, (List.dropLast_concat_getLast hne).symm⟩
    rw [dec_app] at hm
    cases ht : Lib.decFrom 0 t with
    | none => rw [ht] at hm; cases hm
    | some m0 =>
      rw [ht] at hm
      cases hc : Lib.digitVal c with
      | none => rw [hc] at hm; cases hm
      | some d =>
        rw [hc] at hm
        simp only [Option.bind, Option.map, Option.some.injEq] at hm
        obtain ⟨d1, d2, d3⟩ := digit_val hc
        by_cases e : t = []
        · subst e
          simp only [Lib.decFrom, Option.some.injEq] at ht
          subst ht
          have := hh c rfl
          obtain rfl : m = d := by omega
          refine ⟨?_, by omega⟩
          rw [Lib.decDigits_one d1, ← d2]; rfl
        · have hl2 : t.length = n := by simpa using hl
          obtain ⟨i1, i2⟩ := ih t hl2 e (fun x hx => hh x (by
            cases t with
            | nil => exact absurd rfl e
            | cons y r => simpa using hx)) m0 ht
          refine ⟨?_, by omega⟩
          rw [Lib.decDigits, dif_neg (by omega), show m / 10 = m0 by omega, i1, show m % 10 = d by omega, ← d2]
/-- a numeral's number, as it is read: at most seven digits, no nought ahead, no minus ahead of nought -/
def rdN (l : List UInt8) : Option Int :=
  if l.head? = some 45 then
    if l.tail.length < 1 ∨ 7 < l.tail.length ∨ l.tail.head? = some 48 then none else (Lib.decFrom 0 l.tail).map fun (m : Nat) => -(m : Int)
  else if l.length < 1 ∨ 7 < l.length ∨ (l.head? = some 48 ∧ 1 < l.length) then none else (Lib.decFrom 0 l).map fun (m : Nat) => (m : Int)
theorem rdN_cons (r : List UInt8) : rdN (45 :: r) = if r.length < 1 ∨ 7 < r.length ∨ r.head? = some 48 then none else (Lib.decFrom 0 r).map fun (m : Nat) => -(m : Int) := by
  unfold rdN
  rw [if_pos (show (45 :: r : List UInt8).head? = some 45 from rfl)]
  rfl
theorem rdN_other {l : List UInt8} (h : l.head? ≠ some 45) : rdN l = if l.length < 1 ∨ 7 < l.length ∨ (l.head? = some 48 ∧ 1 < l.length) then none else (Lib.decFrom 0 l).map fun (m : Nat) => (m : Int) := by
  unfold rdN
  rw [if_neg h]
/-- the same by strconv: it is read, it is written as it was, and it is not too long -/
def rdA (l : List UInt8) : Option Int :=
  match Lib.atoiAll l with
  | .ok n => if Lib.itoa n = l ∧ (Lib.trimPrefix l [45]).length ≤ 7 then some n else none
  | _ => none
theorem trim_minus (r : List UInt8) : Lib.trimPrefix (45 :: r) [45] = r := by
  simp [Lib.trimPrefix, Lib.hasPrefix, List.isPrefixOf]
theorem trim_other (l : List UInt8) (h : l.head? ≠ some 45) : Lib.trimPrefix l [45] = l := by
  cases l with
  | nil => simp [Lib.trimPrefix, Lib.hasPrefix, List.isPrefixOf]
  | cons c r =>
    have : c ≠ 45 := fun e => h (by rw [e]; rfl)
    have h2 : (45 == c) = false := by simp; exact fun e => this e.symm
    simp [Lib.trimPrefix, Lib.hasPrefix, List.isPrefixOf, h2]
theorem rdA_long {l : List UInt8} (h : 7 < (Lib.trimPrefix l [45]).length) : rdA l = none := by
  unfold rdA
  split
  · rw [if_neg (by omega)]
  · rfl
theorem itoa_pos {m : Nat} : Lib.itoa (m : Int) = Lib.decDigits m := Lib.itoa_nonneg m
theorem rd_digits {l : List UInt8} {m : Nat} (h : Lib.decFrom 0 l = some m) (hne : l ≠ []) : Lib.decDigits m = l ↔ ¬ (l.head? = some 48 ∧ 1 < l.length) := by
  constructor
  · rintro e ⟨h1, h2⟩
    rcases Nat.eq_zero_or_pos m with h0 | h0
    · subst h0
      rw [dd_zero] at e
      rw [← e] at h2
      simp at h2
    · rw [← e] at h1
      exact (dd_head m h0 48 h1).1 rfl
  · intro hn
    by_cases h48 : l.head? = some 48
    · have : ¬ 1 < l.length := fun h2 => hn ⟨h48, h2⟩
      cases l with
      | nil => exact absurd rfl hne
      | cons c r =>
        simp only [List.head?_cons, Option.some.injEq] at h48
        subst h48
        obtain rfl : r = [] := List.eq_nil_of_length_eq_zero (by rw [List.length_cons] at this; omega)
        simp only [Lib.decFrom, Lib.digitVal] at h
        simp at h
        subst h
        exact dd_zero
    · exact (dd_of l.length l rfl hne (fun c hc e => h48 (by rw [hc, ← UInt8.toNat_inj.1 (show c.toNat = (48 : UInt8).toNat from e)])) m h).1
/-- THE TWO READINGS ARE ONE -/
theorem rd_eq (l : List UInt8) : rdA l = rdN l := by
  by_cases hm : l.head? = some 45
  · obtain ⟨r, rfl⟩ : ∃ r, l = 45 :: r := by
      cases l with
      | nil => cases hm
      | cons c r => simp only [List.head?_cons, Option.some.injEq] at hm; exact ⟨r, by rw [hm]⟩
    rw [rdN_cons]
    by_cases h7 : 7 < r.length
    · rw [if_pos (.inr (.inl h7)), rdA_long (by rw [trim_minus]; exact h7)]
    · rw [rdA, Lib.atoiAll_minus, Lib.signed_short (by omega), trim_minus]
      cases hd : Lib.decNat r with
      | none =>
        simp only [Option.map, Lib.NumEnd.ofOption]
        split
        · rfl
        · rename_i hx
          have hne : r.isEmpty = false := by
            cases r with
            | nil => exact absurd (.inl (by simp)) hx
            | cons c t => rfl
          unfold Lib.decNat at hd
          rw [hne] at hd
          simp only [Bool.false_eq_true, if_false] at hd
          rw [hd]
      | some m =>
        obtain ⟨hne, hdf⟩ := Lib.decNat_some hd
        simp only [Option.map, Lib.NumEnd.ofOption]
        rw [hdf]
        have hpos : 1 ≤ r.length := List.length_pos_iff.2 hne
        by_cases h48 : r.head? = some 48
        · rw [if_neg, if_pos (.inr (.inr h48))]
          rintro ⟨e, _⟩
          rcases Nat.eq_zero_or_pos m with h0 | h0
          · subst h0
            have e2 : Lib.itoa (-((0 : Nat) : Int)) = [48] := by rw [show (-((0 : Nat) : Int)) = ((0 : Nat) : Int) by simp, itoa_pos, dd_zero]
            rw [e2] at e
            cases e
          · rw [Lib.itoa_neg m h0] at e
            injection e with _ e
            rw [← e] at h48
            exact (dd_head m h0 48 h48).1 rfl
        · have hh : ∀ c, r.head? = some c → c.toNat ≠ 48 := fun c hc e => h48 (by rw [hc, ← UInt8.toNat_inj.1 (show c.toNat = (48 : UInt8).toNat from e)])
          obtain ⟨d1, d2⟩ := dd_of r.length r rfl hne hh m hdf
          rw [if_pos ⟨by rw [Lib.itoa_neg m d2, d1], by omega⟩, if_neg (by rintro (h | h | h) <;> first | omega | exact h48 h)]
  · rw [rdN_other hm]
    have ht := trim_other l hm
    by_cases h7 : 7 < l.length
    · rw [if_pos (.inr (.inl h7)), rdA_long (by rw [ht]; exact h7)]
    · cases l with
      | nil => rfl
      | cons c r =>
        have h45 : c.toNat ≠ 45 := fun e => hm (by rw [List.head?_cons, ← UInt8.toNat_inj.1 (show c.toNat = (45 : UInt8).toNat from e)])
        by_cases h43 : c = 43
        · subst h43
          have hn : Lib.decFrom 0 (43 :: r) = none := by simp [Lib.decFrom, Lib.digitVal]
          rw [hn, rdA, Lib.atoiAll_plus]
          simp only [Option.map, ite_self]
          have hl : ∀ e : Lib.NumEnd Nat, (match Lib.signless e with
            | .ok n => if Lib.itoa n = 43 :: r ∧ (Lib.trimPrefix (43 :: r) [45]).length ≤ 7 then some n else none
            | _ => (none : Option Int)) = none := by
            intro e
            cases e with
            | range => rfl
            | ok u =>
              simp only [Lib.signless]
              split
              · rename_i n hx
                split at hx
                · cases hx
                · injection hx with hx
                  subst hx
                  rw [if_neg]
                  rintro ⟨e, _⟩
                  rw [itoa_pos] at e
                  rcases Nat.eq_zero_or_pos u with h0 | h0
                  · subst h0; rw [dd_zero] at e; cases e
                  · have := dd_head u h0 43 (by rw [e]; rfl)
                    exact absurd this.2.1 (by decide)
              · rfl
            | _ => rfl
          exact hl _
        · rw [rdA, Lib.atoiAll_plain c r (fun e => h43 (UInt8.toNat_inj.1 e)) h45, Lib.signless_short (by omega), ht]
          cases hd : Lib.decNat (c :: r) with
          | none =>
            have hdf : Lib.decFrom 0 (c :: r) = none := by simpa [Lib.decNat] using hd
            rw [hdf]
            simp only [Option.map, Lib.NumEnd.ofOption, ite_self]
          | some m =>
            obtain ⟨hne, hdf⟩ := Lib.decNat_some hd
            simp only [Option.map, Lib.NumEnd.ofOption]
            rw [hdf]
            have hi := rd_digits hdf hne
            have hl1 : ¬ (c :: r).length < 1 := by simp
            by_cases hx : (c :: r).head? = some 48 ∧ 1 < (c :: r).length
            · rw [if_neg, if_pos (.inr (.inr hx))]
              rintro ⟨e, _⟩
              rw [itoa_pos] at e
              exact hi.1 e hx
            · rw [if_pos ⟨by rw [itoa_pos]; exact hi.2 hx, by omega⟩, if_neg (by rintro (h | h | h) <;> first | omega | exact hx h)]
theorem nd_le : ∀ (k u : Nat), 1 ≤ k → u < 10 ^ k → Lib.nDigits u ≤ k
  | 0, _, h, _ => absurd h (by omega)
  | k + 1, u, _, h => by
    by_cases h10 : u < 10
    · rw [Lib.nDigits_small h10]; omega
    · rw [Lib.nDigits_big h10]
      have hk : 1 ≤ k := by
        rcases Nat.eq_zero_or_pos k with h0 | h0
        · subst h0; simp at h; omega
        · exact h0
      have := nd_le k (u / 10) hk (by rw [Nat.pow_succ] at h; omega)
      omega
/-- what is written is read as it was -/
theorem rdN_itoa (n : Int) (h0 : -1000000 ≤ n) (h1 : n ≤ 1000000) : rdN (Lib.itoa n) = some n := by
  have key : ∀ u : Nat, u ≤ 1000000 → (Lib.decDigits u).length ≤ 7 := fun u hu => by rw [Lib.decDigits_length]; exact nd_le 7 u (by omega) (by omega)
  by_cases hn : n < 0
  · obtain ⟨u, hu, rfl⟩ : ∃ u : Nat, 1 ≤ u ∧ n = -(u : Int) := ⟨n.natAbs, by omega, by omega⟩
    rw [Lib.itoa_neg u hu, rdN_cons, dec_back]
    have h7 := key u (by omega)
    have hp : 1 ≤ (Lib.decDigits u).length := List.length_pos_iff.2 (dd_ne u)
    rw [if_neg]
    · rfl
    · rintro (h | h | h)
      · omega
      · omega
      · exact (dd_head u hu 48 h).1 rfl
  · obtain ⟨u, rfl⟩ : ∃ u : Nat, n = (u : Int) := ⟨n.toNat, by omega⟩
    have h7 := key u (by omega)
    have hp : 1 ≤ (Lib.decDigits u).length := List.length_pos_iff.2 (dd_ne u)
    rw [itoa_pos, rdN, if_neg, if_neg]
    · rw [dec_back]; rfl
    · rintro (h | h | ⟨h, h2⟩)
      · omega
      · omega
      · rcases Nat.eq_zero_or_pos u with e | e
        · subst e; rw [dd_zero] at h2; simp at h2
        · exact (dd_head u e 48 h).1 rfl
    · intro h
      rcases Nat.eq_zero_or_pos u with e | e
      · subst e; rw [dd_zero] at h; cases h
      · have := dd_head u e 45 h
        exact absurd this.2.1 (by decide)
/-- a number that was read is written as it was -/
theorem itoa_rdN {l : List UInt8} {n : Int} (h : rdN l = some n) : Lib.itoa n = l := by
  rw [← rd_eq, rdA] at h
  split at h
  · split at h
    · rename_i m hm hc
      simp only [Option.some.injEq] at h
      rw [← h]; exact hc.1
    · cases h
  · cases h
theorem rdN_small {l : List UInt8} {n : Int} (h : rdN l = some n) : l.length ≤ 8 ∧ -10000000 < n ∧ n < 10000000 := by
  have b : ∀ (r : List UInt8) (m : Nat), r.length ≤ 7 → Lib.decFrom 0 r = some m → m < 10000000 := fun r m hr hm => by
    have := Lib.decFrom_lt r 0 m hm
    have hp : 10 ^ r.length ≤ 10 ^ 7 := Nat.pow_le_pow_right (by decide) hr
    have e : (10 : Nat) ^ 7 = 10000000 := by decide
    omega
  unfold rdN at h
  split at h
  · split at h
    · cases h
    · rename_i hm hx
      cases hd : Lib.decFrom 0 l.tail with
      | none => rw [hd] at h; cases h
      | some m =>
        rw [hd] at h
        simp only [Option.map, Option.some.injEq] at h
        have h7 : l.tail.length ≤ 7 := by omega
        have := b _ _ h7 hd
        rw [List.length_tail] at h7
        omega
  · split at h
    · cases h
    · rename_i hm hx
      cases hd : Lib.decFrom 0 l with
      | none => rw [hd] at h; cases h
      | some m =>
        rw [hd] at h
        simp only [Option.map, Option.some.injEq] at h
        have h7 : l.length ≤ 7 := by omega
        have := b _ _ h7 hd
        omega
end Go.Proofs.YtpgemofkolmabaaGreatDoor
namespace Go.Proofs.YtpgemofkolmabaaGreatDoor
open Go.RowKit
set_option linter.unusedVariables false

def v0 : Va := ⟨0, 0, ⟨#[]⟩⟩
/-- what a text is read as -/
def rdV (s : ByteArray) : Option Va :=
  if s = ⟨#[42]⟩ then some ⟨2, 0, ⟨#[]⟩⟩ else if s.data.toList.head? = some 58 then some ⟨1, 0, s.extract 1 s.size⟩ else (rdN s.data.toList).map fun n => ⟨0, n, ⟨#[]⟩⟩
/-- its fault -/
def rdE (s : ByteArray) : Int := match rdV s with
  | none => 2
  | some v => vaE v
/-- what is handed back -/
def rdR (s : ByteArray) : Va := match rdV s with
  | none => v0
  | some v => if vaE v = 0 then v else v0
theorem rd_none {s : ByteArray} (h : rdV s = none) : rdE s = 2 ∧ rdR s = v0 := by simp [rdE, rdR, h]
theorem rd_some {s : ByteArray} {v : Va} (h : rdV s = some v) : rdE s = vaE v ∧ rdR s = if vaE v = 0 then v else v0 := by simp [rdE, rdR, h]
theorem head_of {s : ByteArray} (h : 0 < s.size) : s.data.toList.head? = some s[0] := by
  cases s with
  | mk a =>
    cases a with
    | mk l =>
      cases l with
      | nil => exact absurd h (by simp [ByteArray.size])
      | cons x r => rfl
theorem head_none {s : ByteArray} (h : s.size = 0) : s.data.toList.head? = none := by
  cases s with
  | mk a =>
    cases a with
    | mk l =>
      cases l with
      | nil => rfl
      | cons x r => exact absurd h (by simp [ByteArray.size])
theorem byte_eq {c : UInt8} {n : Nat} (hn : n < 256) : c.toNat = n ↔ c = UInt8.ofNat n := by
  constructor
  · intro h; rw [← h]; simp
  · intro h; rw [h, UInt8.toNat_ofNat']; omega
theorem rdV_num {s : ByteArray} (h1 : s ≠ ⟨#[42]⟩) (h2 : s.size = 0 ∨ ∃ h : 0 < s.size, (s[0]'h).toNat ≠ 58) : rdV s = (rdN s.data.toList).map fun n => ⟨0, n, ⟨#[]⟩⟩ := by
  rw [rdV, if_neg h1, if_neg]
  rcases h2 with h | ⟨h, h3⟩
  · rw [head_none h]; simp
  · rw [head_of h]
    intro e
    simp only [Option.some.injEq] at e
    exact h3 (by rw [e]; rfl)
theorem rdV_text {s : ByteArray} (h1 : s ≠ ⟨#[42]⟩) (h : 0 < s.size) (h2 : s[0].toNat = 58) : rdV s = some ⟨1, 0, s.extract 1 s.size⟩ := by
  rw [rdV, if_neg h1, if_pos]
  rw [head_of h, (byte_eq (by decide)).1 h2]; rfl
theorem star_head {s : ByteArray} (h : 0 < s.size) (h2 : s[0].toNat ≠ 42) : s ≠ ⟨#[42]⟩ := by
  rintro rfl
  exact h2 rfl
/-- the digits behind the sign -/
def dgs (s : ByteArray) (q : Nat) : List UInt8 := s.data.toList.drop q
theorem dgs_len (s : ByteArray) (q : Nat) : (dgs s q).length = s.size - q := by
  unfold dgs
  rw [List.length_drop, Array.length_toList]
  rfl
theorem star_other {s : ByteArray} (h : s ≠ ⟨#[42]⟩) : (s.toList == [42]) = false := by
  rw [beq_eq_false_iff_ne, ByteArray.toList_eq]
  exact fun e => h (bytes_eq e)
theorem list_at {s : ByteArray} {i : Nat} (h : i < s.size) : s.data.toList[i]? = some s[i] := by
  have h2 : i < s.data.toList.length := by rw [Array.length_toList]; exact h
  rw [List.getElem?_eq_getElem h2]; rfl
theorem dgs_head {s : ByteArray} {q : Nat} (h : q < s.size) : (dgs s q).head? = some s[q] := by
  rw [dgs, List.head?_drop]
  exact list_at h
theorem dgs_at {s : ByteArray} {q i : Nat} (h : q + i < s.size) : (dgs s q)[i]? = some s[q + i] := by
  rw [dgs, List.getElem?_drop]
  exact list_at h
theorem rdN_plain {s : ByteArray} (h : s.size = 0 ∨ ∃ h : 0 < s.size, (s[0]'h).toNat ≠ 45) : rdN s.data.toList = if (dgs s 0).length < 1 ∨ 7 < (dgs s 0).length ∨ ((dgs s 0).head? = some 48 ∧ 1 < (dgs s 0).length) then none else (Lib.decFrom 0 (dgs s 0)).map fun (m : Nat) => (m : Int) := by
  rw [rdN, if_neg]
  · rfl
  · rcases h with h | ⟨h, h3⟩
    · rw [head_none h]; simp
    · rw [head_of h]
      intro e
      simp only [Option.some.injEq] at e
      exact h3 (by rw [e]; rfl)
theorem rdN_minus {s : ByteArray} (h : 0 < s.size) (h3 : s[0].toNat = 45) : rdN s.data.toList = if (dgs s 1).length < 1 ∨ 7 < (dgs s 1).length ∨ (dgs s 1).head? = some 48 then none else (Lib.decFrom 0 (dgs s 1)).map fun (m : Nat) => -(m : Int) := by
  rw [rdN, if_pos (by rw [head_of h, (byte_eq (by decide)).1 h3]; rfl), ← List.drop_one]
  rfl
theorem dec_take_succ {l : List UInt8} {i m : Nat} {c : UInt8} (h : Lib.decFrom 0 (l.take i) = some m) (hc : l[i]? = some c) (h1 : 48 ≤ c.toNat) (h2 : c.toNat ≤ 57) : Lib.decFrom 0 (l.take (i + 1)) = some (m * 10 + (c.toNat - 48)) :=
  Lib.decFrom_take l i 0 m c _ h hc (by rw [Lib.digitVal, if_pos ⟨h1, h2⟩])
theorem dec_bad : ∀ (l : List UInt8) (i acc : Nat) (c : UInt8), l[i]? = some c → Lib.digitVal c = none → Lib.decFrom acc l = none
  | [], i, acc, c, h, _ => by simp at h
  | a :: t, 0, acc, c, h, hd => by
    simp only [List.getElem?_cons_zero, Option.some.injEq] at h
    subst h
    simp [Lib.decFrom, hd]
  | a :: t, i + 1, acc, c, h, hd => by
    simp only [List.getElem?_cons_succ] at h
    simp only [Lib.decFrom]
    cases Lib.digitVal a with
    | none => rfl
    | some e => exact dec_bad t i _ c h hd
theorem dec_take_lt {l : List UInt8} {i m : Nat} (h : Lib.decFrom 0 (l.take i) = some m) (hi : i ≤ 7) : m < 10000000 := by
  have h1 := Lib.decFrom_lt (l.take i) 0 m h
  have hp : 10 ^ (l.take i).length ≤ 10 ^ 7 := Nat.pow_le_pow_right (by decide) (by rw [List.length_take]; omega)
  have e : (10 : Nat) ^ 7 = 10000000 := by decide
  omega
set_option maxHeartbeats 1600000 in
set_option maxRecDepth 100000 in
theorem rread_minus (s : ByteArray) (hs : s.size ≤ 140737488351232) (hsz : 0 < s.size) (h42 : s ≠ ⟨#[42]⟩) (h58 : s[0].toNat ≠ 58) (h45 : s[0].toNat = 45) (w : World) :
    Calls Tryz.prog 94 #[.string s] w fun e w' => e = .returned (.tuple #[.agg #[.int .i64 (rdR s).k, .int .i64 (rdR s).n, .string (rdR s).s], .int .i64 (rdE s)]) ∧ Below w.heap.size w w' := by
  have t1 := star_other h42
  have t2 : ((s[0].toNat : Int) == 58) = false := beq_eq_false_iff_ne.2 (by omega)
  have t3 : ((s[0].toNat : Int) == 45) = true := beq_iff_eq.2 (by omega)
  have hv := rdV_num h42 (.inr ⟨hsz, h58⟩)
  have hl := dgs_len s 1
  rw [rdN_minus hsz h45, hl] at hv
  by_cases k1 : s.size = 1
  · have c1 : decide ((s.size : Int) - 1 < 1) = true := by simp; omega
    have hv' : rdV s = none := by rw [hv, if_pos (.inl (by omega))]; rfl
    obtain ⟨r1, r2⟩ := rd_none hv'
    rw [r1, r2]
    clear hv hv' r1 r2 h42 h58 h45 hl
    go_enter Tryz.func94, Tryz.ntmps94
    go_wp2_with fail
    exact bodyPost_ret (v := .tuple #[.agg #[.int .i64 0, .int .i64 0, .string ⟨#[]⟩], .int .i64 2]) (by simp [results, Tryz.results94, go_sem]) rfl ⟨rfl, (by repeat (first | exact Below.refl _ _ | assumption | refine bal ?_ _ | refine bdn ?_ _ | refine bdr ?_ | refine bcl ?_ (by assumption)))⟩
  · have c1 : decide ((s.size : Int) - 1 < 1) = false := by simp; omega
    by_cases k2 : 7 < s.size - 1
    · have c2 : decide (7 < (s.size : Int) - 1) = true := by simp; omega
      have hv' : rdV s = none := by rw [hv, if_pos (.inr (.inl k2))]; rfl
      obtain ⟨r1, r2⟩ := rd_none hv'
      rw [r1, r2]
      clear hv hv' r1 r2 h42 h58 h45 hl
      go_enter Tryz.func94, Tryz.ntmps94
      go_wp2_with fail
      exact bodyPost_ret (v := .tuple #[.agg #[.int .i64 0, .int .i64 0, .string ⟨#[]⟩], .int .i64 2]) (by simp [results, Tryz.results94, go_sem]) rfl ⟨rfl, (by repeat (first | exact Below.refl _ _ | assumption | refine bal ?_ _ | refine bdn ?_ _ | refine bdr ?_ | refine bcl ?_ (by assumption)))⟩
    · have c2 : decide (7 < (s.size : Int) - 1) = false := by simp; omega
      have hq : 1 < s.size := by omega
      have hh := dgs_head hq
      by_cases k3 : s[1].toNat = 48
      · have c3 : ((s[1].toNat : Int) == 48) = true := beq_iff_eq.2 (by omega)
        have hv' : rdV s = none := by rw [hv, if_pos (.inr (.inr (by rw [hh, (byte_eq (by decide)).1 k3]; rfl)))]; rfl
        have c4 : decide (1 < (s.size : Int) - 1) = true ∨ decide (1 < (s.size : Int) - 1) = false := by cases decide (1 < (s.size : Int) - 1) <;> simp
        rcases c4 with c4 | c4
        all_goals
          obtain ⟨r1, r2⟩ := rd_none hv'
          rw [r1, r2]
          clear hv hv' r1 r2 h42 h58 h45 hl hh k3
          go_enter Tryz.func94, Tryz.ntmps94
          go_wp2_with fail
          exact bodyPost_ret (v := .tuple #[.agg #[.int .i64 0, .int .i64 0, .string ⟨#[]⟩], .int .i64 2]) (by simp [results, Tryz.results94, go_sem]) rfl ⟨rfl, (by repeat (first | exact Below.refl _ _ | assumption | refine bal ?_ _ | refine bdn ?_ _ | refine bdr ?_ | refine bcl ?_ (by assumption)))⟩
      · have c3 : ((s[1].toNat : Int) == 48) = false := beq_eq_false_iff_ne.2 (by omega)
        have hn : ¬ (s.size - 1 < 1 ∨ 7 < s.size - 1 ∨ (dgs s 1).head? = some 48) := by
          rintro (h | h | h)
          · omega
          · omega
          · rw [hh] at h
            simp only [Option.some.injEq] at h
            exact k3 (by rw [h]; rfl)
        rw [if_neg hn] at hv
        have HV := Lib.hid hv; have H42 := Lib.hid h42
        have k7 : s.size - 1 ≤ 7 := by omega
        clear hv h42 hl hh hn k3
        go_enter Tryz.func94, Tryz.ntmps94
        go_wp2_with fail
        go_loopw [8, 9] (fun m i wr => ∃ (j : Nat) (n : Nat), 1 ≤ j ∧ j ≤ s.size ∧ i = .int .i64 j ∧ m = .int .i64 n ∧ n < 10000000 ∧ Hid (Lib.decFrom 0 ((dgs s 1).take (j - 1)) = some n) ∧ Hid (wr = (w.alloc (.cells #[.int .i64 0, .int .i64 0, .string ⟨#[]⟩] 30)).alloc (.cells #[.int .i64 0, .int .i64 0, .string ⟨#[]⟩] 30))) (fun _ i _ => s.size - (intOf i).toNat)
        case atStart => exact ⟨1, 0, by omega, by omega, rfl, rfl, by omega, rfl, rfl⟩
        case round =>
          obtain ⟨j, n, hj0, hj, rfl, rfl, hn7, HD, HW⟩ := hrel
          have hw := HW.out
          subst hw
          clear HW
          by_cases hlt : j < s.size
          · have hc := list_at hlt
            have hat : (dgs s 1)[j - 1]? = some s[j] := by rw [dgs, List.getElem?_drop, show 1 + (j - 1) = j by omega]; exact hc
            have hb := (s[j]'hlt).toNat_lt
            by_cases h5 : ((s[j]'hlt).toNat : Int) < 48
            · have hbd := dec_bad _ _ 0 _ hat (by unfold Lib.digitVal; rw [if_neg (by omega)])
              have hv' : rdV s = none := by rw [HV.out, hbd]; rfl
              obtain ⟨r1, r2⟩ := rd_none hv'
              have R1 := Lib.hid r1; have R2 := Lib.hid r2
              clear hv' r1 r2 hbd hat hc hb
              go_wp2_with fail
              rw [R1.out, R2.out]
              exact bodyPost_ret (v := .tuple #[.agg #[.int .i64 0, .int .i64 0, .string ⟨#[]⟩], .int .i64 2]) (by simp [results, Tryz.results94, go_sem]) rfl ⟨rfl, (by repeat (first | exact Below.refl _ _ | assumption | refine bal ?_ _ | refine bdn ?_ _ | refine bdr ?_ | refine bcl ?_ (by assumption)))⟩
            · by_cases h6 : 57 < ((s[j]'hlt).toNat : Int)
              · have hbd := dec_bad _ _ 0 _ hat (by unfold Lib.digitVal; rw [if_neg (by omega)])
                have hv' : rdV s = none := by rw [HV.out, hbd]; rfl
                obtain ⟨r1, r2⟩ := rd_none hv'
                have R1 := Lib.hid r1; have R2 := Lib.hid r2
                clear hv' r1 r2 hbd hat hc hb
                go_wp2_with fail
                rw [R1.out, R2.out]
                exact bodyPost_ret (v := .tuple #[.agg #[.int .i64 0, .int .i64 0, .string ⟨#[]⟩], .int .i64 2]) (by simp [results, Tryz.results94, go_sem]) rfl ⟨rfl, (by repeat (first | exact Below.refl _ _ | assumption | refine bal ?_ _ | refine bdn ?_ _ | refine bdr ?_ | refine bcl ?_ (by assumption)))⟩
              · have hd := dec_take_succ HD.out hat (by omega) (by omega)
                rw [show j - 1 + 1 = j + 1 - 1 by omega] at hd
                have hlt7 := dec_take_lt hd (by omega)
                have HD2 := Lib.hid hd; have HL7 := Lib.hid hlt7; have HB := Lib.hid hb
                have n0 : (0 : Int) ≤ (n : Int) := by omega
                have n1 : (n : Int) < 10000000 := by omega
                have hcw : IntKind.i64.wrap ((s[j]'hlt).toNat : Int) = ((s[j]'hlt).toNat : Int) := by rw [IntKind.wrap_i64]; omega
                have b0 : ((s[j]'hlt).toNat : Int) ≤ 255 := by omega
                clear hd hlt7 hat hc hb
                go_wp2_with fail
                go_roundw
                case rel => exact ⟨j + 1, n * 10 + ((s[j]'hlt).toNat - 48), by omega, by omega, by go_num, by show Value.int .i64 _ = _; congr 1; omega, HL7.out, HD2, by first | rfl | trivial⟩
                case measure => simp [intOf]; omega
          · obtain rfl : j = s.size := by omega
            have hd := HD.out
            rw [List.take_of_length_le (by rw [dgs_len]; omega)] at hd
            have hv' : rdV s = some ⟨0, -(n : Int), ⟨#[]⟩⟩ := by rw [HV.out, hd]; rfl
            obtain ⟨r1, r2⟩ := rd_some hv'
            have cv := fun W => rvalue_any 0 (-(n : Int)) ⟨#[]⟩ (by decide) W
            by_cases he : vaE ⟨0, -(n : Int), ⟨#[]⟩⟩ = 0
            · rw [he] at r1 cv
              rw [if_pos he] at r2
              have R1 := Lib.hid r1; have R2 := Lib.hid r2
              have CV := Lib.hid cv
              have n1 : (n : Int) < 10000000 := by omega
              clear hd hv' r1 r2 cv he
              go_wp2_with fail
              refine (CV.out _).mono ?_
              rintro e w1 ⟨rfl, hb1⟩
              have p0 : w1.cell? ⟨w.heap.size, 0, none⟩ = some (.int .i64 0) := (hb1.cell (p := ⟨w.heap.size, 0, none⟩) (by simp; omega)).trans (by simp)
              have f0 : w1.frozen? ⟨w.heap.size, 0, none⟩ = false := (hb1.frozen (p := ⟨w.heap.size, 0, none⟩) (by simp; omega)).trans (by simp)
              have r0 : w1.cell? ⟨w.heap.size + 1, 0, none⟩ = some (.int .i64 0) := (hb1.cell (p := ⟨w.heap.size + 1, 0, none⟩) (by simp)).trans (by simp)
              have p1 : w1.cell? ⟨w.heap.size, 1, none⟩ = some (.int .i64 0) := (hb1.cell (p := ⟨w.heap.size, 1, none⟩) (by simp; omega)).trans (by simp)
              have f1 : w1.frozen? ⟨w.heap.size, 1, none⟩ = false := (hb1.frozen (p := ⟨w.heap.size, 1, none⟩) (by simp; omega)).trans (by simp)
              have r1 : w1.cell? ⟨w.heap.size + 1, 1, none⟩ = some (.int .i64 (-(n : Int))) := (hb1.cell (p := ⟨w.heap.size + 1, 1, none⟩) (by simp)).trans (by simp)
              have p2 : w1.cell? ⟨w.heap.size, 2, none⟩ = some (.string ⟨#[]⟩) := (hb1.cell (p := ⟨w.heap.size, 2, none⟩) (by simp; omega)).trans (by simp)
              have f2 : w1.frozen? ⟨w.heap.size, 2, none⟩ = false := (hb1.frozen (p := ⟨w.heap.size, 2, none⟩) (by simp; omega)).trans (by simp)
              have r2 : w1.cell? ⟨w.heap.size + 1, 2, none⟩ = some (.string ⟨#[]⟩) := (hb1.cell (p := ⟨w.heap.size + 1, 2, none⟩) (by simp)).trans (by simp)
              have hbw : Below w.heap.size w w1 := bcl (bal (bal1 _ _) _) hb1
              clear t1 t2 t3 c1 c2 c3 h58 h45
              go_wp2_with fail
              rw [R1.out, R2.out]
              exact bodyPost_ret (v := .tuple #[.agg #[.int .i64 0, .int .i64 (-(n : Int)), .string ⟨#[]⟩], .int .i64 0]) (by simp [results, Tryz.results94, go_sem, p0, p1, p2]) rfl ⟨rfl, by first | exact hbw | exact ((hbw.setCell (Nat.le_refl _) _).setCell (Nat.le_refl _) _).setCell (Nat.le_refl _) _⟩
            · rw [if_neg he] at r2
              have q1 : (vaE ⟨0, -(n : Int), ⟨#[]⟩⟩ != 0) = true := by rw [bne_iff_ne]; exact he
              generalize vaE ⟨0, -(n : Int), ⟨#[]⟩⟩ = E at *
              have R1 := Lib.hid r1; have R2 := Lib.hid r2
              have CV := Lib.hid cv
              have n1 : (n : Int) < 10000000 := by omega
              clear hd hv' r1 r2 cv he
              go_wp2_with fail
              refine (CV.out _).mono ?_
              rintro e w1 ⟨rfl, hb1⟩
              have p0 : w1.cell? ⟨w.heap.size, 0, none⟩ = some (.int .i64 0) := (hb1.cell (p := ⟨w.heap.size, 0, none⟩) (by simp; omega)).trans (by simp)
              have f0 : w1.frozen? ⟨w.heap.size, 0, none⟩ = false := (hb1.frozen (p := ⟨w.heap.size, 0, none⟩) (by simp; omega)).trans (by simp)
              have r0 : w1.cell? ⟨w.heap.size + 1, 0, none⟩ = some (.int .i64 0) := (hb1.cell (p := ⟨w.heap.size + 1, 0, none⟩) (by simp)).trans (by simp)
              have p1 : w1.cell? ⟨w.heap.size, 1, none⟩ = some (.int .i64 0) := (hb1.cell (p := ⟨w.heap.size, 1, none⟩) (by simp; omega)).trans (by simp)
              have f1 : w1.frozen? ⟨w.heap.size, 1, none⟩ = false := (hb1.frozen (p := ⟨w.heap.size, 1, none⟩) (by simp; omega)).trans (by simp)
              have r1 : w1.cell? ⟨w.heap.size + 1, 1, none⟩ = some (.int .i64 (-(n : Int))) := (hb1.cell (p := ⟨w.heap.size + 1, 1, none⟩) (by simp)).trans (by simp)
              have p2 : w1.cell? ⟨w.heap.size, 2, none⟩ = some (.string ⟨#[]⟩) := (hb1.cell (p := ⟨w.heap.size, 2, none⟩) (by simp; omega)).trans (by simp)
              have f2 : w1.frozen? ⟨w.heap.size, 2, none⟩ = false := (hb1.frozen (p := ⟨w.heap.size, 2, none⟩) (by simp; omega)).trans (by simp)
              have r2 : w1.cell? ⟨w.heap.size + 1, 2, none⟩ = some (.string ⟨#[]⟩) := (hb1.cell (p := ⟨w.heap.size + 1, 2, none⟩) (by simp)).trans (by simp)
              have hbw : Below w.heap.size w w1 := bcl (bal (bal1 _ _) _) hb1
              clear t1 t2 t3 c1 c2 c3 h58 h45
              go_wp2_with fail
              rw [R1.out, R2.out]
              exact bodyPost_ret (v := .tuple #[.agg #[.int .i64 0, .int .i64 0, .string ⟨#[]⟩], .int .i64 E]) (by simp [results, Tryz.results94, go_sem, p0, p1, p2]) rfl ⟨rfl, by first | exact hbw | exact ((hbw.setCell (Nat.le_refl _) _).setCell (Nat.le_refl _) _).setCell (Nat.le_refl _) _⟩
set_option maxHeartbeats 1600000 in
set_option maxRecDepth 100000 in
theorem rread_plain (s : ByteArray) (hs : s.size ≤ 140737488351232) (hsz : 0 < s.size) (h42 : s ≠ ⟨#[42]⟩) (h58 : s[0].toNat ≠ 58) (h45 : s[0].toNat ≠ 45) (w : World) :
    Calls Tryz.prog 94 #[.string s] w fun e w' => e = .returned (.tuple #[.agg #[.int .i64 (rdR s).k, .int .i64 (rdR s).n, .string (rdR s).s], .int .i64 (rdE s)]) ∧ Below w.heap.size w w' := by
  have t1 := star_other h42
  have t2 : ((s[0].toNat : Int) == 58) = false := beq_eq_false_iff_ne.2 (by omega)
  have t3 : ((s[0].toNat : Int) == 45) = false := beq_eq_false_iff_ne.2 (by omega)
  have hv := rdV_num h42 (.inr ⟨hsz, h58⟩)
  have hl := dgs_len s 0
  rw [rdN_plain (.inr ⟨hsz, h45⟩), hl] at hv
  · have c1 : decide ((s.size : Int) < 1) = false := by simp; omega
    by_cases k2 : 7 < s.size - 0
    · have c2 : decide (7 < (s.size : Int)) = true := by simp; omega
      have hv' : rdV s = none := by rw [hv, if_pos (.inr (.inl k2))]; rfl
      obtain ⟨r1, r2⟩ := rd_none hv'
      rw [r1, r2]
      clear hv hv' r1 r2 h42 h58 h45 hl
      go_enter Tryz.func94, Tryz.ntmps94
      go_wp2_with fail
      exact bodyPost_ret (v := .tuple #[.agg #[.int .i64 0, .int .i64 0, .string ⟨#[]⟩], .int .i64 2]) (by simp [results, Tryz.results94, go_sem]) rfl ⟨rfl, (by repeat (first | exact Below.refl _ _ | assumption | refine bal ?_ _ | refine bdn ?_ _ | refine bdr ?_ | refine bcl ?_ (by assumption)))⟩
    · have c2 : decide (7 < (s.size : Int)) = false := by simp; omega
      have hq : 0 < s.size := by omega
      have hh := dgs_head hq
      by_cases k3 : s[0].toNat = 48 ∧ 1 < s.size
      · have c3 : ((s[0].toNat : Int) == 48) = true := beq_iff_eq.2 (by omega)
        have c4 : decide (1 < (s.size : Int)) = true := by simp; omega
        have hv' : rdV s = none := by rw [hv, if_pos (.inr (.inr ⟨by rw [hh, (byte_eq (by decide)).1 k3.1]; rfl, by omega⟩))]; rfl
        obtain ⟨r1, r2⟩ := rd_none hv'
        rw [r1, r2]
        clear hv hv' r1 r2 h42 h58 h45 hl hh k3
        go_enter Tryz.func94, Tryz.ntmps94
        go_wp2_with fail
        exact bodyPost_ret (v := .tuple #[.agg #[.int .i64 0, .int .i64 0, .string ⟨#[]⟩], .int .i64 2]) (by simp [results, Tryz.results94, go_sem]) rfl ⟨rfl, (by repeat (first | exact Below.refl _ _ | assumption | refine bal ?_ _ | refine bdn ?_ _ | refine bdr ?_ | refine bcl ?_ (by assumption)))⟩
      · have hn : ¬ (s.size - 0 < 1 ∨ 7 < s.size - 0 ∨ ((dgs s 0).head? = some 48 ∧ 1 < s.size - 0)) := by
          rintro (h | h | ⟨h, h2⟩)
          · omega
          · omega
          · rw [hh] at h
            simp only [Option.some.injEq] at h
            exact k3 ⟨by rw [h]; rfl, by omega⟩
        have c34 : (((s[0].toNat : Int) == 48) = true ∧ decide (1 < (s.size : Int)) = false) ∨ ((s[0].toNat : Int) == 48) = false := by
          by_cases e : s[0].toNat = 48
          · exact .inl ⟨beq_iff_eq.2 (by omega), by simp; omega⟩
          · exact .inr (beq_eq_false_iff_ne.2 (by omega))
        rcases c34 with ⟨c3, c4⟩ | c3
        all_goals
          rw [if_neg hn] at hv
          have HV := Lib.hid hv; have H42 := Lib.hid h42
          have k7 : s.size - 0 ≤ 7 := by omega
          clear hv h42 hl hh hn k3
          go_enter Tryz.func94, Tryz.ntmps94
          go_wp2_with fail
          go_loopw [8, 9] (fun m i wr => ∃ (j : Nat) (n : Nat), 0 ≤ j ∧ j ≤ s.size ∧ i = .int .i64 j ∧ m = .int .i64 n ∧ n < 10000000 ∧ Hid (Lib.decFrom 0 ((dgs s 0).take (j - 0)) = some n) ∧ Hid (wr = (w.alloc (.cells #[.int .i64 0, .int .i64 0, .string ⟨#[]⟩] 30)).alloc (.cells #[.int .i64 0, .int .i64 0, .string ⟨#[]⟩] 30))) (fun _ i _ => s.size - (intOf i).toNat)
          case atStart => exact ⟨0, 0, by omega, by omega, rfl, rfl, by omega, rfl, rfl⟩
          case round =>
            obtain ⟨j, n, hj0, hj, rfl, rfl, hn7, HD, HW⟩ := hrel
            have hw := HW.out
            subst hw
            clear HW
            by_cases hlt : j < s.size
            · have hc := list_at hlt
              have hat : (dgs s 0)[j - 0]? = some s[j] := by rw [dgs, List.getElem?_drop, show 0 + (j - 0) = j by omega]; exact hc
              have hb := (s[j]'hlt).toNat_lt
              by_cases h5 : ((s[j]'hlt).toNat : Int) < 48
              · have hbd := dec_bad _ _ 0 _ hat (by unfold Lib.digitVal; rw [if_neg (by omega)])
                have hv' : rdV s = none := by rw [HV.out, hbd]; rfl
                obtain ⟨r1, r2⟩ := rd_none hv'
                have R1 := Lib.hid r1; have R2 := Lib.hid r2
                clear hv' r1 r2 hbd hat hc hb
                go_wp2_with fail
                rw [R1.out, R2.out]
                exact bodyPost_ret (v := .tuple #[.agg #[.int .i64 0, .int .i64 0, .string ⟨#[]⟩], .int .i64 2]) (by simp [results, Tryz.results94, go_sem]) rfl ⟨rfl, (by repeat (first | exact Below.refl _ _ | assumption | refine bal ?_ _ | refine bdn ?_ _ | refine bdr ?_ | refine bcl ?_ (by assumption)))⟩
              · by_cases h6 : 57 < ((s[j]'hlt).toNat : Int)
                · have hbd := dec_bad _ _ 0 _ hat (by unfold Lib.digitVal; rw [if_neg (by omega)])
                  have hv' : rdV s = none := by rw [HV.out, hbd]; rfl
                  obtain ⟨r1, r2⟩ := rd_none hv'
                  have R1 := Lib.hid r1; have R2 := Lib.hid r2
                  clear hv' r1 r2 hbd hat hc hb
                  go_wp2_with fail
                  rw [R1.out, R2.out]
                  exact bodyPost_ret (v := .tuple #[.agg #[.int .i64 0, .int .i64 0, .string ⟨#[]⟩], .int .i64 2]) (by simp [results, Tryz.results94, go_sem]) rfl ⟨rfl, (by repeat (first | exact Below.refl _ _ | assumption | refine bal ?_ _ | refine bdn ?_ _ | refine bdr ?_ | refine bcl ?_ (by assumption)))⟩
                · have hd := dec_take_succ HD.out hat (by omega) (by omega)
                  rw [show j - 0 + 1 = j + 1 - 0 by omega] at hd
                  have hlt7 := dec_take_lt hd (by omega)
                  have HD2 := Lib.hid hd; have HL7 := Lib.hid hlt7; have HB := Lib.hid hb
                  have n0 : (0 : Int) ≤ (n : Int) := by omega
                  have n1 : (n : Int) < 10000000 := by omega
                  have hcw : IntKind.i64.wrap ((s[j]'hlt).toNat : Int) = ((s[j]'hlt).toNat : Int) := by rw [IntKind.wrap_i64]; omega
                  have b0 : ((s[j]'hlt).toNat : Int) ≤ 255 := by omega
                  clear hd hlt7 hat hc hb
                  go_wp2_with fail
                  go_roundw
                  case rel => exact ⟨j + 1, n * 10 + ((s[j]'hlt).toNat - 48), by omega, by omega, by go_num, by show Value.int .i64 _ = _; congr 1; omega, HL7.out, HD2, by first | rfl | trivial⟩
                  case measure => simp [intOf]; omega
            · obtain rfl : j = s.size := by omega
              have hd := HD.out
              rw [List.take_of_length_le (by rw [dgs_len]; omega)] at hd
              have hv' : rdV s = some ⟨0, (n : Int), ⟨#[]⟩⟩ := by rw [HV.out, hd]; rfl
              obtain ⟨r1, r2⟩ := rd_some hv'
              have cv := fun W => rvalue_any 0 ((n : Int)) ⟨#[]⟩ (by decide) W
              by_cases he : vaE ⟨0, (n : Int), ⟨#[]⟩⟩ = 0
              · rw [he] at r1 cv
                rw [if_pos he] at r2
                have R1 := Lib.hid r1; have R2 := Lib.hid r2
                have CV := Lib.hid cv
                have n1 : (n : Int) < 10000000 := by omega
                clear hd hv' r1 r2 cv he
                go_wp2_with fail
                refine (CV.out _).mono ?_
                rintro e w1 ⟨rfl, hb1⟩
                have p0 : w1.cell? ⟨w.heap.size, 0, none⟩ = some (.int .i64 0) := (hb1.cell (p := ⟨w.heap.size, 0, none⟩) (by simp; omega)).trans (by simp)
                have f0 : w1.frozen? ⟨w.heap.size, 0, none⟩ = false := (hb1.frozen (p := ⟨w.heap.size, 0, none⟩) (by simp; omega)).trans (by simp)
                have r0 : w1.cell? ⟨w.heap.size + 1, 0, none⟩ = some (.int .i64 0) := (hb1.cell (p := ⟨w.heap.size + 1, 0, none⟩) (by simp)).trans (by simp)
                have p1 : w1.cell? ⟨w.heap.size, 1, none⟩ = some (.int .i64 0) := (hb1.cell (p := ⟨w.heap.size, 1, none⟩) (by simp; omega)).trans (by simp)
                have f1 : w1.frozen? ⟨w.heap.size, 1, none⟩ = false := (hb1.frozen (p := ⟨w.heap.size, 1, none⟩) (by simp; omega)).trans (by simp)
                have r1 : w1.cell? ⟨w.heap.size + 1, 1, none⟩ = some (.int .i64 ((n : Int))) := (hb1.cell (p := ⟨w.heap.size + 1, 1, none⟩) (by simp)).trans (by simp)
                have p2 : w1.cell? ⟨w.heap.size, 2, none⟩ = some (.string ⟨#[]⟩) := (hb1.cell (p := ⟨w.heap.size, 2, none⟩) (by simp; omega)).trans (by simp)
                have f2 : w1.frozen? ⟨w.heap.size, 2, none⟩ = false := (hb1.frozen (p := ⟨w.heap.size, 2, none⟩) (by simp; omega)).trans (by simp)
                have r2 : w1.cell? ⟨w.heap.size + 1, 2, none⟩ = some (.string ⟨#[]⟩) := (hb1.cell (p := ⟨w.heap.size + 1, 2, none⟩) (by simp)).trans (by simp)
                have hbw : Below w.heap.size w w1 := bcl (bal (bal1 _ _) _) hb1
                clear t1 t2 t3 c1 c2 c3 h58 h45
                go_wp2_with fail
                rw [R1.out, R2.out]
                exact bodyPost_ret (v := .tuple #[.agg #[.int .i64 0, .int .i64 ((n : Int)), .string ⟨#[]⟩], .int .i64 0]) (by simp [results, Tryz.results94, go_sem, p0, p1, p2]) rfl ⟨rfl, by first | exact hbw | exact ((hbw.setCell (Nat.le_refl _) _).setCell (Nat.le_refl _) _).setCell (Nat.le_refl _) _⟩
              · rw [if_neg he] at r2
                have q1 : (vaE ⟨0, (n : Int), ⟨#[]⟩⟩ != 0) = true := by rw [bne_iff_ne]; exact he
                generalize vaE ⟨0, (n : Int), ⟨#[]⟩⟩ = E at *
                have R1 := Lib.hid r1; have R2 := Lib.hid r2
                have CV := Lib.hid cv
                have n1 : (n : Int) < 10000000 := by omega
                clear hd hv' r1 r2 cv he
                go_wp2_with fail
                refine (CV.out _).mono ?_
                rintro e w1 ⟨rfl, hb1⟩
                have p0 : w1.cell? ⟨w.heap.size, 0, none⟩ = some (.int .i64 0) := (hb1.cell (p := ⟨w.heap.size, 0, none⟩) (by simp; omega)).trans (by simp)
                have f0 : w1.frozen? ⟨w.heap.size, 0, none⟩ = false := (hb1.frozen (p := ⟨w.heap.size, 0, none⟩) (by simp; omega)).trans (by simp)
                have r0 : w1.cell? ⟨w.heap.size + 1, 0, none⟩ = some (.int .i64 0) := (hb1.cell (p := ⟨w.heap.size + 1, 0, none⟩) (by simp)).trans (by simp)
                have p1 : w1.cell? ⟨w.heap.size, 1, none⟩ = some (.int .i64 0) := (hb1.cell (p := ⟨w.heap.size, 1, none⟩) (by simp; omega)).trans (by simp)
                have f1 : w1.frozen? ⟨w.heap.size, 1, none⟩ = false := (hb1.frozen (p := ⟨w.heap.size, 1, none⟩) (by simp; omega)).trans (by simp)
                have r1 : w1.cell? ⟨w.heap.size + 1, 1, none⟩ = some (.int .i64 ((n : Int))) := (hb1.cell (p := ⟨w.heap.size + 1, 1, none⟩) (by simp)).trans (by simp)
                have p2 : w1.cell? ⟨w.heap.size, 2, none⟩ = some (.string ⟨#[]⟩) := (hb1.cell (p := ⟨w.heap.size, 2, none⟩) (by simp; omega)).trans (by simp)
                have f2 : w1.frozen? ⟨w.heap.size, 2, none⟩ = false := (hb1.frozen (p := ⟨w.heap.size, 2, none⟩) (by simp; omega)).trans (by simp)
                have r2 : w1.cell? ⟨w.heap.size + 1, 2, none⟩ = some (.string ⟨#[]⟩) := (hb1.cell (p := ⟨w.heap.size + 1, 2, none⟩) (by simp)).trans (by simp)
                have hbw : Below w.heap.size w w1 := bcl (bal (bal1 _ _) _) hb1
                clear t1 t2 t3 c1 c2 c3 h58 h45
                go_wp2_with fail
                rw [R1.out, R2.out]
                exact bodyPost_ret (v := .tuple #[.agg #[.int .i64 0, .int .i64 0, .string ⟨#[]⟩], .int .i64 E]) (by simp [results, Tryz.results94, go_sem, p0, p1, p2]) rfl ⟨rfl, by first | exact hbw | exact ((hbw.setCell (Nat.le_refl _) _).setCell (Nat.le_refl _) _).setCell (Nat.le_refl _) _⟩
end Go.Proofs.YtpgemofkolmabaaGreatDoor
namespace Go.Proofs.YtpgemofkolmabaaGreatDoor
set_option linter.unusedVariables false

/-- the pieces of a text between the bytes c -/
def pcs (c : UInt8) : List UInt8 → List (List UInt8)
  | [] => [[]]
  | x :: r => if x = c then [] :: pcs c r else match pcs c r with
    | p :: q => (x :: p) :: q
    | [] => [[x]]
theorem pcs_ne (c : UInt8) : ∀ l : List UInt8, pcs c l ≠ []
  | [] => by simp [pcs]
  | x :: r => by
    unfold pcs
    split
    · simp
    · split <;> simp
theorem pcs_none (c : UInt8) : ∀ l : List UInt8, (∀ k : Nat, l[k]? ≠ some c) → pcs c l = [l]
  | [], _ => rfl
  | x :: r, h => by
    have h1 : x ≠ c := fun e => h 0 (by simp [e])
    have h2 := pcs_none c r fun k => by have := h (k + 1); simpa using this
    unfold pcs
    rw [if_neg h1, h2]
theorem pcs_some (c : UInt8) : ∀ (l : List UInt8) (i : Nat), l[i]? = some c → (∀ k : Nat, k < i → l[k]? ≠ some c) → pcs c l = l.take i :: pcs c (l.drop (i + 1))
  | [], i, h, _ => by simp at h
  | x :: r, 0, h, _ => by
    simp only [List.getElem?_cons_zero, Option.some.injEq] at h
    rw [show pcs c (x :: r) = (if x = c then [] :: pcs c r else match pcs c r with
    | p :: q => (x :: p) :: q
    | [] => [[x]]) from rfl, if_pos h]
    rfl
  | x :: r, i + 1, h, hk => by
    have h1 : x ≠ c := fun e => hk 0 (by omega) (by simp [e])
    have h2 := pcs_some c r i (by simpa using h) fun k hl => by have := hk (k + 1) (by omega); simpa using this
    rw [pcs, if_neg h1, h2]
    rfl
def pcsB (c : UInt8) (s : ByteArray) : List ByteArray := (pcs c s.data.toList).map fun l => ⟨l.toArray⟩
theorem pcsB_none {c : UInt8} {s : ByteArray} (h : Lib.indexByte s.data.toList c = -1) : pcsB c s = [s] := by
  rw [pcsB, pcs_none c _ (Lib.indexByte_none h)]
  rfl
theorem ext_take (s : ByteArray) (i : Nat) : s.extract 0 i = ⟨(s.data.toList.take i).toArray⟩ := bytes_eq (by
  rw [ByteArray.data_extract, Array.toList_extract]
  simp [List.extract])
theorem ext_drop (s : ByteArray) (i : Nat) : (s.extract i s.size).data.toList = s.data.toList.drop i := by
  rw [ByteArray.data_extract, Array.toList_extract]
  simp only [List.extract]
  refine List.take_of_length_le ?_
  rw [List.length_drop, Array.length_toList]
  exact Nat.le_refl _
theorem pcsB_some {c : UInt8} {s : ByteArray} {i : Nat} (h : Lib.indexByte s.data.toList c = (i : Int)) : i < s.size ∧ pcsB c s = s.extract 0 i :: pcsB c (s.extract (i + 1) s.size) := by
  obtain ⟨h1, h2⟩ := Lib.indexByte_some h
  refine ⟨?_, ?_⟩
  · have := (List.getElem?_eq_some_iff.1 h1).1
    rw [Array.length_toList] at this
    exact this
  · rw [pcsB, pcs_some c _ i h1 h2, List.map_cons, ext_take, pcsB, ext_drop]
theorem pcsB_ne (c : UInt8) (s : ByteArray) : pcsB c s ≠ [] := by
  unfold pcsB
  intro e
  exact pcs_ne c _ (List.map_eq_nil_iff.1 e)
theorem idx_cases (s : ByteArray) (c : UInt8) : Lib.indexByte s.data.toList c = -1 ∨ ∃ i : Nat, Lib.indexByte s.data.toList c = (i : Int) := by
  have := Lib.indexByte_ge s.data.toList c
  rcases Int.lt_or_le (Lib.indexByte s.data.toList c) 0 with h | h
  · exact .inl (by omega)
  · exact .inr ⟨(Lib.indexByte s.data.toList c).toNat, by omega⟩
end Go.Proofs.YtpgemofkolmabaaGreatDoor
namespace Go.Proofs.YtpgemofkolmabaaGreatDoor
open Go.RowKit
set_option linter.unusedVariables false

/-- J stands where a block of M is turned, or a new one made -/
def AbM (M : Nat → Prop) (J : Nat → World → Prop) : Prop := ∀ (s : Nat) (W W' : World) (row : Option Nat), J s W → W.grownBy W' row → (∀ r, row = some r → M r) → J s W'
/-- .. or one from B on that is no cells -/
def AbR (M : Nat → Prop) (B : Nat) (I : Nat → World → Prop) : Prop :=
  ∀ (s : Nat) (W W' : World) (row : Option Nat), I s W → W.grownBy W' row → (∀ r, row = some r → M r ∨ (B ≤ r ∧ ∃ o : Obj, W.heap[r]? = some o ∧ o.isCells = false)) → I s W'
/-- the blocks M lie as they lay -/
def KpM (M : Nat → Prop) (W W' : World) : Prop := ∀ b, M b → W'.heap[b]? = W.heap[b]?
theorem KpM.refl {M : Nat → Prop} {W : World} : KpM M W W := fun _ _ => rfl
theorem KpM.trans {M : Nat → Prop} {A B C : World} (h : KpM M A B) (k : KpM M B C) : KpM M A C := fun b hb => (k b hb).trans (h b hb)
theorem KpM.put {M : Nat → Prop} {W : World} {l : Nat} (o : Obj) (hl : ∀ b, M b → b < l) : KpM M W (W.putObj l o) := fun b hb => World.putObj_heap_other (by have := hl b hb; omega)
theorem KpM.alloc {M : Nat → Prop} {W : World} (o : Obj) (hl : ∀ b, M b → b < W.heap.size) : KpM M W (W.alloc o) := fun b hb => Below.heap_alloc _ _ _ (hl b hb)
theorem KpM.below {M : Nat → Prop} {W W' : World} (h : Below W.heap.size W W') (hl : ∀ b, M b → b < W.heap.size) : KpM M W W' := fun b hb => h.block b (hl b hb)
/-- an iterator gives the texts xs, one by one, as long as it is let; the blocks M are its own -/
def SeqM (n : Nat) (P : Program) (gf : Nat) (lb : Array Value) (M : Nat → Prop) (xs : List ByteArray) (w : World) : Prop :=
  ∀ (l : Nat) (J Jx : Nat → World → Prop) (W : World), KpM M w W → w.heap.size ≤ W.heap.size → AbM M J → AbM M Jx →
    (∀ (k : Nat) (x : ByteArray) (W1 : World), xs[k]? = some x → J k W1 → YieldAt Fence.wide (n - 1) P l #[.string x] W1 fun e W' => (e = .returned (.bool true) ∧ J (k + 1) W' ∧ KpM M W1 W') ∨ (e = .returned (.bool false) ∧ Jx (k + 1) W')) →
    J 0 W → CallsIn Fence.wide n P gf (#[.func (.yield l) #[] #[]] ++ lb) W fun e W' => (∃ v, e = .returned v) ∧ (J xs.length W' ∨ ∃ k, Jx k W')
/-- how a round may be left -/
def postM (B : Nat) (M : Nat → Prop) (I : Nat → World → Prop) (Ix : Code → Nat → World → Prop) (k : Nat) (W : World) : Exit → Act → World → Prop
  | .normal, _, W' => KeepsFrom B W W' ∧ KpM M W W' ∧ I k W'
  | .ret, _, W' => KeepsFrom B W W' ∧ Ix .ret k W'
  | .exit id, _, W' => KeepsFrom B W W' ∧ Ix (.exit id) k W'
  | .goto t, _, W' => KeepsFrom B W W' ∧ Ix (.goto t) k W'
  | .panic _, _, _ => False
  | .outgrown, _, _ => False

theorem wpIn_range_texts {P : Program} {n : Nat} {g : Operand} {p : Tmp} {assign body : Code} {Q : Exit → Act → World → Prop} {a : Act} {w : World}
    {gf : Nat} {lb : Array Value} (hg : a.eval g = .func (.func gf) #[] lb) (eg : ∀ args w, (callFunc gf args).run P w = .ok (.enter gf args) w)
    {M : Nat → Prop} {xs : List ByteArray} (hM : ∀ b, M b → b < w.heap.size) (hseq : SeqM (n - 1) P gf lb M xs w)
    (I : Nat → World → Prop) (Ix : Code → Nat → World → Prop) (hI : AbR M w.heap.size I) (hIx : ∀ c, AbR M w.heap.size (Ix c)) (h0 : I 0 w) (a₁ : ByteArray → Act)
    (hassign : ∀ (l : Nat) (x : ByteArray) (W : World) (K : Act → World → Prop), K (a₁ x) W →
      assign.wpIn (Fence.wide.inRound l) (n - 1 - 1) P (Exit.then K (fun _ _ _ => False)) { tmps := a.tmps.setIfInBounds p (.string x), defers := [] } W)
    (hbody : ∀ (l : Nat) (k : Nat) (x : ByteArray) (W : World), xs[k]? = some x → I k W → body.wpIn (Fence.wide.inRound l) (n - 1 - 1) P (postM w.heap.size M I Ix (k + 1) W) (a₁ x) W)
    (hdone : ∀ (D : Nat) (W : World), w.heap.size ≤ D → I xs.length W → W.heap[D]? = some (.deferred (some [])) → Q .normal { a with defers := { target := .collected D, args := #[] } :: a.defers } W)
    (hstop : ∀ (D : Nat) (c : Code) (k : Nat) (W : World), w.heap.size ≤ D → Ix c k W → W.heap[D]? = some (.deferred (some [])) → c.wpIn Fence.wide n P Q { a with defers := { target := .collected D, args := #[] } :: a.defers } W) :
    (Code.rangeFunc g #[p] assign body).wpIn Fence.wide n P Q a w := by
  refine wpIn_rangeFunc fun fn hfn => ?_
  obtain ⟨rec, hrec⟩ : ∃ rec : LoopState → Option Code → Loop, rec = fun st pe => { state := st, pending := pe, fn, tmps := a.tmps, params := #[p], assign, body, defers := w.heap.size } := ⟨_, rfl⟩
  obtain ⟨W1, hW1⟩ : ∃ W1, (w.alloc (.deferred (some []))).alloc (.loop (rec .ready none)) = W1 := ⟨_, rfl⟩
  have hL1 : W1.heap[w.heap.size + 1]? = some (.loop (rec .ready none)) := by
    rw [← hW1]; have := World.alloc_heap_new (w.alloc (.deferred (some []))) (.loop (rec .ready none)); rwa [World.size_alloc] at this
  have hK1 : W1.heap[w.heap.size]? = some (.deferred (some [])) := by
    rw [← hW1]; exact (Below.heap_alloc _ _ _ (by simp)).trans (World.alloc_heap_new w _)
  have hst : ∀ s W o, I s W → I s (W.alloc o) := fun s W o h => hI s W _ none h (World.grownBy_alloc W o none) (fun r e => by cases e)
  have hI1 : I 0 W1 := by rw [← hW1]; exact hst _ _ _ (hst _ _ _ h0)
  have hz1 : w.heap.size + 2 ≤ W1.heap.size := by rw [← hW1]; simp
  have hM1 : KpM M w W1 := by rw [← hW1]; exact (KpM.alloc _ hM).trans (KpM.alloc _ fun b hb => by simp; have := hM b hb; omega)
  have putI : ∀ {J : Nat → World → Prop} (hJ : AbR M w.heap.size J) {s : Nat} {W : World} {l : Nat} {o : Obj} (o' : Obj), J s W → w.heap.size ≤ l → W.heap[l]? = some o → o.isCells = false → J s (W.putObj l o') :=
    fun hJ s W l o o' hs hB hl ho => hJ s W _ (some l) hs (grownBy_putObj' W l o') (fun r e => by cases e; exact .inr ⟨hB, o, hl, ho⟩)
  have putM : ∀ (W : World) (l : Nat) (o : Obj), w.heap.size ≤ l → KpM M W (W.putObj l o) := fun W l o hl => KpM.put o fun b hb => by have := hM b hb; omega
  have keep : ∀ {A B : World} {row : Option Nat} {l : Nat} {o : Obj}, A.grownBy B row → (∀ r, row = some r → M r) → w.heap.size ≤ l → A.heap[l]? = some o → B.heap[l]? = some o := fun hg' hr hl hh =>
    (hg'.block _ (Array.getElem?_eq_some_iff.1 hh).1 (fun e => by have := hM _ (hr _ e.symm); omega)).trans hh
  refine ⟨w.heap.size + 1, [{ target := .collected w.heap.size, args := #[] }], W1, { target := .fn (.func gf) lb, args := #[.func (.yield (w.heap.size + 1)) #[] #[]] }, W1, gf,
    #[.func (.yield (w.heap.size + 1)) #[] #[]] ++ lb, W1, ?_, ?_, ?_, ?_, (fun h => by cases h), ?_⟩
  · rw [← hW1, hrec]; exact run_enterLoop_outer _ _ _ _ _
  · simp only [resolve, hg]
    simp [go_sem]
  · intro f' hf'; exact trivial
  · simp [invoke, go_sem, eg]
  · refine (hseq (w.heap.size + 1)
      (fun k W => I k W ∧ W.heap[w.heap.size + 1]? = some (.loop (rec .ready none)) ∧ W.heap[w.heap.size]? = some (.deferred (some [])))
      (fun k W => ∃ c, Ix c k W ∧ W.heap[w.heap.size + 1]? = some (.loop (rec .done (some c))) ∧ W.heap[w.heap.size]? = some (.deferred (some [])))
      W1 hM1 (by omega)
      (fun s A B row hs hg' hr => ⟨hI s A B row hs.1 hg' (fun r e => .inl (hr r e)), keep hg' hr (by omega) hs.2.1, keep hg' hr (by omega) hs.2.2⟩)
      (fun s A B row hs hg' hr => by
        obtain ⟨c, hc, hl, hk⟩ := hs
        exact ⟨c, hIx c s A B row hc hg' (fun r e => .inl (hr r e)), keep hg' hr (by omega) hl, keep hg' hr (by omega) hk⟩)
      ?_ ⟨hI1, hL1, hK1⟩).mono ?_
    · rintro k x W hx ⟨hi, hl, hk⟩
      have hlt : w.heap.size + 1 < W.heap.size := (Array.getElem?_eq_some_iff.1 hl).1
      have hy := run_yield (P := P) (args := #[.string x]) hl (by rw [hrec]; rfl)
      rw [hrec] at hy
      have hz : ((#[p] : Array Tmp).zip #[Value.string x]).foldl (fun tmps (t, a) => tmps.setIfInBounds t a) a.tmps = a.tmps.setIfInBounds p (.string x) := by simp
      dsimp only at hy
      rw [hz] at hy
      refine ⟨fn, _, assign, body, hy, roundIn_of_wpIn hfn (hassign _ x W _ ⟨_, run_beginRound hl (by rw [hrec]), ?_⟩)⟩
      have hl2 : (W.putObj (w.heap.size + 1) (.loop { rec .ready none with state := .busy })).heap[w.heap.size + 1]? = some (.loop { rec .ready none with state := .busy }) := World.putObj_heap_same hlt
      have hk2 : (W.putObj (w.heap.size + 1) (.loop { rec .ready none with state := .busy })).heap[w.heap.size]? = some (.deferred (some [])) := (World.putObj_heap_other (by omega)).trans hk
      refine wpIn_mono (hbody _ k x _ hx (putI hI _ hi (by omega) hl rfl)) ?_
      have fin : ∀ (jump : Option Code) (W3 : World), KeepsFrom w.heap.size (W.putObj (w.heap.size + 1) (.loop { rec .ready none with state := .busy })) W3 →
          (Instr.endRound (w.heap.size + 1) jump).run P W3 = .ok (.bool jump.isNone) (W3.putObj (w.heap.size + 1) (.loop (rec (if jump.isNone then .ready else .done) jump))) ∧
          W3.heap[w.heap.size + 1]? = some (.loop { rec .ready none with state := .busy }) ∧
          (W3.putObj (w.heap.size + 1) (.loop (rec (if jump.isNone then .ready else .done) jump))).heap[w.heap.size + 1]? = some (.loop (rec (if jump.isNone then .ready else .done) jump)) ∧
          (W3.putObj (w.heap.size + 1) (.loop (rec (if jump.isNone then .ready else .done) jump))).heap[w.heap.size]? = some (.deferred (some [])) := fun jump W3 hk3 => by
        have hl3 := hk3.same _ _ (by omega) hl2 rfl
        have := run_endRound (P := P) jump hl3
        rw [hrec] at this ⊢
        exact ⟨this, by rw [hrec] at hl3; exact hl3, World.putObj_heap_same (Array.getElem?_eq_some_iff.1 hl3).1, (World.putObj_heap_other (by omega)).trans (hk3.same _ _ (Nat.le_refl _) hk2 rfl)⟩
      rintro e a3 W3 hp
      cases e with
      | normal =>
        obtain ⟨hk3, hkp3, hi3⟩ := hp
        obtain ⟨hr, hl3, hl4, hk4⟩ := fin none W3 hk3
        exact ⟨_, _, hr, .inl ⟨rfl, ⟨putI hI _ hi3 (by omega) hl3 rfl, hl4, hk4⟩, ((putM _ _ _ (by omega)).trans hkp3).trans (putM _ _ _ (by omega))⟩⟩
      | ret =>
        obtain ⟨hk3, hi3⟩ := hp
        obtain ⟨hr, hl3, hl4, hk4⟩ := fin (some .ret) W3 hk3
        exact ⟨_, _, hr, .inr ⟨rfl, .ret, putI (hIx _) _ hi3 (by omega) hl3 rfl, hl4, hk4⟩⟩
      | exit id =>
        obtain ⟨hk3, hi3⟩ := hp
        obtain ⟨hr, hl3, hl4, hk4⟩ := fin (some (.exit id)) W3 hk3
        exact ⟨_, _, hr, .inr ⟨rfl, .exit id, putI (hIx _) _ hi3 (by omega) hl3 rfl, hl4, hk4⟩⟩
      | goto t =>
        obtain ⟨hk3, hi3⟩ := hp
        obtain ⟨hr, hl3, hl4, hk4⟩ := fin (some (.goto t)) W3 hk3
        exact ⟨_, _, hr, .inr ⟨rfl, .goto t, putI (hIx _) _ hi3 (by omega) hl3 rfl, hl4, hk4⟩⟩
      | panic ch => exact hp.elim
      | outgrown => exact hp.elim
    · rintro e W2 ⟨⟨v, rfl⟩, (⟨hi, hl, hk⟩ | ⟨k, c, hi, hl, hk⟩)⟩
      · exact ⟨none, _, by have := run_endLoop (P := P) hl (by rw [hrec]; simp); rw [hrec] at this; exact this, hdone _ _ (Nat.le_refl _) (putI hI _ hi (by omega) hl rfl) ((World.putObj_heap_other (by omega)).trans hk)⟩
      · exact ⟨some c, _, by have := run_endLoop (P := P) hl (by rw [hrec]; simp); rw [hrec] at this; exact this, hstop _ c k _ (Nat.le_refl _) (putI (hIx c) _ hi (by omega) hl rfl) ((World.putObj_heap_other (by omega)).trans hk)⟩
end Go.Proofs.YtpgemofkolmabaaGreatDoor
namespace Go.Proofs.YtpgemofkolmabaaGreatDoor
open Go.RowKit
set_option linter.unusedVariables false
attribute [local go_sem] Oper.semAt_some

/-- the text in a box -/
def strAt (w : World) (b : Nat) : Nat := match w.cell? ⟨b, 0, none⟩ with
  | some (.string t) => t.size + 1
  | _ => 0
theorem strAt_of {w : World} {b : Nat} {t : ByteArray} (h : w.cell? ⟨b, 0, none⟩ = some (.string t)) : strAt w b = t.size + 1 := by rw [strAt, h]
set_option maxHeartbeats 2000000 in
set_option maxRecDepth 100000 in
theorem split1_in (n : Nat) (hn : 1 ≤ n) (b1 b2 b3 : Nat) (h12 : b1 ≠ b2) (h32 : b3 ≠ b2) (c : UInt8) (s : ByteArray) (hs : s.size ≤ 140737488351232) (w : World)
    (h1 : AtB w b1 #[.string ⟨#[c]⟩] 9) (h2 : AtB w b2 #[.string s] 9) (h3 : AtB w b3 #[.int .i64 0] 3) :
    SeqM n Tryz.prog 208 #[.pointer (some ⟨b1, 0, none⟩), .pointer (some ⟨b2, 0, none⟩), .pointer (some ⟨b3, 0, none⟩)] (fun b => b = b1 ∨ b = b2 ∨ b = b3) (pcsB c s) w := by
  intro l J Jx W hk hsz hJ hJx hY h0
  have a1 : AtB W b1 #[.string ⟨#[c]⟩] 9 := h1.stay (hk b1 (.inl rfl))
  have a2 : AtB W b2 #[.string s] 9 := h2.stay (hk b2 (.inr (.inl rfl)))
  have a3 : AtB W b3 #[.int .i64 0] 3 := h3.stay (hk b3 (.inr (.inr rfl)))
  have x1 := a1.cell (i := 0) (v := .string ⟨#[c]⟩) rfl
  have ci := fun (t : ByteArray) (W : World) => (Tryz.strings_Index_one t c W).mono (R' := fun e w' => e = .returned (.int .i64 (Lib.indexByte t.data.toList c)) ∧ W = w') fun e w' ⟨q1, q2⟩ => ⟨q1, q2.symm⟩
  have CI := Lib.hid ci; have HY := Lib.hid hY; have HJ := Lib.hid hJ; have HJX := Lib.hid hJx; have H0 := Lib.hid h0
  obtain ⟨xs, hxs⟩ : ∃ xs, xs = pcsB c s := ⟨_, rfl⟩
  rw [← hxs] at HY ⊢
  have HXS := Lib.hid hxs
  have A1 := Lib.hid a1; have A2 := Lib.hid a2; have A3 := Lib.hid a3
  clear ci hY hJ hJx h0 hxs h1 h2 h3 hk a1 a2 a3
  refine callsIn_of_wp Tryz.func208 rfl trivial ?_ rfl
  simp only [Tryz.ntmps208, List.size_toArray, List.length_cons, List.length_nil, Nat.reduceAdd, Nat.reduceSub, Array.replicate_succ, Array.replicate_zero, List.push_toArray, List.append_toArray, List.nil_append, List.cons_append]
  gi_wp2
  gi_loopw [7, 8] (fun _ _ wr => ∃ (k : Nat) (t : ByteArray), t.size ≤ 140737488351232 ∧ Hid (xs.drop k = pcsB c t) ∧ Hid (AtB wr b1 #[.string ⟨#[c]⟩] 9) ∧ Hid (AtB wr b2 #[.string t] 9) ∧ Hid (AtB wr b3 #[.int .i64 0] 3) ∧ Hid (J k wr)) (fun _ _ wr => strAt wr b2)
  case atStart => exact ⟨0, s, hs, Lib.hid (by rw [HXS.out]; rfl), A1, A2, A3, H0⟩
  case round =>
    obtain ⟨k, t, ht, HD, B1, B2, B3, HJK⟩ := hrel
    have y1 := B1.out.cell (i := 0) (v := .string ⟨#[c]⟩) rfl
    have y2 := B2.out.cell (i := 0) (v := .string t) rfl
    have y3 := B3.out.cell (i := 0) (v := .int .i64 0) rfl
    have HST := Lib.hid (strAt_of y2)
    have ci := CI.out t
    rcases idx_cases t c with e | ⟨i, e⟩
    · rw [e] at ci
      have hp := pcsB_none e
      have hd := HD.out
      rw [hp] at hd
      have hx : xs[k]? = some t := by
        have := congrArg (fun l => l[0]?) hd
        simpa [List.getElem?_drop] using this
      have hl : k + 1 = xs.length := by
        have := congrArg List.length hd
        rw [List.length_drop] at this
        simp at this
        omega
      obtain ⟨fn, tmps, assign, body, hy, hR⟩ := HY.out k t wr hx HJK.out
      have CI1 := Lib.hid ci; have HR := Lib.hid hR; have HL := Lib.hid hl
      clear ci e hp hd hx hR hl
      gi_wp2_with (refine ⟨trivial, ?_⟩; gi_at_call 171; refine (callsIn_wide.2 (CI1.out _)).mono ?_; rintro e w' ⟨rfl, rfl⟩)
      refine HR.out.mono ?_
      rintro e W3 (⟨rfl, hJ3, hk3⟩ | ⟨rfl, hJx3⟩)
      · gi_wp2
        go_end0
        exact ⟨⟨_, rfl⟩, .inl (by rw [← HL.out]; exact hJ3)⟩
      · gi_wp2
        go_end0
        exact ⟨⟨_, rfl⟩, .inr ⟨_, hJx3⟩⟩
    · rw [e] at ci
      obtain ⟨hi, hp⟩ := pcsB_some e
      have hd := HD.out
      rw [hp] at hd
      have hx : xs[k]? = some (t.extract 0 i) := by
        have := congrArg (fun l => l[0]?) hd
        simpa [List.getElem?_drop] using this
      have hn2 : xs.drop (k + 1) = pcsB c (t.extract (i + 1) t.size) := by
        have := congrArg List.tail hd
        simpa [List.tail_drop] using this
      obtain ⟨fn, tmps, assign, body, hy, hR⟩ := HY.out k _ wr hx HJK.out
      have CI1 := Lib.hid ci; have HR := Lib.hid hR; have HN := Lib.hid hn2
      have i0 : (0 : Int) ≤ (i : Int) := by omega
      have i1 : (i : Int) < (t.size : Int) := by omega
      clear ci e hp hd hx hR hn2
      gi_wp2_with (refine ⟨trivial, ?_⟩; gi_at_call 171; refine (callsIn_wide.2 (CI1.out _)).mono ?_; rintro e w' ⟨rfl, rfl⟩)
      refine HR.out.mono ?_
      rintro e W3 (⟨rfl, hJ3, hk3⟩ | ⟨rfl, hJx3⟩)
      · have d1 := B1.out.stay (hk3 b1 (.inl rfl))
        have d2 := B2.out.stay (hk3 b2 (.inr (.inl rfl)))
        have d3 := B3.out.stay (hk3 b3 (.inr (.inr rfl)))
        have z1 := d1.cell (i := 0) (v := .string ⟨#[c]⟩) rfl
        have z2 := d2.cell (i := 0) (v := .string t) rfl
        have z2f := d2.frozen 0
        have D1 := Lib.hid (d1.far (p := ⟨b2, 0, none⟩) h12 (.string (t.extract (i + 1) t.size)))
        have D3 := Lib.hid (d3.far (p := ⟨b2, 0, none⟩) h32 (.string (t.extract (i + 1) t.size)))
        have hd2 := d2.set 0 (.string (t.extract (i + 1) t.size))
        rw [show (#[Value.string t].setIfInBounds 0 (.string (t.extract (i + 1) t.size))) = #[.string (t.extract (i + 1) t.size)] from rfl] at hd2
        have D2 := Lib.hid hd2
        have HJ3 := Lib.hid (HJ.out (k + 1) W3 _ (some b2) hJ3 (grownBy_setCell' W3 b2 (.string (t.extract (i + 1) t.size))) (fun r e => by cases e; exact .inr (.inl rfl)))
        have hm := strAt_of (hd2.cell (i := 0) (v := .string (t.extract (i + 1) t.size)) rfl)
        rw [ByteArray.size_extract] at hm
        have HM := Lib.hid hm
        clear d1 d2 d3 hJ3 hk3 hd2 hm
        gi_wp2
        go_roundw
        case rel => exact ⟨k + 1, t.extract (i + 1) t.size, by rw [ByteArray.size_extract]; omega, HN, D1, D2, D3, HJ3⟩
        case measure => rw [HM.out, HST.out]; omega
      · gi_wp2
        refine bodyPost_ret (results_none rfl _ _ _) rfl ?_
        exact ⟨⟨_, rfl⟩, .inr ⟨_, hJx3⟩⟩
/-- strings.SplitSeq at one byte -/
theorem split_any (s : ByteArray) (c : UInt8) (w : World) :
    Calls Tryz.prog 155 #[.string s, .string ⟨#[c]⟩] w fun e w' => e = .returned (.func (.func 208) #[] #[.pointer (some ⟨w.heap.size + 1, 0, none⟩), .pointer (some ⟨w.heap.size, 0, none⟩), .pointer (some ⟨w.heap.size + 1 + 1, 0, none⟩)]) ∧
      w' = ((w.alloc (.cells #[.string s] 9)).alloc (.cells #[.string ⟨#[c]⟩] 9)).alloc (.cells #[.int .i64 0] 3) := by
  go_enter Tryz.func155, Tryz.ntmps155
  go_wp2
  go_ret
  exact ⟨rfl, rfl⟩
end Go.Proofs.YtpgemofkolmabaaGreatDoor
namespace Go.Proofs.YtpgemofkolmabaaGreatDoor
open Go.RowKit Go.Joins
set_option linter.unusedVariables false

/-- strconv's two errors are laid -/
def EE (w : World) : Prop := (∃ t p, w.cell? ⟨6, 0, none⟩ = some (.iface t p)) ∧ ∃ t p, w.cell? ⟨7, 0, none⟩ = some (.iface t p)
theorem EE.below {w w' : World} {B : Nat} (h : EE w) (hb : Below B w w') (hB : w.heap.size ≤ B) : EE w' := by
  obtain ⟨⟨t, p, h1⟩, ⟨t2, p2, h2⟩⟩ := h
  exact ⟨⟨t, p, (hb.cell (p := ⟨6, 0, none⟩) (Nat.lt_of_lt_of_le (lt_of_cell h1) hB)).trans h1⟩, ⟨t2, p2, (hb.cell (p := ⟨7, 0, none⟩) (Nat.lt_of_lt_of_le (lt_of_cell h2) hB)).trans h2⟩⟩
theorem atoi_ok (s : ByteArray) (hs : s.size ≤ 140737488351232) (v : Int) (h : Lib.atoiAll s.data.toList = .ok v) (w : World) :
    Calls Tryz.prog 130 #[.string s] w fun e w' => e = .returned (.tuple #[.int .i64 v, .nilIface]) ∧ Below w.heap.size w w' :=
  (Tryz.strconv_Atoi_ok s (by omega) v h w).mono fun e w' ⟨h1, h2⟩ => ⟨h1, by
    rcases h2 with h2 | ⟨t, h2⟩
    · rw [h2]; exact Below.refl _ _
    · rw [h2]; exact Lib.bytesWorld_below _ _ _⟩
/-- the error that strconv.Atoi gives: its type, and where it lies -/
def NotNum (w : World) (e : Ending) (w' : World) : Prop := ∃ (m : Int) (T : TypeId) (N : Nat), e = .returned (.tuple #[.int .i64 m, .iface T (.pointer (some ⟨N, 0, none⟩))]) ∧ Below w.heap.size w w'
theorem atoi_no (s : ByteArray) (hs : s.size ≤ 140737488351232) (h : ∀ v, Lib.atoiAll s.data.toList ≠ .ok v) (w : World) (he : EE w) : Calls Tryz.prog 130 #[.string s] w (NotNum w) := by
  obtain ⟨⟨t, p, h1⟩, ⟨t2, p2, h2⟩⟩ := he
  cases ha : Lib.atoiAll s.data.toList with
  | ok v => exact absurd ha (h v)
  | range => exact (Tryz.strconv_Atoi_range s (by omega) ha _ w h2 (.inr ⟨t2, p2, rfl⟩)).mono fun e w' ⟨N, q1, _, _, q2⟩ => ⟨_, _, N, q1, q2⟩
  | _ => exact (Tryz.strconv_Atoi_syntax s (by omega) ha _ w h1 (.inr ⟨t, p, rfl⟩)).mono fun e w' ⟨N, q1, _, _, q2⟩ => ⟨_, _, N, q1, q2⟩
theorem pre_yes {s : ByteArray} {c : UInt8} (h : 0 < s.size) (hc : s[0] = c) : Lib.hasPrefix s.data.toList [c] = true := by
  have := head_of h
  cases hl : s.data.toList with
  | nil => rw [hl] at this; cases this
  | cons x r =>
    rw [hl] at this
    simp only [List.head?_cons, Option.some.injEq] at this
    rw [this, hc]
    simp [Lib.hasPrefix, List.isPrefixOf]
theorem pre_no {s : ByteArray} {c : UInt8} (h : ∀ h : 0 < s.size, s[0] ≠ c) : Lib.hasPrefix s.data.toList [c] = false := by
  cases hl : s.data.toList with
  | nil => rfl
  | cons x r =>
    have hp : 0 < s.size := by
      show 0 < s.data.size
      rw [← Array.length_toList, hl]; simp
    have := head_of hp
    rw [hl] at this
    simp only [List.head?_cons, Option.some.injEq] at this
    have h2 := h hp
    rw [← this] at h2
    have h3 : (c == x) = false := by rw [beq_eq_false_iff_ne]; exact fun e => h2 e.symm
    simp [Lib.hasPrefix, List.isPrefixOf, h3]
theorem cutp_yes (s : ByteArray) (hs : s.size ≤ 140737488351232) (h : 0 < s.size) (hc : s[0] = 58) (w : World) :
    Calls Tryz.prog 209 #[.string s, .string ⟨#[58]⟩] w fun e w' => e = .returned (.tuple #[.string (s.extract 1 s.size), .bool true]) ∧ w = w' := by
  have c1 := fun W => Tryz.stringslite_HasPrefix s ⟨#[58]⟩ W
  have hp := pre_yes h hc
  rw [show (ByteArray.mk #[58]).data.toList = [58] from rfl, hp] at c1
  have C1 := Lib.hid c1
  have h1 : (1 : Int) ≤ (s.size : Int) := by omega
  clear c1 hp hc
  go_enter Tryz.func209, Tryz.ntmps209
  go_wp2_with (first | (go_at_call 224; refine (C1.out _).mono ?_; rintro e w' ⟨rfl, rfl⟩) | go_in)
  go_ret2
  exact ⟨rfl, rfl⟩
theorem cutp_no (s : ByteArray) (hc : ∀ h : 0 < s.size, s[0] ≠ 58) (w : World) :
    Calls Tryz.prog 209 #[.string s, .string ⟨#[58]⟩] w fun e w' => e = .returned (.tuple #[.string s, .bool false]) ∧ w = w' := by
  have c1 := fun W => Tryz.stringslite_HasPrefix s ⟨#[58]⟩ W
  have hp := pre_no hc
  rw [show (ByteArray.mk #[58]).data.toList = [58] from rfl, hp] at c1
  have C1 := Lib.hid c1
  clear c1 hp hc
  go_enter Tryz.func209, Tryz.ntmps209
  go_wp2_with (first | (go_at_call 224; refine (C1.out _).mono ?_; rintro e w' ⟨rfl, rfl⟩) | go_in)
  go_ret2
  exact ⟨rfl, rfl⟩
theorem trimp_any (s : ByteArray) (w : World) :
    Calls Tryz.prog 210 #[.string s, .string ⟨#[45]⟩] w fun e w' => e = .returned (.string ⟨(Lib.trimPrefix s.data.toList [45]).toArray⟩) ∧ w = w' :=
  (Tryz.strings_TrimPrefix s ⟨#[45]⟩ w).mono fun e w' ⟨h1, h2⟩ => ⟨h1, h2.symm⟩
section
variable {w w1 : World} {b : Nat}
/-- the block of a result that is nought yet -/
abbrev Z0 (w : World) (b : Nat) : Prop := AtB w b #[.int .i64 0, .int .i64 0, .string ⟨#[]⟩] 30
end
theorem set3 {w0 w : World} {b : Nat} (h : Below w0.heap.size w0 w) (hb : w0.heap.size ≤ b) (x y z : Value) : Below w0.heap.size w0 (((w.setCell ⟨b, 0, none⟩ x).setCell ⟨b, 1, none⟩ y).setCell ⟨b, 2, none⟩ z) := ((h.setCell hb _).setCell hb _).setCell hb _
set_option maxHeartbeats 1600000 in
set_option maxRecDepth 100000 in
theorem vread_star (w : World) : Calls Tryz.prog 184 #[.string ⟨#[42]⟩] w fun e w' => e = .returned (.tuple #[.agg #[.int .i64 2, .int .i64 0, .string ⟨#[]⟩], .bool true]) ∧ Below w.heap.size w w' := by
  go_enter Tryz.func184, Tryz.ntmps184
  go_wp2_with fail
  exact bodyPost_ret (v := .tuple #[.agg #[.int .i64 2, .int .i64 0, .string ⟨#[]⟩], .bool true]) (by simp [results, Tryz.results184, go_sem]) rfl ⟨rfl, (by repeat (first | exact Below.refl _ _ | assumption | refine bal ?_ _ | refine bdn ?_ _ | refine bdr ?_ | refine bcl ?_ (by assumption)))⟩
set_option maxHeartbeats 1600000 in
set_option maxRecDepth 100000 in
theorem vread_text (s : ByteArray) (hs : s.size ≤ 140737488351232) (h : 0 < s.size) (h42 : s ≠ ⟨#[42]⟩) (hc : s[0] = 58) (w : World) :
    Calls Tryz.prog 184 #[.string s] w fun e w' => e = .returned (.tuple #[.agg #[.int .i64 1, .int .i64 0, .string (s.extract 1 s.size)], .bool true]) ∧ Below w.heap.size w w' := by
  have t1 := star_other h42
  have c1 := fun W => cutp_yes s hs h hc W
  have C1 := Lib.hid c1
  clear c1 hc h42
  go_enter Tryz.func184, Tryz.ntmps184
  go_wp2_with (go_at_call 209; refine (C1.out _).mono ?_; rintro e w' ⟨rfl, rfl⟩)
  exact bodyPost_ret (v := .tuple #[.agg #[.int .i64 1, .int .i64 0, .string (s.extract 1 s.size)], .bool true]) (by simp [results, Tryz.results184, go_sem]) rfl ⟨rfl, (by repeat (first | exact Below.refl _ _ | assumption | refine bal ?_ _ | refine bdn ?_ _ | refine bdr ?_ | refine bcl ?_ (by assumption)))⟩
set_option maxHeartbeats 1600000 in
set_option maxRecDepth 100000 in
theorem vread_bad (s : ByteArray) (hs : s.size ≤ 140737488351232) (h42 : s ≠ ⟨#[42]⟩) (hc : ∀ h : 0 < s.size, s[0] ≠ 58) (hn : ∀ v, Lib.atoiAll s.data.toList ≠ .ok v) (w : World) (he : EE w) :
    Calls Tryz.prog 184 #[.string s] w fun e w' => (∃ m : Int, e = .returned (.tuple #[.agg #[.int .i64 0, .int .i64 m, .string ⟨#[]⟩], .bool false])) ∧ Below w.heap.size w w' := by
  have t1 := star_other h42
  have c1 := fun W => cutp_no s hc W
  have c2 := atoi_no s hs hn (w.alloc (.cells #[.int .i64 0, .int .i64 0, .string ⟨#[]⟩] 30)) (he.below (bal1 w _) (Nat.le_refl _))
  have C1 := Lib.hid c1; have C2 := Lib.hid c2
  clear c1 c2 hc h42 hn he
  go_enter Tryz.func184, Tryz.ntmps184
  go_wp2_with (first | (go_at_call 209; refine (C1.out _).mono ?_; rintro e w' ⟨rfl, rfl⟩) | (go_at_call 130; refine C2.out.mono ?_; rintro e w1 ⟨m, T, N, rfl, hb1⟩; have hz := (AtB.new w #[.int .i64 0, .int .i64 0, .string ⟨#[]⟩] 30).below hb1 (by simp); have p0 := hz.cell (i := 0) rfl; have p1 := hz.cell (i := 1) rfl; have p2 := hz.cell (i := 2) rfl; have f0 := hz.frozen 0; have f1 := hz.frozen 1; have f2 := hz.frozen 2; have HB := Lib.hid (bcl (bal1 w _) hb1); have hzl := hz.lt; clear hb1 hz))
  exact bodyPost_ret (v := .tuple #[.agg #[.int .i64 0, .int .i64 m, .string ⟨#[]⟩], .bool false]) (by simp [results, Tryz.results184, go_sem, p0, p1, p2]) rfl ⟨⟨m, rfl⟩, by first | exact HB.out | exact set3 HB.out (Nat.le_refl _) _ _ _⟩
set_option maxHeartbeats 1600000 in
set_option maxRecDepth 100000 in
theorem vread_num (s : ByteArray) (hs : s.size ≤ 140737488351232) (h42 : s ≠ ⟨#[42]⟩) (hc : ∀ h : 0 < s.size, s[0] ≠ 58) (n : Int) (hn : Lib.atoiAll s.data.toList = .ok n) (w : World) (ht : TT w) :
    Calls Tryz.prog 184 #[.string s] w fun e w' => e = .returned (.tuple #[.agg #[.int .i64 0, .int .i64 n, .string ⟨#[]⟩], .bool (decide (Lib.itoa n = s.data.toList ∧ (Lib.trimPrefix s.data.toList [45]).length ≤ 7))]) ∧ Below w.heap.size w w' := by
  have t1 := star_other h42
  have c1 := fun W => cutp_no s hc W
  have c2 := atoi_ok s hs n hn (w.alloc (.cells #[.int .i64 0, .int .i64 0, .string ⟨#[]⟩] 30))
  obtain ⟨n0, n1⟩ := Lib.atoiAll_bounds hn
  have c3 := fun (W : World) (hW : Below w.heap.size w W) => itoa_any n n0 n1 W (tab_stays (g := 5) (by kernel_rfl) ht hW (Nat.le_refl _))
  have c4 := fun W => trimp_any s W
  obtain ⟨tx, htx⟩ : ∃ tx : ByteArray, tx = ⟨(Lib.itoa n).toArray⟩ := ⟨_, rfl⟩
  obtain ⟨tp, htp⟩ : ∃ tp : ByteArray, tp = ⟨(Lib.trimPrefix s.data.toList [45]).toArray⟩ := ⟨_, rfl⟩
  have e1 : Lib.itoa n = s.data.toList ↔ tx = s := by
    rw [htx]
    exact ⟨fun h => bytes_eq (by rw [← h]), fun h => by rw [← h]⟩
  have e2 : (Lib.trimPrefix s.data.toList [45]).length = tp.size := by rw [htp]; simp [ByteArray.size]
  rw [← htx] at c3
  rw [← htp] at c4
  have hd : decide (Lib.itoa n = s.data.toList ∧ (Lib.trimPrefix s.data.toList [45]).length ≤ 7) = decide (tx = s ∧ tp.size ≤ 7) := decide_eq_decide.2 (by rw [e1, e2])
  rw [hd]
  have C1 := Lib.hid c1; have C2 := Lib.hid c2; have C3 := Lib.hid c3; have C4 := Lib.hid c4
  clear c1 c2 c3 c4 hc h42 hn ht hd e1 e2 htx htp n0 n1
  by_cases hx : tx = s
  · subst hx
    have t2 := str_same tx
    by_cases h7 : tp.size ≤ 7
    · rw [decide_eq_true (⟨rfl, h7⟩ : tx = tx ∧ tp.size ≤ 7)]
      have d7 : (tp.size : Int) ≤ 7 := by omega
      clear h7
      go_enter Tryz.func184, Tryz.ntmps184
      go_wp2_with (first | (go_at_call 209; refine (C1.out _).mono ?_; rintro e w' ⟨rfl, rfl⟩) | (go_at_call 130; refine C2.out.mono ?_; rintro e w1 ⟨rfl, hb1⟩; have HB1 := Lib.hid (bcl (bal1 w _) hb1); have HZ1 := Lib.hid ((AtB.new w #[.int .i64 0, .int .i64 0, .string ⟨#[]⟩] 30).below hb1 (by simp)); clear hb1) | (go_at_call 82; refine (C3.out _ HB1.out).mono ?_; rintro e w2 ⟨rfl, hb2⟩; have hz := HZ1.out.below hb2 HZ1.out.lt; have p0 := hz.cell (i := 0) rfl; have p1 := hz.cell (i := 1) rfl; have p2 := hz.cell (i := 2) rfl; have f0 := hz.frozen 0; have f1 := hz.frozen 1; have f2 := hz.frozen 2; have HB := Lib.hid (bcl HB1.out hb2); have hzl := hz.lt; clear hb2 hz) | (go_at_call 210; refine (C4.out _).mono ?_; rintro e w' ⟨rfl, rfl⟩))
      exact bodyPost_ret (v := .tuple #[.agg #[.int .i64 0, .int .i64 n, .string ⟨#[]⟩], .bool true]) (by simp [results, Tryz.results184, go_sem, p0, p1, p2]) rfl ⟨rfl, by first | exact HB.out | exact set3 HB.out (Nat.le_refl _) _ _ _⟩
    · rw [decide_eq_false (fun h => h7 h.2 : ¬ (tx = tx ∧ tp.size ≤ 7))]
      have d7 : decide ((tp.size : Int) ≤ 7) = false := by simp; omega
      clear h7
      go_enter Tryz.func184, Tryz.ntmps184
      go_wp2_with (first | (go_at_call 209; refine (C1.out _).mono ?_; rintro e w' ⟨rfl, rfl⟩) | (go_at_call 130; refine C2.out.mono ?_; rintro e w1 ⟨rfl, hb1⟩; have HB1 := Lib.hid (bcl (bal1 w _) hb1); have HZ1 := Lib.hid ((AtB.new w #[.int .i64 0, .int .i64 0, .string ⟨#[]⟩] 30).below hb1 (by simp)); clear hb1) | (go_at_call 82; refine (C3.out _ HB1.out).mono ?_; rintro e w2 ⟨rfl, hb2⟩; have hz := HZ1.out.below hb2 HZ1.out.lt; have p0 := hz.cell (i := 0) rfl; have p1 := hz.cell (i := 1) rfl; have p2 := hz.cell (i := 2) rfl; have f0 := hz.frozen 0; have f1 := hz.frozen 1; have f2 := hz.frozen 2; have HB := Lib.hid (bcl HB1.out hb2); have hzl := hz.lt; clear hb2 hz) | (go_at_call 210; refine (C4.out _).mono ?_; rintro e w' ⟨rfl, rfl⟩))
      exact bodyPost_ret (v := .tuple #[.agg #[.int .i64 0, .int .i64 n, .string ⟨#[]⟩], .bool false]) (by simp [results, Tryz.results184, go_sem, p0, p1, p2]) rfl ⟨rfl, by first | exact HB.out | exact set3 HB.out (Nat.le_refl _) _ _ _⟩
  · rw [decide_eq_false (fun h => hx h.1 : ¬ (tx = s ∧ tp.size ≤ 7))]
    have t2 := str_other hx
    clear hx
    go_enter Tryz.func184, Tryz.ntmps184
    go_wp2_with (first | (go_at_call 209; refine (C1.out _).mono ?_; rintro e w' ⟨rfl, rfl⟩) | (go_at_call 130; refine C2.out.mono ?_; rintro e w1 ⟨rfl, hb1⟩; have HB1 := Lib.hid (bcl (bal1 w _) hb1); have HZ1 := Lib.hid ((AtB.new w #[.int .i64 0, .int .i64 0, .string ⟨#[]⟩] 30).below hb1 (by simp)); clear hb1) | (go_at_call 82; refine (C3.out _ HB1.out).mono ?_; rintro e w2 ⟨rfl, hb2⟩; have hz := HZ1.out.below hb2 HZ1.out.lt; have p0 := hz.cell (i := 0) rfl; have p1 := hz.cell (i := 1) rfl; have p2 := hz.cell (i := 2) rfl; have f0 := hz.frozen 0; have f1 := hz.frozen 1; have f2 := hz.frozen 2; have HB := Lib.hid (bcl HB1.out hb2); have hzl := hz.lt; clear hb2 hz))
    exact bodyPost_ret (v := .tuple #[.agg #[.int .i64 0, .int .i64 n, .string ⟨#[]⟩], .bool false]) (by simp [results, Tryz.results184, go_sem, p0, p1, p2]) rfl ⟨rfl, by first | exact HB.out | exact set3 HB.out (Nat.le_refl _) _ _ _⟩
end Go.Proofs.YtpgemofkolmabaaGreatDoor
namespace Go.Proofs.YtpgemofkolmabaaGreatDoor
open Go.RowKit Go.Joins
set_option linter.unusedVariables false

theorem text_cases {s : ByteArray} : s = ⟨#[42]⟩ ∨ (s ≠ ⟨#[42]⟩ ∧ ∃ h : 0 < s.size, s[0] = 58) ∨ (s ≠ ⟨#[42]⟩ ∧ ∀ h : 0 < s.size, s[0] ≠ 58) := by
  by_cases h : s = ⟨#[42]⟩
  · exact .inl h
  · by_cases h2 : ∃ h : 0 < s.size, s[0] = 58
    · exact .inr (.inl ⟨h, h2⟩)
    · exact .inr (.inr ⟨h, fun h3 e => h2 ⟨h3, e⟩⟩)
theorem rdV_numA {s : ByteArray} (h1 : s ≠ ⟨#[42]⟩) (h2 : ∀ h : 0 < s.size, s[0] ≠ 58) : rdV s = (rdA s.data.toList).map fun n => ⟨0, n, ⟨#[]⟩⟩ := by
  rw [rd_eq]
  refine rdV_num h1 ?_
  by_cases h : 0 < s.size
  · exact .inr ⟨h, fun e => h2 h ((byte_eq (by decide)).1 e)⟩
  · exact .inl (by omega)
theorem vread_some (s : ByteArray) (hs : s.size ≤ 140737488351232) (v : Va) (h : rdV s = some v) (w : World) (ht : TT w) :
    Calls Tryz.prog 184 #[.string s] w fun e w' => e = .returned (.tuple #[.agg #[.int .i64 v.k, .int .i64 v.n, .string v.s], .bool true]) ∧ Below w.heap.size w w' := by
  rcases @text_cases s with e | ⟨e, h0, hc⟩ | ⟨e, hc⟩
  · subst e
    rw [rdV, if_pos rfl] at h
    simp only [Option.some.injEq] at h
    subst h
    exact vread_star w
  · rw [rdV_text e h0 (by rw [hc]; rfl)] at h
    simp only [Option.some.injEq] at h
    subst h
    exact vread_text s hs h0 e hc w
  · rw [rdV_numA e hc] at h
    cases ha : Lib.atoiAll s.data.toList with
    | ok n =>
      have hn := vread_num s hs e hc n ha w ht
      by_cases hx : Lib.itoa n = s.data.toList ∧ (Lib.trimPrefix s.data.toList [45]).length ≤ 7
      · rw [rdA, ha] at h
        simp only [if_pos hx, Option.map, Option.some.injEq] at h
        subst h
        rw [decide_eq_true hx] at hn
        exact hn
      · rw [rdA, ha] at h
        simp only [if_neg hx, Option.map] at h
        cases h
    | range => rw [rdA, ha] at h; cases h
    | _ => rw [rdA, ha] at h; cases h
/-- a value that is none: whatever number stands in it -/
def NoVal (w : World) (e : Ending) (w' : World) : Prop := ∃ m : Int, e = .returned (.tuple #[.agg #[.int .i64 0, .int .i64 m, .string ⟨#[]⟩], .bool false]) ∧ Below w.heap.size w w'
theorem vread_none (s : ByteArray) (hs : s.size ≤ 140737488351232) (h : rdV s = none) (w : World) (ht : TT w) (he : EE w) : Calls Tryz.prog 184 #[.string s] w (NoVal w) := by
  rcases @text_cases s with e | ⟨e, h0, hc⟩ | ⟨e, hc⟩
  · subst e
    rw [rdV, if_pos rfl] at h
    cases h
  · rw [rdV_text e h0 (by rw [hc]; rfl)] at h
    cases h
  · rw [rdV_numA e hc] at h
    cases ha : Lib.atoiAll s.data.toList with
    | ok n =>
      have hn := vread_num s hs e hc n ha w ht
      by_cases hx : Lib.itoa n = s.data.toList ∧ (Lib.trimPrefix s.data.toList [45]).length ≤ 7
      · rw [rdA, ha] at h
        simp only [if_pos hx, Option.map] at h
        cases h
      · rw [decide_eq_false hx] at hn
        exact hn.mono fun e w' ⟨h1, h2⟩ => ⟨n, h1, h2⟩
    | range => exact (vread_bad s hs e hc (fun v => by rw [ha]; intro h; cases h) w he).mono fun e w' ⟨⟨m, h1⟩, h2⟩ => ⟨m, h1, h2⟩
    | _ => exact (vread_bad s hs e hc (fun v => by rw [ha]; intro h; cases h) w he).mono fun e w' ⟨⟨m, h1⟩, h2⟩ => ⟨m, h1, h2⟩
theorem rdV_size {s : ByteArray} {v : Va} (h : rdV s = some v) (hs : s.size ≤ 140737488351232) : v.s.size ≤ maxLen := by
  rcases @text_cases s with e | ⟨e, h0, hc⟩ | ⟨e, hc⟩
  · subst e
    rw [rdV, if_pos rfl] at h
    simp only [Option.some.injEq] at h
    subst h
    decide
  · rw [rdV_text e h0 (by rw [hc]; rfl)] at h
    simp only [Option.some.injEq] at h
    subst h
    show (s.extract 1 s.size).size ≤ maxLen
    rw [ByteArray.size_extract]; unfold maxLen; omega
  · rw [rdV_numA e hc] at h
    cases hr : rdA s.data.toList with
    | none => rw [hr] at h; cases h
    | some n =>
      rw [hr] at h
      simp only [Option.map, Option.some.injEq] at h
      subst h
      exact Nat.zero_le _
set_option maxHeartbeats 1600000 in
set_option maxRecDepth 100000 in
theorem vparse_any (s : ByteArray) (hs : s.size ≤ 140737488351232) (w : World) (ht : TT w) (he : EE w) :
    Calls Tryz.prog 156 #[.string s] w fun e w' => e = .returned (.tuple #[.agg #[.int .i64 (rdR s).k, .int .i64 (rdR s).n, .string (rdR s).s], eV (rdE s)]) ∧ Below w.heap.size w w' := by
  have hb0 := bal1 w (.cells #[.int .i64 0, .int .i64 0, .string ⟨#[]⟩] 30)
  have ht0 : TT (w.alloc (.cells #[.int .i64 0, .int .i64 0, .string ⟨#[]⟩] 30)) := tab_stays (g := 5) (by kernel_rfl) ht hb0 (Nat.le_refl _)
  have he0 : EE (w.alloc (.cells #[.int .i64 0, .int .i64 0, .string ⟨#[]⟩] 30)) := he.below hb0 (Nat.le_refl _)
  cases hv : rdV s with
  | none =>
    obtain ⟨r1, r2⟩ := rd_none hv
    rw [r1, r2]
    have c1 := vread_none s hs hv _ ht0 he0
    have C1 := Lib.hid c1
    clear c1 hv r1 r2 ht0 he0 ht he hb0
    go_enter Tryz.func156, Tryz.ntmps156
    go_wp2_with fail
    refine C1.out.mono ?_
    rintro e w1 ⟨m, rfl, hb1⟩
    have hz := (AtB.new w #[.int .i64 0, .int .i64 0, .string ⟨#[]⟩] 30).below hb1 (by simp)
    have p0 := hz.cell (i := 0) rfl; have p1 := hz.cell (i := 1) rfl; have p2 := hz.cell (i := 2) rfl
    have f0 := hz.frozen 0; have f1 := hz.frozen 1; have f2 := hz.frozen 2
    have HB := Lib.hid (bcl (bal1 w _) hb1)
    have hzl := hz.lt
    have HZ := Lib.hid hz
    clear hb1 hz
    go_wp2_with fail
    have hq := (((HZ.out.set 0 (.int .i64 0)).set 1 (.int .i64 0)).set 2 (.string ⟨#[]⟩)).alloc (.cells #[.int .i64 0, .int .i64 m, .string ⟨#[]⟩] 30)
    have q0 := hq.cell (i := 0) (v := .int .i64 0) rfl; have q1 := hq.cell (i := 1) (v := .int .i64 0) rfl; have q2 := hq.cell (i := 2) (v := .string ⟨#[]⟩) rfl
    exact bodyPost_ret (v := .tuple #[.agg #[.int .i64 0, .int .i64 0, .string ⟨#[]⟩], errV 2]) (by simp [results, Tryz.results156, go_sem, q0, q1, q2]) rfl ⟨rfl, bal (set3 HB.out (Nat.le_refl _) _ _ _) _⟩
  | some v =>
    obtain ⟨r1, r2⟩ := rd_some hv
    have c1 := vread_some s hs v hv _ ht0
    have c2 := fun W => vcheck_any v.k v.n v.s (rdV_size hv hs) W
    rw [show (Va.mk v.k v.n v.s) = v from rfl] at c2
    by_cases h0 : vaE v = 0
    · rw [h0] at r1 c2
      rw [if_pos h0] at r2
      rw [r1, r2, eV_zero]
      rw [eV_zero] at c2
      obtain ⟨k, n, tx⟩ := v
      have C1 := Lib.hid c1; have C2 := Lib.hid c2
      clear c1 c2 hv r1 r2 ht0 he0 ht he hb0 h0
      go_enter Tryz.func156, Tryz.ntmps156
      go_wp2_with fail
      refine C1.out.mono ?_
      rintro e w1 ⟨rfl, hb1⟩
      have hz := (AtB.new w #[.int .i64 0, .int .i64 0, .string ⟨#[]⟩] 30).below hb1 (by simp)
      have HZ := Lib.hid hz
      have HB := Lib.hid (bcl (bal1 w _) hb1)
      clear hb1 hz
      go_wp2_with fail
      refine (C2.out _).mono ?_
      rintro e w2 ⟨rfl, hb2⟩
      have hz := (HZ.out.alloc _).below hb2 (HZ.out.alloc _).lt
      have hx := (AtB.new w1 #[.int .i64 k, .int .i64 n, .string tx] 30).below hb2 (by simp)
      have p0 := hz.cell (i := 0) rfl; have p1 := hz.cell (i := 1) rfl; have p2 := hz.cell (i := 2) rfl
      have f0 := hz.frozen 0; have f1 := hz.frozen 1; have f2 := hz.frozen 2
      have x0 := hx.cell (i := 0) rfl; have x1 := hx.cell (i := 1) rfl; have x2 := hx.cell (i := 2) rfl
      have HB2 := Lib.hid (bcl (bal HB.out _) hb2)
      have hzl := hz.lt
      clear hb2 hz hx
      go_wp2_with fail
      exact bodyPost_ret (v := .tuple #[.agg #[.int .i64 k, .int .i64 n, .string tx], .nilIface]) (by simp [results, Tryz.results156, go_sem, p0, p1, p2]) rfl ⟨rfl, by first | exact HB2.out | exact set3 HB2.out (Nat.le_refl _) _ _ _⟩
    · rw [if_neg h0] at r2
      rw [r1, r2, eV_of h0]
      rw [eV_of h0] at c2
      obtain ⟨k, n, tx⟩ := v
      generalize vaE ⟨k, n, tx⟩ = E at *
      have C1 := Lib.hid c1; have C2 := Lib.hid c2
      clear c1 c2 hv r1 r2 ht0 he0 ht he hb0 h0
      go_enter Tryz.func156, Tryz.ntmps156
      go_wp2_with fail
      refine C1.out.mono ?_
      rintro e w1 ⟨rfl, hb1⟩
      have hz := (AtB.new w #[.int .i64 0, .int .i64 0, .string ⟨#[]⟩] 30).below hb1 (by simp)
      have HZ := Lib.hid hz
      have HB := Lib.hid (bcl (bal1 w _) hb1)
      clear hb1 hz
      go_wp2_with fail
      refine (C2.out _).mono ?_
      rintro e w2 ⟨rfl, hb2⟩
      have hz := (HZ.out.alloc _).below hb2 (HZ.out.alloc _).lt
      have p0 := hz.cell (i := 0) rfl; have p1 := hz.cell (i := 1) rfl; have p2 := hz.cell (i := 2) rfl
      have f0 := hz.frozen 0; have f1 := hz.frozen 1; have f2 := hz.frozen 2
      have HB2 := Lib.hid (bcl (bal HB.out _) hb2)
      have hzl := hz.lt
      clear hb2 hz
      go_wp2_with fail
      exact bodyPost_ret (v := .tuple #[.agg #[.int .i64 0, .int .i64 0, .string ⟨#[]⟩], errV E]) (by simp [results, Tryz.results156, go_sem, p0, p1, p2]) rfl ⟨rfl, by first | exact HB2.out | exact set3 HB2.out (Nat.le_refl _) _ _ _⟩
end Go.Proofs.YtpgemofkolmabaaGreatDoor
namespace Go.Proofs.YtpgemofkolmabaaGreatDoor
open Go.RowKit Go.Joins
set_option linter.unusedVariables false
attribute [local go_sem] Oper.semAt_some

/-- the first fault among texts -/
def tpF : List ByteArray → Int
  | [] => 0
  | x :: r => if rdE x ≠ 0 then rdE x else tpF r
theorem tpF_app (l : List ByteArray) (m : List ByteArray) : tpF (l ++ m) = if tpF l ≠ 0 then tpF l else tpF m := by
  induction l with
  | nil => rfl
  | cons y r ih =>
    have e1 : ∀ t, tpF (y :: t) = if rdE y ≠ 0 then rdE y else tpF t := fun _ => rfl
    rw [List.cons_append, e1, e1]
    by_cases h : rdE y = 0
    · simp only [h, ne_eq, not_true_eq_false, if_false]
      exact ih
    · simp only [ne_eq, h, not_false_eq_true, if_true]
theorem tpF_next {l : List ByteArray} {k : Nat} {x : ByteArray} (h : tpF (l.take k) = 0) (hx : l[k]? = some x) (h0 : rdE x = 0) : tpF (l.take (k + 1)) = 0 := by
  rw [List.take_add_one, hx, tpF_app, if_neg (by rw [h]; simp)]
  show (if rdE x ≠ 0 then rdE x else 0) = 0
  rw [if_neg (by rw [h0]; simp)]
theorem tpF_at {l : List ByteArray} {k : Nat} {x : ByteArray} (h : tpF (l.take k) = 0) (hx : l[k]? = some x) (h0 : rdE x ≠ 0) : tpF l = rdE x := by
  have hl : l = l.take k ++ x :: l.drop (k + 1) := by
    obtain ⟨hlt, e⟩ := List.getElem?_eq_some_iff.1 hx
    rw [← e, ← List.drop_eq_getElem_cons hlt, List.take_append_drop]
  rw [hl, tpF_app, if_neg (by rw [h]; simp)]
  show (if rdE x ≠ 0 then rdE x else _) = _
  rw [if_pos h0]
theorem pcs_len (c : UInt8) : ∀ l : List UInt8, ∀ p ∈ pcs c l, p.length ≤ l.length
  | [], p, h => by simp [pcs] at h; simp [h]
  | x :: r, p, h => by
    unfold pcs at h
    have ih := pcs_len c r
    split at h
    · rcases List.mem_cons.1 h with e | e
      · rw [e]; simp
      · have := ih p e; simp; omega
    · split at h
      · rename_i q t e
        rw [e] at ih
        rcases List.mem_cons.1 h with e2 | e2
        · rw [e2]; have := ih q (by simp); simp; omega
        · have := ih p (by simp [e2]); simp; omega
      · simp at h; rw [h]; simp
theorem pcsB_size {c : UInt8} {s : ByteArray} {k : Nat} {x : ByteArray} (h : (pcsB c s)[k]? = some x) : x.size ≤ s.size := by
  have hm := List.mem_of_getElem? h
  obtain ⟨l, hl, rfl⟩ := List.mem_map.1 hm
  have := pcs_len c _ l hl
  rw [Array.length_toList] at this
  show (l.toArray).size ≤ s.size
  rw [List.size_toArray]
  exact this
theorem pcs_cnt (c : UInt8) : ∀ l : List UInt8, (pcs c l).length ≤ l.length + 1
  | [] => by simp [pcs]
  | x :: r => by
    have ih := pcs_cnt c r
    unfold pcs
    split
    · simp; omega
    · split
      · rename_i q t e
        rw [e] at ih
        simp at ih ⊢; omega
      · simp
/-- the fault of a text as a tuple, and the tuple -/
def tpE (s : ByteArray) : Int := if s.size = 0 then 5 else if tpF (pcsB 44 s) ≠ 0 then tpF (pcsB 44 s) else if 5 < (pcsB 44 s).length then 4 else 0
def tpR (s : ByteArray) : List Va := if tpE s = 0 then (pcsB 44 s).map rdR else []
theorem own_low {W : World} {b b' : Nat} {e : TypeId} {n k : Nat} {v : Value} {xs : List Value} (h : W.ownsRow b e n v k xs) (hb : b' ≤ b) : W.ownsRow b' e n v k xs := by
  refine ⟨h.1, ?_⟩
  rcases h.2 with h2 | ⟨g, cap, cur, h3, h4, h5⟩
  · exact .inl h2
  · exact .inr ⟨g, cap, cur, h3, by omega, h5⟩
theorem KeepsOthers.of_below {W W' : World} (h : Below W.heap.size W W') : KeepsOthers W W' := ⟨h.size, fun k o hk _ => (h.block k (Array.getElem?_eq_some_iff.1 hk).1).trans hk⟩

/-- between two fields -/
structure TI (w : World) (ps : List ByteArray) (k : Nat) (W : World) : Prop where
  r1 : Boxed W w.heap.size 31 (.slice none 0 0)
  r2 : Boxed W (w.heap.size + 1) 24 .nilIface
  out : ∃ (A : Option Addr) (c : Nat), Boxed W (w.heap.size + 1 + 1) 31 (.slice A k c) ∧ W.ownsRow (w.heap.size + 6) 30 3 (.slice A k c) k (vaCells ((ps.take k).map rdR))
  ok : tpF (ps.take k) = 0
  le : k ≤ ps.length
  b : Below w.heap.size w W
  z : w.heap.size + 6 ≤ W.heap.size
/-- a field that is none -/
structure TX (w : World) (ps : List ByteArray) (c : Code) (W : World) : Prop where
  c : c = .ret
  r1 : Boxed W w.heap.size 31 (.slice none 0 0)
  r2 : Boxed W (w.heap.size + 1) 24 (errV (tpF ps))
  bad : tpF ps ≠ 0
  b : Below w.heap.size w W
abbrev M3 (w : World) (b : Nat) : Prop := b = w.heap.size + 1 + 1 + 1 + 1 ∨ b = w.heap.size + 1 + 1 + 1 ∨ b = w.heap.size + 1 + 1 + 1 + 1 + 1
theorem box_stay {W W' : World} {row : Option Nat} {w : World} {B : Nat} {t : TypeId} {v : Value} {L : Nat} (h : Boxed W B t v) (hB : B < w.heap.size + 3) (hg : W.grownBy W' row) (hr : ∀ r, row = some r → M3 w r ∨ (L ≤ r ∧ ∃ o : Obj, W.heap[r]? = some o ∧ o.isCells = false)) : Boxed W' B t v := by
  refine h.kept hg fun e => ?_
  rcases hr B e.symm with h1 | ⟨_, o, h2, h3⟩
  · unfold M3 at h1; omega
  · rw [show W.heap[B]? = _ from h] at h2
    cases h2; cases h3
theorem low_stay {W W' : World} {row : Option Nat} {w : World} {L : Nat} (h : Below w.heap.size w W) (hL : w.heap.size ≤ L) (hg : W.grownBy W' row) (hr : ∀ r, row = some r → M3 w r ∨ (L ≤ r ∧ ∃ o : Obj, W.heap[r]? = some o ∧ o.isCells = false)) : Below w.heap.size w W' :=
  h.grown hg h.size fun r e => by
    rcases hr r e with h1 | ⟨h1, _⟩
    · unfold M3 at h1; omega
    · omega
theorem TI.stay {w : World} {ps : List ByteArray} {L : Nat} (hL : w.heap.size ≤ L) : AbR (M3 w) L (TI w ps) := by
  intro k W W' row h hg hr
  obtain ⟨A, c, o1, o2⟩ := h.out
  refine ⟨box_stay h.r1 (by omega) hg hr, box_stay h.r2 (by omega) hg hr, ⟨A, c, box_stay o1 (by omega) hg hr, o2.kept hg ?_⟩, h.ok, h.le, low_stay h.b hL hg hr, Nat.le_trans h.z hg.size⟩
  rcases o2.2 with ⟨e, _⟩ | ⟨g, cap, cur, e, hb, hgb, _⟩
  · exact .inl (by rw [e]; rfl)
  · refine .inr fun e' => ?_
    have er : row = some g := by rw [← e', e]; rfl
    rcases hr g er with h1 | ⟨_, o, h2, h3⟩
    · unfold M3 at h1; omega
    · rw [hgb] at h2; cases h2; cases h3
theorem TX.stay {w : World} {ps : List ByteArray} {L : Nat} (hL : w.heap.size ≤ L) (c : Code) : AbR (M3 w) L (fun _ => TX w ps c) := by
  intro k W W' row h hg hr
  exact ⟨h.c, box_stay h.r1 (by omega) hg hr, box_stay h.r2 (by omega) hg hr, h.bad, low_stay h.b hL hg hr⟩
theorem bx_below {W W' : World} {B : Nat} {t : TypeId} {v : Value} (h : Boxed W B t v) (hb : Below W.heap.size W W') : Boxed W' B t v := (hb.block B h.lt).trans h
theorem add_pl (b o j : Nat) : (⟨b, o, none⟩ : Addr).add j = ⟨b, o + j, none⟩ := Lib.add_plain b o j
set_option maxHeartbeats 3200000 in
set_option maxRecDepth 100000 in
theorem tparse_in (s : ByteArray) (hs : s.size ≤ 140737488351232) (h0 : 0 < s.size) (hl : (pcsB 44 s).length ≤ 4000000) (w : World) (ht : TT w) (he : EE w) :
    CallsIn Fence.wide 5 Tryz.prog 131 #[.string s] w fun e w' => (∃ (A : Option Addr) (c : Nat), e = .returned (.tuple #[.slice A (tpR s).length c, eV (tpE s)]) ∧ OVals w' w.heap.size A c (tpR s)) ∧ Below w.heap.size w w' := by
  have q0 : s.toList.isEmpty = false := emp_test h0
  obtain ⟨i0, hi, hz0, hz1, hz2⟩ := info_parts infoV
  have HTE := Lib.hid (fun (W : World) (h : Below w.heap.size w W) => And.intro (show TT W from tab_stays (g := 5) (by kernel_rfl) ht h (Nat.le_refl _)) (he.below h (Nat.le_refl _)))
  refine callsIn_of_wp_marks Tryz.func131 rfl trivial ?_ rfl
  simp only [Tryz.ntmps131, List.size_toArray, List.length_cons, List.length_nil, Nat.reduceAdd, Nat.reduceSub, Array.replicate_succ, Array.replicate_zero, List.push_toArray, List.append_toArray, List.nil_append, List.cons_append]
  gi_wp2_with (refine ⟨trivial, ?_⟩; gi_at_call 155; refine (callsIn_wide.2 (split_any _ _ _)).mono ?_; rintro e w' ⟨rfl, rfl⟩)
  obtain ⟨X, hX⟩ : ∃ X, X = ((w.alloc (.cells #[.slice none 0 0] 31)).alloc (.cells #[.nilIface] 24)).alloc (.cells #[.slice none 0 0] 31) := ⟨_, rfl⟩
  have hXz : X.heap.size = w.heap.size + 1 + 1 + 1 := by rw [hX]; simp
  have x1 : Boxed X w.heap.size 31 (.slice none 0 0) := by rw [hX]; exact ((Boxed.new w _ _).alloc _).alloc _
  have x2 : Boxed X (w.heap.size + 1) 24 .nilIface := by
    have := Boxed.new (w.alloc (.cells #[.slice none 0 0] 31)) 24 .nilIface
    rw [World.size_alloc] at this
    rw [hX]; exact this.alloc _
  have x3 : Boxed X (w.heap.size + 1 + 1) 31 (.slice none 0 0) := by
    have := Boxed.new ((w.alloc (.cells #[.slice none 0 0] 31)).alloc (.cells #[.nilIface] 24)) 31 (.slice none 0 0)
    rw [World.size_alloc, World.size_alloc] at this
    rw [hX]; exact this
  have xb : Below w.heap.size w X := by rw [hX]; exact bal (bal (bal1 _ _) _) _
  rw [← hX]
  have y2 := ((AtB.new X #[.string s] 9).alloc (.cells #[.string ⟨#[44]⟩] 9)).alloc (.cells #[.int .i64 0] 3)
  have y1 := (AtB.new (X.alloc (.cells #[.string s] 9)) #[.string ⟨#[44]⟩] 9).alloc (.cells #[.int .i64 0] 3)
  have y3 := AtB.new ((X.alloc (.cells #[.string s] 9)).alloc (.cells #[.string ⟨#[44]⟩] 9)) #[.int .i64 0] 3
  obtain ⟨Y, hY⟩ : ∃ Y, Y = ((X.alloc (.cells #[.string s] 9)).alloc (.cells #[.string ⟨#[44]⟩] 9)).alloc (.cells #[.int .i64 0] 3) := ⟨_, rfl⟩
  rw [← hY] at y1 y2 y3 ⊢
  simp only [World.size_alloc, hXz] at y1 y2 y3
  have z1 : Boxed Y w.heap.size 31 (.slice none 0 0) := by rw [hY]; exact ((x1.alloc _).alloc _).alloc _
  have z2 : Boxed Y (w.heap.size + 1) 24 .nilIface := by rw [hY]; exact ((x2.alloc _).alloc _).alloc _
  have z3 : Boxed Y (w.heap.size + 1 + 1) 31 (.slice none 0 0) := by rw [hY]; exact ((x3.alloc _).alloc _).alloc _
  have yb : Below w.heap.size w Y := by rw [hY]; exact bal (bal (bal xb _) _) _
  have hYz : Y.heap.size = w.heap.size + 6 := by rw [hY]; simp [hXz]
  obtain ⟨ps, hps⟩ : ∃ ps, ps = pcsB 44 s := ⟨_, rfl⟩
  have hseq := split1_in 4 (by decide) _ _ _ (by omega) (by omega) 44 s hs Y y1 y2 y3
  rw [← hps] at hseq hl
  have H0 : TI w ps 0 Y := ⟨z1, z2, ⟨none, 0, z3, World.ownsRow_nil _ _ _ _⟩, rfl, Nat.zero_le _, yb, by omega⟩
  have HPS := Lib.hid hps
  clear hX hY hps x1 x2 x3 xb y1 y2 y3 z1 z2 z3 ht he q0 hXz
  refine wpIn_range_texts (M := M3 w) (xs := ps) (gf := 208) (lb := #[.pointer (some ⟨w.heap.size + 1 + 1 + 1 + 1, 0, none⟩), .pointer (some ⟨w.heap.size + 1 + 1 + 1, 0, none⟩), .pointer (some ⟨w.heap.size + 1 + 1 + 1 + 1 + 1, 0, none⟩)]) rfl (enters_of Tryz.func208 (by kernel_rfl) rfl)
    (fun b hb => by unfold M3 at hb; omega) hseq (TI w ps) (fun c _ => TX w ps c) (TI.stay (by omega)) (fun c => TX.stay (by omega) c) H0
    (fun x => { tmps := #[.string s, undef, .pointer (some ⟨w.heap.size, 0, none⟩), .pointer (some ⟨w.heap.size + 1, 0, none⟩), .pointer (some ⟨w.heap.size + 1 + 1, 0, none⟩), .string x, undef, undef, .string s, .bool false, undef, .string s,
      .func (.func 208) #[] #[.pointer (some ⟨w.heap.size + 1 + 1 + 1 + 1, 0, none⟩), .pointer (some ⟨w.heap.size + 1 + 1 + 1, 0, none⟩), .pointer (some ⟨w.heap.size + 1 + 1 + 1 + 1 + 1, 0, none⟩)], .string x, undef, undef, undef, undef, undef, undef, undef, undef, undef, undef, undef, undef, undef, undef, undef, undef, undef], defers := [] }) ?assign ?body ?done ?stop
  case assign =>
    intro l x W K hK
    gi_wp2
    exact hK
  case body =>
    intro l k x W hx hI
    have hxs : x.size ≤ s.size := pcsB_size (c := 44) (k := k) (by rw [← HPS.out]; exact hx)
    obtain ⟨tt, ee⟩ := HTE.out W hI.b
    have cp := vparse_any x (by omega) W tt ee
    have hkl := (List.getElem?_eq_some_iff.1 hx).1
    have hz := hI.z
    by_cases hE : rdE x = 0
    · rw [hE, eV_zero] at cp
      obtain ⟨A, c, o1, o2⟩ := hI.out
      have hmap : (ps.take (k + 1)).map rdR = (ps.take k).map rdR ++ [rdR x] := by rw [List.take_add_one, hx]; simp
      have hok2 := tpF_next hI.ok hx hE
      have HMAP := Lib.hid hmap; have HOK2 := Lib.hid hok2
      generalize rdR x = R at *
      have CP := Lib.hid cp; have HI := Lib.hid hI
      clear cp hE tt ee hxs hx hI hmap hok2
      gi_wp2_with fail
      refine ⟨trivial, ?_⟩
      refine (CallsIn.inRound l (callsIn_wide.2 CP.out)).mono ?_
      rintro e w1 ⟨rfl, hb1⟩
      have b1 := bx_below HI.out.r1 hb1
      have b2 := bx_below HI.out.r2 hb1
      have b3 := bx_below o1 hb1
      have ow := own_keep o2 hb1
      have hz1' := hb1.size
      have p3 := b3.cell; have l3 := b3.lt
      have hcs : ∀ (j : Nat) (u : Value), ([.int .i64 R.k, .int .i64 R.n, .string R.s] : List Value)[j]? = some u → ((w1.alloc (.cells #[.int .i64 R.k, .int .i64 R.n, .string R.s] 30)).alloc (.cells #[.int .i64 R.k, .int .i64 R.n, .string R.s] 30)).cell? ((⟨w1.heap.size + 1, 0, none⟩ : Addr).add j) = some u := by
        intro j u hj
        have hA := AtB.new (w1.alloc (.cells #[.int .i64 R.k, .int .i64 R.n, .string R.s] 30)) #[.int .i64 R.k, .int .i64 R.n, .string R.s] 30
        rw [World.size_alloc] at hA
        have := hA.cell (i := j) (v := u) (by rw [← hj]; simp)
        rw [add_pl, Nat.zero_add]
        exact this
      have HCS := Lib.hid hcs
      have B1 := Lib.hid b1; have B2 := Lib.hid b2; have B3 := Lib.hid b3; have OW := Lib.hid ow; have HB1 := Lib.hid hb1
      clear b1 b2 b3 ow hb1 hcs
      gi_wp2_with (gi_at_builtin; refine wpListIn_append_own _ rfl _ _ 31 rfl (w.heap.size + 6) 30 i0 _ 3 32 Tryz.underlying31 hi hz0 hz1 hz2 rfl (by decide) _ _ _ rfl ((OW.out.alloc _).alloc _) ⟨w1.heap.size + 1, 0, none⟩ 1 1 [.int .i64 R.k, .int .i64 R.n, .string R.s] rfl rfl HCS.out (by simp [Value.oneCell']) (by unfold maxLen; omega) (by omega) (by simp; omega) ?_; intro v' w2 hown' hgrow _; obtain ⟨g', cap', rfl⟩ := ownsRow_succ hown'; obtain ⟨v1, v2, v3, v4, v5⟩ := Boxed.appended (n₀ := w.heap.size) (B3.out.alloc (.cells #[.int .i64 R.k, .int .i64 R.n, .string R.s] 30)) (by decide) (own_low (OW.out.alloc (.cells #[.int .i64 R.k, .int .i64 R.n, .string R.s] 30)) (by omega)) (by simp; omega) (by omega) (own_low hown' (by omega)) hgrow; have v6 := hown'.kept (grownBy_setCell' w2 (w.heap.size + 1 + 1) (.slice (some ⟨g', 0, none⟩) (k + 1) cap')) (.inr (v1.not_row (by decide) hown').symm); have m1 := v1.cell; have m2 := v1.frozen; have G := Lib.hid hgrow; have V2 := Lib.hid v2; have V4 := Lib.hid v4; have V5 := Lib.hid v5; have V6 := Lib.hid v6; clear hown' hgrow v1 v2 v3 v4 v5 v6)
      have hrow := (OW.out.alloc (.cells #[.int .i64 R.k, .int .i64 R.n, .string R.s] 30)).alloc (.cells #[.int .i64 R.k, .int .i64 R.n, .string R.s] 30)
      have hg6 : ∀ r, (Value.slice A k c).ownBlock = some r → w.heap.size + 6 ≤ r := fun r e => by
        rcases hrow.2 with ⟨e2, _⟩ | ⟨g, cap, cur, e2, hb, _⟩
        · rw [e2] at e; cases e
        · rw [e2] at e; cases e; exact hb
      refine ⟨((KeepsOthers.of_below HB1.out).trans ((KeepsOthers.alloc _ _).trans V4.out)).from _, ?_, ?_⟩
      · refine (KpM.below HB1.out fun b hb => by unfold M3 at hb; omega).trans ((show KpM (M3 w) w1 (w1.alloc (.cells #[.int .i64 R.k, .int .i64 R.n, .string R.s] 30)) from KpM.alloc _ fun b hb => by unfold M3 at hb; omega).trans ((show KpM (M3 w) (w1.alloc (.cells #[.int .i64 R.k, .int .i64 R.n, .string R.s] 30)) ((w1.alloc (.cells #[.int .i64 R.k, .int .i64 R.n, .string R.s] 30)).alloc (.cells #[.int .i64 R.k, .int .i64 R.n, .string R.s] 30)) from KpM.alloc _ fun b hb => by unfold M3 at hb; simp; omega).trans ?_))
        intro b hb
        have hb6 : b < w.heap.size + 6 := by unfold M3 at hb; omega
        rw [Below.heap_setCell _ _ _ _ (by unfold M3 at hb; simp; omega)]
        exact G.out.block b (by simp; omega) fun e => by have := hg6 b e.symm; omega
      · refine ⟨?_, ?_, ⟨_, _, V2.out, ?_⟩, HOK2.out, by omega, ?_, ?_⟩
        · exact ((((B1.out.alloc _).alloc _).kept G.out (((B1.out.alloc _).alloc _).not_row (by decide) hrow)).other (by omega) _)
        · exact ((((B2.out.alloc _).alloc _).kept G.out (((B2.out.alloc _).alloc _).not_row (by decide) hrow)).other (by omega) _)
        · rw [HMAP.out, vaCells_append]
          exact V6.out
        · exact (bal (bcl HI.out.b HB1.out) _).trans V5.out
        · have := G.out.size
          simp only [World.size_alloc] at this
          have h2 : (w2.setCell ⟨w.heap.size + 1 + 1, 0, none⟩ (.slice (some ⟨g', 0, none⟩) (k + 1) cap')).heap.size = w2.heap.size := by simp [World.setCell]
          rw [h2]; omega
    · have hF := tpF_at hI.ok hx hE
      rw [eV_of hE, ← hF] at cp
      have hbad : tpF ps ≠ 0 := by rw [hF]; exact hE
      generalize rdR x = R at *
      have CP := Lib.hid cp; have HI := Lib.hid hI
      clear cp hF hE tt ee hxs hx hI
      gi_wp2_with fail
      refine ⟨trivial, ?_⟩
      refine (CallsIn.inRound l (callsIn_wide.2 CP.out)).mono ?_
      rintro e w1 ⟨rfl, hb1⟩
      have b1 := bx_below HI.out.r1 hb1
      have b2 := bx_below HI.out.r2 hb1
      have p1 := b1.cell; have p2 := b2.cell; have f1 := b1.frozen; have f2 := b2.frozen; have l1 := b1.lt; have l2 := b2.lt
      have B1 := Lib.hid b1; have B2 := Lib.hid b2; have HB1 := Lib.hid hb1
      clear b1 b2 hb1
      gi_wp2_with fail
      exact ⟨((((KeepsOthers.of_below HB1.out).trans (KeepsOthers.setCell _ _ _)).trans (KeepsOthers.setCell _ _ _)).trans (KeepsOthers.alloc _ _)).from _, ⟨rfl, ((B1.out.set _).other (by omega) _).alloc _, ((B2.out.other (by omega) _).set _).alloc _, hbad, bal (((bcl HI.out.b HB1.out).setCell (p := ⟨w.heap.size, 0, none⟩) (Nat.le_refl _) _).setCell (p := ⟨w.heap.size + 1, 0, none⟩) (by simp) _) _⟩⟩
  case done =>
    intro D W hD hI hK
    obtain ⟨A, c, o1, o2⟩ := hI.out
    rw [List.take_length] at o2
    have p1 := hI.r1.cell; have p2 := hI.r2.cell; have p3 := o1.cell
    have f1 := hI.r1.frozen; have f2 := hI.r2.frozen
    have l1 := hI.r1.lt; have l2 := hI.r2.lt
    have hne : s.size ≠ 0 := by omega
    have hok := hI.ok
    rw [List.take_length] at hok
    have hlm : (ps.map rdR).length = ps.length := List.length_map _
    have HO := Lib.hid (show W.ownsRow w.heap.size 30 3 (.slice A ps.length c) ps.length (vaCells (ps.map rdR)) from own_low o2 (by omega))
    by_cases h5 : 5 < ps.length
    · have HE := Lib.hid (show tpE s = 4 by rw [tpE, if_neg hne, ← HPS.out, if_neg (by rw [hok]; simp), if_pos h5])
      have HR := Lib.hid (show tpR s = [] by rw [tpR, if_neg (by rw [HE.out]; decide)])
      have h5' : (5 : Int) < (ps.length : Int) := by omega
      have HI := Lib.hid hI
      clear hne hok hI hlm o2
      gi_wp2
      have B1 := (HI.out.r1.set (.slice none 0 0)).other (show w.heap.size ≠ w.heap.size + 1 by omega) (errV 4)
      have B2 := (HI.out.r2.other (show w.heap.size + 1 ≠ w.heap.size by omega) (.slice none 0 0)).set (errV 4)
      have hK2 : ((W.setCell ⟨w.heap.size, 0, none⟩ (.slice none 0 0)).setCell ⟨w.heap.size + 1, 0, none⟩ (errV 4)).heap[D]? = some (.deferred (some [])) := by
        rw [Below.heap_setCell _ _ _ _ (by simp; omega), Below.heap_setCell _ _ _ _ (by simp; omega)]; exact hK
      have e1 := cell_kept B1.cell (grownBy_putObj' _ D (.deferred none)) (fun r e => by cases e; exact ⟨_, hK2, rfl⟩)
      have e2 := cell_kept B2.cell (grownBy_putObj' _ D (.deferred none)) (fun r e => by cases e; exact ⟨_, hK2, rfl⟩)
      refine ⟨by simp, .inl ⟨_, _, rfl, run_takeDeferred hK2, ?_⟩⟩
      refine ⟨.tuple #[.slice none 0 0, errV 4], by simp [results, Tryz.results131, go_sem, e1, e2], ?_⟩
      exact ⟨⟨none, 0, by rw [HE.out, HR.out]; rfl, by rw [HR.out]; exact OVals.nil⟩, ((HI.out.b.setCell (p := ⟨w.heap.size, 0, none⟩) (Nat.le_refl _) _).setCell (p := ⟨w.heap.size + 1, 0, none⟩) (by simp) _).trans (belowK_b (w := w) (Nat.le_refl _) _ D _ _ (by omega) hK2 rfl rfl)⟩
    · have HE := Lib.hid (show tpE s = 0 by rw [tpE, if_neg hne, ← HPS.out, if_neg (by rw [hok]; simp), if_neg h5])
      have HR := Lib.hid (show tpR s = ps.map rdR by rw [tpR, if_pos HE.out, ← HPS.out])
      have h5' : decide ((5 : Int) < (ps.length : Int)) = false := by simp; omega
      have HI := Lib.hid hI; have HLM := Lib.hid hlm
      clear hne hok hI hlm o2 h5
      gi_wp2
      have B1 := (HI.out.r1.set (.slice A ps.length c)).other (show w.heap.size ≠ w.heap.size + 1 by omega) .nilIface
      have B2 := (HI.out.r2.other (show w.heap.size + 1 ≠ w.heap.size by omega) (.slice A ps.length c)).set .nilIface
      have hK2 : ((W.setCell ⟨w.heap.size, 0, none⟩ (.slice A ps.length c)).setCell ⟨w.heap.size + 1, 0, none⟩ .nilIface).heap[D]? = some (.deferred (some [])) := by
        rw [Below.heap_setCell _ _ _ _ (by simp; omega), Below.heap_setCell _ _ _ _ (by simp; omega)]; exact hK
      have e1 := cell_kept B1.cell (grownBy_putObj' _ D (.deferred none)) (fun r e => by cases e; exact ⟨_, hK2, rfl⟩)
      have e2 := cell_kept B2.cell (grownBy_putObj' _ D (.deferred none)) (fun r e => by cases e; exact ⟨_, hK2, rfl⟩)
      have hrow := (HO.out.kept (grownBy_setCell' W w.heap.size (.slice A ps.length c)) (.inr (HI.out.r1.not_row (by decide) HO.out).symm))
      have hrow2 := hrow.kept (grownBy_setCell' _ (w.heap.size + 1) .nilIface) (.inr ((HI.out.r2.other (show w.heap.size + 1 ≠ w.heap.size by omega) (.slice A ps.length c)).not_row (by decide) hrow).symm)
      refine ⟨by simp, .inl ⟨_, _, rfl, run_takeDeferred hK2, ?_⟩⟩
      refine ⟨.tuple #[.slice A ps.length c, .nilIface], by simp [results, Tryz.results131, go_sem, e1, e2], ?_⟩
      refine ⟨⟨A, c, by rw [HE.out, HR.out, HLM.out]; rfl, ?_⟩, ((HI.out.b.setCell (p := ⟨w.heap.size, 0, none⟩) (Nat.le_refl _) _).setCell (p := ⟨w.heap.size + 1, 0, none⟩) (by simp) _).trans (belowK_b (w := w) (Nat.le_refl _) _ D _ _ (by omega) hK2 rfl rfl)⟩
      unfold OVals
      rw [HR.out, HLM.out]
      exact ownsRow_putObj hrow2 _ hK2 rfl
  case stop =>
    rintro D c k W hD ⟨rfl, h1, h2, h3, h4⟩ hK
    have p1 := h1.cell; have p2 := h2.cell
    have hne : s.size ≠ 0 := by omega
    have hE : tpE s = tpF ps := by rw [tpE, if_neg hne, ← HPS.out, if_pos h3]
    have hR : tpR s = [] := by rw [tpR, if_neg (by rw [hE]; exact h3)]
    have HE := Lib.hid hE; have HR := Lib.hid hR; have H3 := Lib.hid h3
    clear hE hR h3 hne
    gi_wp2
    have e1 := cell_kept p1 (grownBy_putObj' W D (.deferred none)) (fun r e => by cases e; exact ⟨_, hK, rfl⟩)
    have e2 := cell_kept p2 (grownBy_putObj' W D (.deferred none)) (fun r e => by cases e; exact ⟨_, hK, rfl⟩)
    refine ⟨by simp, .inl ⟨_, _, rfl, run_takeDeferred hK, ?_⟩⟩
    refine ⟨.tuple #[.slice none 0 0, errV (tpF ps)], by simp [results, Tryz.results131, go_sem, e1, e2], ?_⟩
    exact ⟨⟨none, 0, by rw [HE.out, HR.out, eV_of H3.out]; rfl, by rw [HR.out]; exact OVals.nil⟩, h4.trans (belowK_b (w := w) (Nat.le_refl _) W D _ _ (by omega) hK rfl rfl)⟩
end Go.Proofs.YtpgemofkolmabaaGreatDoor
namespace Go.Proofs.YtpgemofkolmabaaGreatDoor
open Go.RowKit
set_option linter.unusedVariables false
set_option maxHeartbeats 1600000 in
set_option maxRecDepth 100000 in
theorem rread_star (w : World) :
    Calls Tryz.prog 94 #[.string ⟨#[42]⟩] w fun e w' => e = .returned (.tuple #[.agg #[.int .i64 (rdR ⟨#[42]⟩).k, .int .i64 (rdR ⟨#[42]⟩).n, .string (rdR ⟨#[42]⟩).s], .int .i64 (rdE ⟨#[42]⟩)]) ∧ Below w.heap.size w w' := by
  have hv : rdV ⟨#[42]⟩ = some ⟨2, 0, ⟨#[]⟩⟩ := if_pos rfl
  obtain ⟨r1, r2⟩ := rd_some hv
  have he : vaE ⟨2, 0, ⟨#[]⟩⟩ = 0 := by decide
  rw [he] at r1
  rw [if_pos he] at r2
  rw [r1, r2]
  clear hv r1 r2 he
  go_enter Tryz.func94, Tryz.ntmps94
  go_wp2_with fail
  exact bodyPost_ret (v := .tuple #[.agg #[.int .i64 2, .int .i64 0, .string ⟨#[]⟩], .int .i64 0]) (by simp [results, Tryz.results94, go_sem]) rfl ⟨rfl, (by repeat (first | exact Below.refl _ _ | assumption | refine bal ?_ _ | refine bdn ?_ _ | refine bdr ?_ | refine bcl ?_ (by assumption)))⟩
set_option maxHeartbeats 1600000 in
set_option maxRecDepth 100000 in
theorem rread_empty (w : World) :
    Calls Tryz.prog 94 #[.string ⟨#[]⟩] w fun e w' => e = .returned (.tuple #[.agg #[.int .i64 (rdR ⟨#[]⟩).k, .int .i64 (rdR ⟨#[]⟩).n, .string (rdR ⟨#[]⟩).s], .int .i64 (rdE ⟨#[]⟩)]) ∧ Below w.heap.size w w' := by
  have hv : rdV ⟨#[]⟩ = none := by rw [rdV, if_neg (by decide), if_neg (by decide)]; rfl
  obtain ⟨r1, r2⟩ := rd_none hv
  rw [r1, r2]
  clear hv r1 r2
  go_enter Tryz.func94, Tryz.ntmps94
  go_wp2_with fail
  exact bodyPost_ret (v := .tuple #[.agg #[.int .i64 0, .int .i64 0, .string ⟨#[]⟩], .int .i64 2]) (by simp [results, Tryz.results94, go_sem]) rfl ⟨rfl, (by repeat (first | exact Below.refl _ _ | assumption | refine bal ?_ _ | refine bdn ?_ _ | refine bdr ?_ | refine bcl ?_ (by assumption)))⟩
set_option maxHeartbeats 1600000 in
set_option maxRecDepth 100000 in
theorem rread_text (s : ByteArray) (hs : s.size ≤ 140737488351232) (hsz : 0 < s.size) (h42 : s ≠ ⟨#[42]⟩) (h58 : s[0].toNat = 58) (w : World) :
    Calls Tryz.prog 94 #[.string s] w fun e w' => e = .returned (.tuple #[.agg #[.int .i64 (rdR s).k, .int .i64 (rdR s).n, .string (rdR s).s], .int .i64 (rdE s)]) ∧ Below w.heap.size w w' := by
  have t1 := star_other h42
  have t2 : ((s[0].toNat : Int) == 58) = true := beq_iff_eq.2 (by omega)
  obtain ⟨r1, r2⟩ := rd_some (rdV_text h42 hsz h58)
  have hx : (s.extract 1 s.size).size ≤ maxLen := by rw [ByteArray.size_extract]; unfold maxLen; omega
  have cv := fun W => rvalue_any 1 0 (s.extract 1 s.size) hx W
  have hs1 : (1 : Int) ≤ (s.size : Int) := by omega
  by_cases he : vaE ⟨1, 0, s.extract 1 s.size⟩ = 0
  · rw [he] at r1 cv
    rw [if_pos he] at r2
    rw [r1, r2]
    have CV := Lib.hid cv
    clear r1 r2 cv he h42 h58 hx
    go_enter Tryz.func94, Tryz.ntmps94
    go_wp2_with fail
    refine (CV.out _).mono ?_
    rintro e w1 ⟨rfl, hb1⟩
    have p0 : w1.cell? ⟨w.heap.size, 0, none⟩ = some (.int .i64 0) := (hb1.cell (p := ⟨w.heap.size, 0, none⟩) (by simp; omega)).trans (by simp)
    have f0 : w1.frozen? ⟨w.heap.size, 0, none⟩ = false := (hb1.frozen (p := ⟨w.heap.size, 0, none⟩) (by simp; omega)).trans (by simp)
    have r0 : w1.cell? ⟨w.heap.size + 1, 0, none⟩ = some (.int .i64 1) := (hb1.cell (p := ⟨w.heap.size + 1, 0, none⟩) (by simp)).trans (by simp)
    have p1 : w1.cell? ⟨w.heap.size, 1, none⟩ = some (.int .i64 0) := (hb1.cell (p := ⟨w.heap.size, 1, none⟩) (by simp; omega)).trans (by simp)
    have f1 : w1.frozen? ⟨w.heap.size, 1, none⟩ = false := (hb1.frozen (p := ⟨w.heap.size, 1, none⟩) (by simp; omega)).trans (by simp)
    have r1 : w1.cell? ⟨w.heap.size + 1, 1, none⟩ = some (.int .i64 0) := (hb1.cell (p := ⟨w.heap.size + 1, 1, none⟩) (by simp)).trans (by simp)
    have p2 : w1.cell? ⟨w.heap.size, 2, none⟩ = some (.string ⟨#[]⟩) := (hb1.cell (p := ⟨w.heap.size, 2, none⟩) (by simp; omega)).trans (by simp)
    have f2 : w1.frozen? ⟨w.heap.size, 2, none⟩ = false := (hb1.frozen (p := ⟨w.heap.size, 2, none⟩) (by simp; omega)).trans (by simp)
    have r2 : w1.cell? ⟨w.heap.size + 1, 2, none⟩ = some (.string (s.extract 1 s.size)) := (hb1.cell (p := ⟨w.heap.size + 1, 2, none⟩) (by simp)).trans (by simp)
    have hbw : Below w.heap.size w w1 := bcl (bal (bal1 _ _) _) hb1
    clear t1 t2
    go_wp2_with fail
    exact bodyPost_ret (v := .tuple #[.agg #[.int .i64 1, .int .i64 0, .string (s.extract 1 s.size)], .int .i64 0]) (by simp [results, Tryz.results94, go_sem, p0, p1, p2]) rfl ⟨rfl, by first | exact hbw | exact ((hbw.setCell (Nat.le_refl _) _).setCell (Nat.le_refl _) _).setCell (Nat.le_refl _) _⟩
  · rw [if_neg he] at r2
    rw [r1, r2]
    have q1 : (vaE ⟨1, 0, s.extract 1 s.size⟩ != 0) = true := by rw [bne_iff_ne]; exact he
    generalize vaE ⟨1, 0, s.extract 1 s.size⟩ = E at *
    have CV := Lib.hid cv
    clear r1 r2 cv he h42 h58 hx
    go_enter Tryz.func94, Tryz.ntmps94
    go_wp2_with fail
    refine (CV.out _).mono ?_
    rintro e w1 ⟨rfl, hb1⟩
    have p0 : w1.cell? ⟨w.heap.size, 0, none⟩ = some (.int .i64 0) := (hb1.cell (p := ⟨w.heap.size, 0, none⟩) (by simp; omega)).trans (by simp)
    have f0 : w1.frozen? ⟨w.heap.size, 0, none⟩ = false := (hb1.frozen (p := ⟨w.heap.size, 0, none⟩) (by simp; omega)).trans (by simp)
    have r0 : w1.cell? ⟨w.heap.size + 1, 0, none⟩ = some (.int .i64 1) := (hb1.cell (p := ⟨w.heap.size + 1, 0, none⟩) (by simp)).trans (by simp)
    have p1 : w1.cell? ⟨w.heap.size, 1, none⟩ = some (.int .i64 0) := (hb1.cell (p := ⟨w.heap.size, 1, none⟩) (by simp; omega)).trans (by simp)
    have f1 : w1.frozen? ⟨w.heap.size, 1, none⟩ = false := (hb1.frozen (p := ⟨w.heap.size, 1, none⟩) (by simp; omega)).trans (by simp)
    have r1 : w1.cell? ⟨w.heap.size + 1, 1, none⟩ = some (.int .i64 0) := (hb1.cell (p := ⟨w.heap.size + 1, 1, none⟩) (by simp)).trans (by simp)
    have p2 : w1.cell? ⟨w.heap.size, 2, none⟩ = some (.string ⟨#[]⟩) := (hb1.cell (p := ⟨w.heap.size, 2, none⟩) (by simp; omega)).trans (by simp)
    have f2 : w1.frozen? ⟨w.heap.size, 2, none⟩ = false := (hb1.frozen (p := ⟨w.heap.size, 2, none⟩) (by simp; omega)).trans (by simp)
    have r2 : w1.cell? ⟨w.heap.size + 1, 2, none⟩ = some (.string (s.extract 1 s.size)) := (hb1.cell (p := ⟨w.heap.size + 1, 2, none⟩) (by simp)).trans (by simp)
    have hbw : Below w.heap.size w w1 := bcl (bal (bal1 _ _) _) hb1
    clear t1 t2
    go_wp2_with fail
    exact bodyPost_ret (v := .tuple #[.agg #[.int .i64 0, .int .i64 0, .string ⟨#[]⟩], .int .i64 E]) (by simp [results, Tryz.results94, go_sem, p0, p1, p2]) rfl ⟨rfl, by first | exact hbw | exact ((hbw.setCell (Nat.le_refl _) _).setCell (Nat.le_refl _) _).setCell (Nat.le_refl _) _⟩
/-- the reference's Read -/
theorem rread_any (s : ByteArray) (hs : s.size ≤ 140737488351232) (w : World) :
    Calls Tryz.prog 94 #[.string s] w fun e w' => e = .returned (.tuple #[.agg #[.int .i64 (rdR s).k, .int .i64 (rdR s).n, .string (rdR s).s], .int .i64 (rdE s)]) ∧ Below w.heap.size w w' := by
  by_cases h42 : s = ⟨#[42]⟩
  · subst h42; exact rread_star w
  · by_cases h0 : 0 < s.size
    · by_cases h58 : s[0].toNat = 58
      · exact rread_text s hs h0 h42 h58 w
      · by_cases h45 : s[0].toNat = 45
        · exact rread_minus s hs h0 h42 h58 h45 w
        · exact rread_plain s hs h0 h42 h58 h45 w
    · obtain rfl := emp_of (show s.size = 0 by omega)
      exact rread_empty w
end Go.Proofs.YtpgemofkolmabaaGreatDoor
namespace Go.Proofs.YtpgemofkolmabaaGreatDoor
open Go.RowKit Go.Joins
set_option linter.unusedVariables false

theorem tp_empty {s : ByteArray} (h : s.size = 0) : tpE s = 5 ∧ tpR s = [] := by
  have h1 : tpE s = 5 := if_pos h
  exact ⟨h1, by rw [tpR, if_neg (by rw [h1]; decide)]⟩
theorem tparse_nil (w : World) : Calls Tryz.prog 131 #[.string ⟨#[]⟩] w fun e w' => e = .returned (.tuple #[.slice none 0 0, errV 5]) ∧ Below w.heap.size w w' := by
  go_enter Tryz.func131, Tryz.ntmps131
  go_wp2
  exact bodyPost_ret (v := .tuple #[.slice none 0 0, errV 5]) (by simp [results, Tryz.results131, go_sem]) rfl ⟨rfl, (by repeat (first | exact Below.refl _ _ | assumption | refine bal ?_ _ | refine bdn ?_ _ | refine bdr ?_ | refine bcl ?_ (by assumption)))⟩
theorem tparse_any (s : ByteArray) (hs : s.size ≤ 140737488351232) (hl : (pcsB 44 s).length ≤ 4000000) (w : World) (ht : TT w) (he : EE w) :
    Calls Tryz.prog 131 #[.string s] w fun e w' => (∃ (A : Option Addr) (c : Nat), e = .returned (.tuple #[.slice A (tpR s).length c, eV (tpE s)]) ∧ OVals w' w.heap.size A c (tpR s)) ∧ Below w.heap.size w w' := by
  by_cases h0 : 0 < s.size
  · exact callsIn_wide.1 (tparse_in s hs h0 hl w ht he)
  · obtain ⟨e1, e2⟩ := tp_empty (show s.size = 0 by omega)
    obtain rfl := emp_of (show s.size = 0 by omega)
    rw [e1, e2]
    exact (tparse_nil w).mono fun e w' ⟨h1, h2⟩ => ⟨⟨none, 0, h1, OVals.nil⟩, h2⟩
end Go.Proofs.YtpgemofkolmabaaGreatDoor
namespace Go.Proofs.YtpgemofkolmabaaGreatDoor
open Go.RowKit
set_option linter.unusedVariables false

def cmpI (x y : Int) : Int := if x < y then -1 else if y < x then 1 else 0
/-- the first of three that is not nought -/
def or3 (a b c : Int) : Int := if a ≠ 0 then a else if b ≠ 0 then b else c
/-- which of two comes first -/
def ordI (a b : Va) : Int := or3 (cmpI a.k b.k) (cmpI a.n b.n) (Lib.compareBytes a.s.data.toList b.s.data.toList)
end Go.Proofs.YtpgemofkolmabaaGreatDoor
namespace Go.Proofs.YtpgemofkolmabaaGreatDoor
open Go.RowKit
set_option linter.unusedVariables false

theorem cb_drop {l r : List UInt8} {j : Nat} {a b : UInt8} (ha : l[j]? = some a) (hb : r[j]? = some b) : Lib.compareBytes (l.drop j) (r.drop j) = if a < b then -1 else if b < a then 1 else Lib.compareBytes (l.drop (j + 1)) (r.drop (j + 1)) := by
  have h1 : l.drop j = a :: l.drop (j + 1) := by
    obtain ⟨hl, e⟩ := List.getElem?_eq_some_iff.1 ha
    rw [← e, List.drop_eq_getElem_cons hl]
  have h2 : r.drop j = b :: r.drop (j + 1) := by
    obtain ⟨hl, e⟩ := List.getElem?_eq_some_iff.1 hb
    rw [← e, List.drop_eq_getElem_cons hl]
  rw [h1, h2]
  simp only [Lib.compareBytes]
theorem cb_end {l r : List UInt8} {j : Nat} (hj : j ≤ l.length ∧ j ≤ r.length) (h : j = l.length ∨ j = r.length) : Lib.compareBytes (l.drop j) (r.drop j) = if l.length < r.length then -1 else if r.length < l.length then 1 else 0 := by
  rcases h with e | e
  · rw [show l.drop j = [] from List.drop_eq_nil_of_le (by omega)]
    by_cases h2 : l.length < r.length
    · obtain ⟨b, t, hb⟩ : ∃ b t, r.drop j = b :: t := by
        cases hd : r.drop j with
        | nil => have := congrArg List.length hd; rw [List.length_drop, List.length_nil] at this; omega
        | cons b t => exact ⟨b, t, rfl⟩
      rw [hb, if_pos h2]; rfl
    · rw [show r.drop j = [] from List.drop_eq_nil_of_le (by omega), if_neg h2, if_neg (by omega)]; rfl
  · rw [show r.drop j = [] from List.drop_eq_nil_of_le (by omega)]
    by_cases h2 : r.length < l.length
    · obtain ⟨b, t, hb⟩ : ∃ b t, l.drop j = b :: t := by
        cases hd : l.drop j with
        | nil => have := congrArg List.length hd; rw [List.length_drop, List.length_nil] at this; omega
        | cons b t => exact ⟨b, t, rfl⟩
      rw [hb, if_neg (by omega), if_pos h2]; rfl
    · rw [show l.drop j = [] from List.drop_eq_nil_of_le (by omega), if_neg (by omega), if_neg h2]; rfl
end Go.Proofs.YtpgemofkolmabaaGreatDoor
namespace Go.Proofs.YtpgemofkolmabaaGreatDoor
set_option linter.unusedVariables false

theorem vaE_parts {v : Va} (h : vaE v = 0) : (v.k = 0 ∨ v.k = 1 ∨ v.k = 2) ∧ (v.k ≠ 0 → v.n = 0) ∧ (v.k ≠ 1 → v.s = ⟨#[]⟩) ∧ (v.k = 0 → -1000000 ≤ v.n ∧ v.n ≤ 1000000) ∧ v.s.size ≤ 12 := by
  obtain ⟨k0, k2, kn, ks⟩ := vaE_kind h
  unfold vaE at h
  split at h
  · cases h
  · split at h
    · cases h
    · split at h
      · cases h
      · rename_i h3
        refine ⟨by omega, fun e => Classical.not_not.1 fun hn => h3 (.inl ⟨e, hn⟩), fun e => emp_of ?_, kn, ks⟩
        have : ¬ 0 < v.s.size := fun hh => h3 (.inr (.inl ⟨e, hh⟩))
        omega
theorem cons_extract {s : ByteArray} (h : 0 < s.size) (h2 : s[0] = 58) : (ByteArray.mk #[58]) ++ s.extract 1 s.size = s := by
  refine bytes_eq ?_
  rw [ByteArray.data_append, Array.toList_append, ByteArray.data_extract, Array.toList_extract]
  have hh := head_of h
  cases hl : s.data.toList with
  | nil => rw [hl] at hh; cases hh
  | cons x r =>
    rw [hl] at hh
    simp only [List.head?_cons, Option.some.injEq] at hh
    have hz : s.size = r.length + 1 := by
      have : s.data.toList.length = s.size := Array.length_toList
      rw [← this, hl, List.length_cons]
    rw [hh, h2, hz]
    simp [List.extract]
theorem extract_cons (t : ByteArray) : ((ByteArray.mk #[58]) ++ t).extract 1 ((ByteArray.mk #[58]) ++ t).size = t := by
  refine bytes_eq ?_
  have hz : ((ByteArray.mk #[58]) ++ t).size = t.size + 1 := by rw [ByteArray.size_append]; show 1 + t.size = _; omega
  have hl : t.size = t.data.toList.length := Array.length_toList.symm
  rw [hz, ByteArray.data_extract, Array.toList_extract, ByteArray.data_append, Array.toList_append]
  simp only [List.extract]
  rw [show t.size + 1 - 1 = t.size by omega]
  show List.take t.size (([58] ++ t.data.toList).drop 1) = _
  rw [hl]
  exact List.take_length
theorem rd_back {s : ByteArray} (h : rdE s = 0) : vaE (rdR s) = 0 ∧ wrd (rdR s) = s := by
  cases hv : rdV s with
  | none => rw [(rd_none hv).1] at h; cases h
  | some v =>
    obtain ⟨r1, r2⟩ := rd_some hv
    rw [r1] at h
    rw [if_pos h] at r2
    rw [r2]
    refine ⟨h, ?_⟩
    rcases @text_cases s with e | ⟨e, h0, hc⟩ | ⟨e, hc⟩
    · subst e
      rw [rdV, if_pos rfl] at hv
      simp only [Option.some.injEq] at hv
      subst hv
      rfl
    · rw [rdV_text e h0 (by rw [hc]; rfl)] at hv
      simp only [Option.some.injEq] at hv
      subst hv
      rw [wrd, if_neg (show ¬ ((1 : Int) = 0) by decide), if_pos rfl]
      exact cons_extract h0 hc
    · rw [rdV_numA e hc, rd_eq] at hv
      cases hr : rdN s.data.toList with
      | none => rw [hr] at hv; cases hv
      | some n =>
        rw [hr] at hv
        simp only [Option.map, Option.some.injEq] at hv
        subst hv
        rw [wrd, if_pos rfl]
        exact bytes_eq (by rw [itoa_rdN hr])
theorem itoa_head (n : Int) : ∀ c, (Lib.itoa n).head? = some c → c.toNat ≠ 58 ∧ c.toNat ≠ 42 := by
  intro c hc
  by_cases hn : n < 0
  · obtain ⟨u, hu, rfl⟩ : ∃ u : Nat, 1 ≤ u ∧ n = -(u : Int) := ⟨n.natAbs, by omega, by omega⟩
    rw [Lib.itoa_neg u hu] at hc
    simp only [List.head?_cons, Option.some.injEq] at hc
    rw [← hc]; decide
  · obtain ⟨u, rfl⟩ : ∃ u : Nat, n = (u : Int) := ⟨n.toNat, by omega⟩
    rw [itoa_pos] at hc
    rcases Nat.eq_zero_or_pos u with e | e
    · subst e; rw [dd_zero] at hc
      simp only [List.head?_cons, Option.some.injEq] at hc
      rw [← hc]; decide
    · have := dd_head u e c hc
      omega
theorem rd_wrd {a : Va} (h : vaE a = 0) : rdE (wrd a) = 0 ∧ rdR (wrd a) = a := by
  obtain ⟨hk, hn, hs, hb, _⟩ := vaE_parts h
  have key : rdV (wrd a) = some a := by
    obtain ⟨k, n, s⟩ := a
    simp only at hk hn hs hb
    rcases hk with rfl | rfl | rfl
    · have := hs (by decide)
      subst this
      obtain ⟨b0, b1⟩ := hb rfl
      rw [show wrd ⟨0, n, ⟨#[]⟩⟩ = ⟨(Lib.itoa n).toArray⟩ from rfl]
      have hl : (ByteArray.mk (Lib.itoa n).toArray).data.toList = Lib.itoa n := rfl
      rw [rdV, if_neg, if_neg, hl, rdN_itoa n b0 b1]
      · rfl
      · rw [hl]
        intro e
        exact (itoa_head n 58 e).1 rfl
      · intro e
        have := congrArg (fun x : ByteArray => x.data.toList) e
        rw [hl] at this
        exact (itoa_head n 42 (by rw [this]; rfl)).2 rfl
    · have := hn (by decide)
      subst this
      rw [show wrd ⟨1, 0, s⟩ = ⟨#[58]⟩ ++ s from rfl]
      have hp : 0 < ((ByteArray.mk #[58]) ++ s).size := by rw [ByteArray.size_append]; show 0 < 1 + s.size; omega
      have hc : (((ByteArray.mk #[58]) ++ s)[0]'hp) = 58 := by
        have h1 := head_of hp
        rw [ByteArray.data_append, Array.toList_append] at h1
        simp at h1
        exact h1.symm
      rw [rdV_text (star_head hp (by rw [hc]; decide)) hp (by rw [hc]; rfl), extract_cons]
    · have h1 := hn (by decide)
      have h2 := hs (by decide)
      subst h1 h2
      rw [show wrd ⟨2, 0, ⟨#[]⟩⟩ = ⟨#[42]⟩ from rfl, rdV, if_pos rfl]
  obtain ⟨r1, r2⟩ := rd_some key
  rw [r1, r2, if_pos h]
  exact ⟨h, rfl⟩
/-! ### which comes first -/
theorem u8_lt {a b : UInt8} : a < b ↔ a.toNat < b.toNat := UInt8.lt_iff_toNat_lt
theorem cb_neg : ∀ l r : List UInt8, Lib.compareBytes r l = -Lib.compareBytes l r
  | [], [] => rfl
  | [], _ :: _ => rfl
  | _ :: _, [] => rfl
  | a :: xs, b :: ys => by
    simp only [Lib.compareBytes]
    by_cases h1 : a < b
    · have h2 : ¬ b < a := by rw [u8_lt] at *; omega
      rw [if_neg h2, if_pos h1, if_pos h1]; rfl
    · by_cases h2 : b < a
      · rw [if_pos h2, if_neg h1, if_pos h2]
      · rw [if_neg h2, if_neg h1, if_neg h1, if_neg h2]; exact cb_neg xs ys
theorem cb_zero : ∀ l r : List UInt8, Lib.compareBytes l r = 0 ↔ l = r
  | [], [] => by simp [Lib.compareBytes]
  | [], _ :: _ => by simp [Lib.compareBytes]
  | _ :: _, [] => by simp [Lib.compareBytes]
  | a :: xs, b :: ys => by
    simp only [Lib.compareBytes]
    by_cases h1 : a < b
    · rw [if_pos h1]
      refine ⟨fun h => absurd h (by decide), fun h => ?_⟩
      injection h with h _
      rw [u8_lt, h] at h1; omega
    · by_cases h2 : b < a
      · rw [if_neg h1, if_pos h2]
        refine ⟨fun h => absurd h (by decide), fun h => ?_⟩
        injection h with h _
        rw [u8_lt, h] at h2; omega
      · have e : a = b := by
          refine UInt8.toNat_inj.1 ?_
          rw [u8_lt] at h1 h2; omega
        rw [if_neg h1, if_neg h2, cb_zero xs ys, e]
        simp
theorem cb_rng : ∀ l r : List UInt8, Lib.compareBytes l r = -1 ∨ Lib.compareBytes l r = 0 ∨ Lib.compareBytes l r = 1
  | [], [] => .inr (.inl rfl)
  | [], _ :: _ => .inl rfl
  | _ :: _, [] => .inr (.inr rfl)
  | a :: xs, b :: ys => by
    simp only [Lib.compareBytes]
    split
    · exact .inl rfl
    · split
      · exact .inr (.inr rfl)
      · exact cb_rng xs ys
theorem cb_trans : ∀ l r t : List UInt8, Lib.compareBytes l r ≤ 0 → Lib.compareBytes r t ≤ 0 → Lib.compareBytes l t ≤ 0
  | [], r, [], _, _ => by decide
  | [], r, _ :: _, _, _ => by simp [Lib.compareBytes]
  | _ :: _, [], t, h, _ => by simp [Lib.compareBytes] at h
  | _ :: _, _ :: _, [], _, h => by simp [Lib.compareBytes] at h
  | a :: xs, b :: ys, c :: zs, h1, h2 => by
    simp only [Lib.compareBytes] at *
    by_cases x1 : a < b
    · by_cases y1 : b < c
      · rw [if_pos (by rw [u8_lt] at *; omega)]; decide
      · rw [if_neg y1] at h2
        by_cases y2 : c < b
        · rw [if_pos y2] at h2; exact absurd h2 (by decide)
        · rw [if_pos (by rw [u8_lt] at *; omega)]; decide
    · rw [if_neg x1] at h1
      by_cases x2 : b < a
      · rw [if_pos x2] at h1; exact absurd h1 (by decide)
      · rw [if_neg x2] at h1
        by_cases y1 : b < c
        · rw [if_pos (by rw [u8_lt] at *; omega)]; decide
        · rw [if_neg y1] at h2
          by_cases y2 : c < b
          · rw [if_pos y2] at h2; exact absurd h2 (by decide)
          · rw [if_neg y2] at h2
            rw [if_neg (by rw [u8_lt] at *; omega), if_neg (by rw [u8_lt] at *; omega)]
            exact cb_trans xs ys zs h1 h2
theorem ci_neg (x y : Int) : cmpI y x = -cmpI x y := by unfold cmpI; split <;> split <;> omega
theorem ci_zero (x y : Int) : cmpI x y = 0 ↔ x = y := by unfold cmpI; split <;> (try split) <;> omega
theorem ci_rng (x y : Int) : cmpI x y = -1 ∨ cmpI x y = 0 ∨ cmpI x y = 1 := by unfold cmpI; split <;> (try split) <;> omega
theorem ordI_neg (a b : Va) : ordI b a = -ordI a b := by
  unfold ordI or3
  rw [ci_neg a.k b.k, ci_neg a.n b.n, cb_neg a.s.data.toList b.s.data.toList]
  by_cases h1 : cmpI a.k b.k = 0
  · by_cases h2 : cmpI a.n b.n = 0
    · simp [h1, h2]
    · simp [h1, h2]
  · simp [h1]
theorem ordI_zero (a b : Va) : ordI a b = 0 ↔ a = b := by
  unfold ordI or3
  by_cases h1 : cmpI a.k b.k = 0
  · by_cases h2 : cmpI a.n b.n = 0
    · rw [if_neg (by simp [h1]), if_neg (by simp [h2]), cb_zero]
      rw [ci_zero] at h1 h2
      obtain ⟨k, n, s⟩ := a
      obtain ⟨k', n', s'⟩ := b
      simp only at h1 h2 ⊢
      subst h1 h2
      simp only [Va.mk.injEq, true_and]
      exact ⟨bytes_eq, fun e => by rw [e]⟩
    · rw [if_neg (by simp [h1]), if_pos h2]
      refine ⟨fun h => absurd h h2, fun h => ?_⟩
      rw [h] at h2; exact absurd ((ci_zero _ _).2 rfl) h2
  · rw [if_pos h1]
    refine ⟨fun h => absurd h h1, fun h => ?_⟩
    rw [h] at h1; exact absurd ((ci_zero _ _).2 rfl) h1
theorem ordI_rng (a b : Va) : ordI a b = -1 ∨ ordI a b = 0 ∨ ordI a b = 1 := by
  unfold ordI or3
  split
  · exact ci_rng _ _
  · split
    · exact ci_rng _ _
    · exact cb_rng _ _
theorem ordI_trans (a b c : Va) (h1 : ordI a b ≤ 0) (h2 : ordI b c ≤ 0) : ordI a c ≤ 0 := by
  have hle : ∀ x y : Int, cmpI x y ≤ 0 ↔ x ≤ y := fun x y => by unfold cmpI; split <;> (try split) <;> omega
  unfold ordI or3 at *
  by_cases x1 : cmpI a.k b.k = 0
  · rw [if_neg (by simp [x1])] at h1
    rw [ci_zero] at x1
    rw [x1]
    by_cases y1 : cmpI b.k c.k = 0
    · rw [if_neg (by simp [y1])] at h2 ⊢
      by_cases x2 : cmpI a.n b.n = 0
      · rw [if_neg (by simp [x2])] at h1
        rw [ci_zero] at x2
        rw [x2]
        by_cases y2 : cmpI b.n c.n = 0
        · rw [if_neg (by simp [y2])] at h2 ⊢
          exact cb_trans _ _ _ h1 h2
        · rw [if_pos y2] at h2 ⊢
          exact h2
      · rw [if_pos x2] at h1
        by_cases y2 : cmpI b.n c.n = 0
        · rw [ci_zero] at y2
          rw [← y2, if_pos x2]; exact h1
        · rw [if_pos y2] at h2
          rw [hle] at h1 h2
          have : cmpI a.n c.n ≠ 0 := by
            rw [Ne, ci_zero] at *; omega
          rw [if_pos this, hle]; omega
    · rw [if_pos y1] at h2 ⊢
      exact h2
  · rw [if_pos x1] at h1
    by_cases y1 : cmpI b.k c.k = 0
    · rw [ci_zero] at y1
      rw [← y1, if_pos x1]; exact h1
    · rw [if_pos y1] at h2
      rw [hle] at h1 h2
      have : cmpI a.k c.k ≠ 0 := by
        rw [Ne, ci_zero] at *; omega
      rw [if_pos this, hle]; omega
theorem twoE_zero {a b : Va} : twoE a b = 0 ↔ vaE a = 0 ∧ vaE b = 0 := by
  constructor
  · intro h
    exact ⟨lsE_zero (n := 2) h (i := 0) (by decide), lsE_zero (n := 2) h (i := 1) (by decide)⟩
  · rintro ⟨h1, h2⟩
    exact lsE_of (n := 2) fun i hi => by
      match i, hi with
      | 0, _ => exact h1
      | 1, _ => exact h2
theorem twoE_of (a b : Va) : twoE a b = if vaE a ≠ 0 then vaE a else vaE b := by
  by_cases h : vaE a = 0
  · rw [if_neg (by simp [h])]
    by_cases h2 : vaE b = 0
    · rw [h2]; exact twoE_zero.2 ⟨h, h2⟩
    · exact lsE_at (l := [a, b]) (k := 1) (n := 2) (lsE_of (n := 1) fun i hi => by
        obtain rfl : i = 0 := by omega
        exact h) h2 (by decide)
  · rw [if_pos h]
    exact lsE_at (l := [a, b]) (k := 0) (n := 2) rfl h (by decide)
end Go.Proofs.YtpgemofkolmabaaGreatDoor
namespace Go.Proofs.YtpgemofkolmabaaGreatDoor
set_option linter.unusedVariables false

theorem pcs_app (c : UInt8) : ∀ (p r : List UInt8), (∀ b ∈ p, b ≠ c) → pcs c (p ++ c :: r) = p :: pcs c r
  | [], r, _ => by
    rw [List.nil_append, show pcs c (c :: r) = (if c = c then [] :: pcs c r else match pcs c r with
    | p :: q => (c :: p) :: q
    | [] => [[c]]) from rfl, if_pos rfl]
  | x :: p, r, h => by
    have h1 : x ≠ c := h x (by simp)
    have h2 := pcs_app c p r fun b hb => h b (List.mem_cons_of_mem _ hb)
    rw [List.cons_append, pcs, if_neg h1, h2]
theorem pcs_own (c : UInt8) (p : List UInt8) (h : ∀ b ∈ p, b ≠ c) : pcs c p = [p] := pcs_none c p fun k e => h c (List.mem_of_getElem? e) rfl
theorem join_two (x y : List UInt8) (r : List (List UInt8)) (sep : List UInt8) : Lib.join (x :: y :: r) sep = x ++ (sep ++ Lib.join (y :: r) sep) := by
  rw [Lib.join_cons, Lib.join_cons]
  simp [Lib.joinTail]
theorem pcs_join (c : UInt8) : ∀ (l : List (List UInt8)), l ≠ [] → (∀ p ∈ l, ∀ b ∈ p, b ≠ c) → pcs c (Lib.join l [c]) = l
  | [], h, _ => absurd rfl h
  | [x], _, h => by rw [Lib.join_one]; exact pcs_own c x (h x (by simp))
  | x :: y :: r, _, h => by
    rw [join_two]
    show pcs c (x ++ (c :: Lib.join (y :: r) [c])) = _
    rw [pcs_app c x _ (h x (by simp)), pcs_join c (y :: r) (by simp) fun p hp => h p (List.mem_cons_of_mem _ hp)]
theorem pcsB_jn {l : List ByteArray} (h : l ≠ []) (hn : ∀ x ∈ l, ∀ b ∈ x.data.toList, b ≠ 44) : pcsB 44 (jn l ⟨#[44]⟩) = l := by
  have h1 : (jn l ⟨#[44]⟩).data.toList = Lib.join (l.map (·.data.toList)) [44] := rfl
  rw [pcsB, h1, pcs_join 44 _ (by simpa using h) fun p hp => by
    obtain ⟨x, hx, rfl⟩ := List.mem_map.1 hp
    exact hn x hx]
  rw [List.map_map]
  conv => rhs; rw [← List.map_id l]
  rfl
theorem dd_mem (u : Nat) : ∀ b ∈ Lib.decDigits u, 48 ≤ b.toNat ∧ b.toNat ≤ 57 := by
  induction u using Nat.strongRecOn with
  | ind u ih =>
    intro b hb
    by_cases h : u < 10
    · rw [Lib.decDigits_one h] at hb
      simp only [List.mem_singleton] at hb
      rw [hb, UInt8.toNat_ofNat']; omega
    · rw [Lib.decDigits, dif_neg h] at hb
      rcases List.mem_append.1 hb with h1 | h1
      · exact ih (u / 10) (by omega) b h1
      · simp only [List.mem_singleton] at h1
        rw [h1, UInt8.toNat_ofNat']; omega
theorem wrd_no44 {v : Va} (h : vaE v = 0) : ∀ b ∈ (wrd v).data.toList, b ≠ 44 := by
  obtain ⟨hk, hn, hs, _, _⟩ := vaE_parts h
  intro b hb
  obtain ⟨k, n, s⟩ := v
  simp only at hk hn hs
  rcases hk with rfl | rfl | rfl
  · rw [show (wrd ⟨0, n, s⟩).data.toList = Lib.itoa n from rfl] at hb
    unfold Lib.itoa at hb
    split at hb
    · rcases List.mem_cons.1 hb with e | e
      · rw [e]; decide
      · have := dd_mem _ b e
        rintro rfl
        exact absurd this.1 (by decide)
    · have := dd_mem _ b hb
      rintro rfl
      exact absurd this.1 (by decide)
  · have h2 : okS s = true := by
      unfold vaE at h
      simp only at h
      split at h
      · cases h
      · split at h
        · cases h
        · split at h
          · cases h
          · rename_i h3
            cases ho : okS s with
            | true => rfl
            | false => exact absurd (.inr (.inr ho)) h3
    rw [show (wrd ⟨1, n, s⟩).data.toList = 58 :: s.data.toList by
      rw [show wrd ⟨1, n, s⟩ = ⟨#[58]⟩ ++ s from rfl, ByteArray.data_append, Array.toList_append]; rfl] at hb
    rcases List.mem_cons.1 hb with e | e
    · rw [e]; decide
    · obtain ⟨i, hi, rfl⟩ := List.mem_iff_getElem.1 e
      have hi2 : i < s.size := by rw [Array.length_toList] at hi; exact hi
      have h3 := okS_true.1 h2 i hi2
      rw [gB_lt hi2] at h3
      intro e4
      have e5 : s[i] = 44 := e4
      rw [e5] at h3
      exact absurd h3 (by decide)
  · rw [show (wrd ⟨2, n, s⟩).data.toList = [42] from rfl] at hb
    simp only [List.mem_singleton] at hb
    rw [hb]; decide
theorem tpF_zero {l : List ByteArray} (h : ∀ x ∈ l, rdE x = 0) : tpF l = 0 := by
  induction l with
  | nil => rfl
  | cons x r ih =>
    show (if rdE x ≠ 0 then rdE x else tpF r) = 0
    rw [if_neg (by rw [h x (by simp)]; simp)]
    exact ih fun y hy => h y (List.mem_cons_of_mem _ hy)
theorem va_mem {t : List Va} {v : Va} (h : v ∈ t) : ∃ i, i < t.length ∧ va t i = v := by
  obtain ⟨i, hi, e⟩ := List.mem_iff_getElem.1 h
  exact ⟨i, hi, by simp [va, List.getD_eq_getElem?_getD, List.getElem?_eq_getElem hi, e]⟩
/-- A TUPLE IS READ AS IT WAS -/
theorem lin_back {t : List Va} (h : liE t = 0) : tpE (lin t) = 0 ∧ tpR (lin t) = t ∧ (lin t).size ≤ 110 ∧ (pcsB 44 (lin t)).length ≤ 5 := by
  obtain ⟨h0, h5, hr⟩ := rgt_of h
  have hv : ∀ v ∈ t, vaE v = 0 := fun v hv => by
    obtain ⟨i, hi, e⟩ := va_mem hv
    rw [← e]; exact hr i hi
  have hne : t.map wrd ≠ [] := by
    intro e
    have := congrArg List.length e
    simp at this
    rw [this] at h0
    exact absurd h0 (by simp)
  have hp : pcsB 44 (lin t) = t.map wrd := pcsB_jn hne fun x hx b hb => by
    obtain ⟨v, hm, rfl⟩ := List.mem_map.1 hx
    exact wrd_no44 (hv v hm) b hb
  have hz : ∀ x ∈ t.map wrd, rdE x = 0 := fun x hx => by
    obtain ⟨v, hm, rfl⟩ := List.mem_map.1 hx
    exact (rd_wrd (hv v hm)).1
  have hs : (lin t).size ≠ 0 := by
    intro e
    have h1 : lin t = ⟨#[]⟩ := emp_of e
    rw [h1] at hp
    have h2 := hz ⟨#[]⟩ (by rw [← hp]; simp [pcsB, pcs])
    exact absurd h2 (by decide)
  have hE : tpE (lin t) = 0 := by
    rw [tpE, if_neg hs, hp, tpF_zero hz, if_neg (by simp), if_neg (by rw [List.length_map]; omega)]
  have hsz := lin_size hr t.length
  rw [List.take_length] at hsz
  refine ⟨hE, ?_, by omega, by rw [hp, List.length_map]; exact h5⟩
  rw [tpR, if_pos hE, hp, List.map_map]
  conv => rhs; rw [← List.map_id t]
  exact List.map_congr_left fun v hm => (rd_wrd (hv v hm)).2
/-! ### what asks for less -/
theorem liE_iff {l : List Va} : liE l = 0 ↔ 0 < l.length ∧ l.length ≤ 5 ∧ ∀ i, i < l.length → vaE (va l i) = 0 := by
  constructor
  · intro h
    obtain ⟨h1, h2, h3⟩ := liE_zero h
    exact ⟨h1, h2, fun i hi => lsE_zero h3 hi⟩
  · rintro ⟨h1, h2, h3⟩
    rw [liE, if_neg (by omega), if_neg (by omega)]
    exact lsE_of h3
theorem va_set {l : List Va} {i j : Nat} {x : Va} (hj : j < l.length) : va (l.set i x) j = if j = i then x else va l j := by
  simp only [va, List.getD_eq_getElem?_getD, List.getElem?_set]
  by_cases e : i = j
  · subst e; rw [if_pos rfl, if_pos hj, if_pos rfl]; rfl
  · rw [if_neg e, if_neg (fun h => e h.symm)]
def anyV : Va := ⟨2, 0, ⟨#[]⟩⟩
theorem wide_like {l : List Va} {i : Nat} (h : liE l = 0) : liE (l.set i anyV) = 0 := by
  rw [liE_iff] at h ⊢
  rw [List.length_set]
  refine ⟨h.1, h.2.1, fun j hj => ?_⟩
  rw [va_set hj]
  split
  · decide
  · exact h.2.2 j hj
theorem wide_fits {l t : List Va} {i : Nat} (h : fitB l t = true) : fitB (l.set i anyV) t = true := by
  rw [fitB_true] at h ⊢
  rw [List.length_set]
  refine ⟨h.1, fun j hj => ?_⟩
  rw [va_set (by omega)]
  split
  · exact likB_2 rfl
  · exact h.2 j hj
theorem self_fits (t : List Va) : fitB t t = true := fitB_true.2 ⟨rfl, fun i hi => decide_eq_true (.inr rfl)⟩
end Go.Proofs.YtpgemofkolmabaaGreatDoor
namespace Go.Proofs.YtpgemofkolmabaaGreatDoor
set_option linter.unusedVariables false

/-- the lines of a text, each with its end -/
def lns : List UInt8 → List (List UInt8)
  | [] => []
  | x :: r => if x = 10 then [10] :: lns r else match lns r with
    | p :: q => (x :: p) :: q
    | [] => [[x]]
theorem lns_none : ∀ l : List UInt8, l ≠ [] → (∀ k : Nat, l[k]? ≠ some 10) → lns l = [l]
  | [], h, _ => absurd rfl h
  | [x], _, h => by
    have h1 : x ≠ 10 := fun e => h 0 (by simp [e])
    rw [lns, if_neg h1]; rfl
  | x :: y :: r, _, h => by
    have h1 : x ≠ 10 := fun e => h 0 (by simp [e])
    have h2 := lns_none (y :: r) (by simp) fun k => by have := h (k + 1); simpa using this
    rw [lns, if_neg h1, h2]
theorem lns_some : ∀ (l : List UInt8) (i : Nat), l[i]? = some 10 → (∀ k : Nat, k < i → l[k]? ≠ some 10) → lns l = l.take (i + 1) :: lns (l.drop (i + 1))
  | [], i, h, _ => by simp at h
  | x :: r, 0, h, _ => by
    simp only [List.getElem?_cons_zero, Option.some.injEq] at h
    rw [lns, if_pos h, h]; rfl
  | x :: r, i + 1, h, hk => by
    have h1 : x ≠ 10 := fun e => hk 0 (by omega) (by simp [e])
    have h2 := lns_some r i (by simpa using h) fun k hl => by have := hk (k + 1) (by omega); simpa using this
    rw [lns, if_neg h1, h2]; rfl
def lnB (s : ByteArray) : List ByteArray := (lns s.data.toList).map fun l => ⟨l.toArray⟩
theorem lnB_nil {s : ByteArray} (h : s.size = 0) : lnB s = [] := by
  obtain rfl := emp_of h
  rfl
theorem lnB_none {s : ByteArray} (h0 : 0 < s.size) (h : Lib.indexByte s.data.toList 10 = -1) : lnB s = [s] := by
  rw [lnB, lns_none _ (fun e => by
    have := congrArg List.length e
    rw [Array.length_toList] at this
    have h1 : s.data.size = 0 := this
    have h2 : s.data.size = s.size := rfl
    omega) (Lib.indexByte_none h)]
  rfl
theorem lnB_some {s : ByteArray} {i : Nat} (h : Lib.indexByte s.data.toList 10 = (i : Int)) : i < s.size ∧ lnB s = s.extract 0 (i + 1) :: lnB (s.extract (i + 1) s.size) := by
  obtain ⟨h1, h2⟩ := Lib.indexByte_some h
  refine ⟨?_, ?_⟩
  · have := (List.getElem?_eq_some_iff.1 h1).1
    rw [Array.length_toList] at this
    exact this
  · rw [lnB, lns_some _ i h1 h2, List.map_cons, ext_take, lnB, ext_drop]
/-- a whole line ahead of others -/
theorem lns_app : ∀ (p r : List UInt8), (∀ b ∈ p, b ≠ 10) → lns (p ++ 10 :: r) = (p ++ [10]) :: lns r := fun p r h => by
  rw [lns_some (p ++ 10 :: r) p.length (by simp) fun k hk e => by
    rw [List.getElem?_append_left hk] at e
    exact h 10 (List.mem_of_getElem? e) rfl]
  congr 1
  · rw [List.take_append, List.take_of_length_le (by omega)]; simp
  · rw [List.drop_append, List.drop_of_length_le (by omega)]; simp
end Go.Proofs.YtpgemofkolmabaaGreatDoor
namespace Go.Proofs.YtpgemofkolmabaaGreatDoor
set_option linter.unusedVariables false

/-- no space, and ASCII -/
def plnB (b : UInt8) : Prop := 33 ≤ b.toNat ∧ b.toNat < 128
theorem pln_sp {b : UInt8} (h : plnB b) : Lib.isSp b = false := by
  have e : ∀ k : UInt8, k.toNat < 33 → (b == k) = false := fun k hk => beq_eq_false_iff_ne.2 fun e => by have := h.1; rw [e] at this; omega
  unfold Lib.isSp
  rw [e 9 (by decide), e 10 (by decide), e 11 (by decide), e 12 (by decide), e 13 (by decide), e 32 (by decide)]
  rfl
theorem pln_ne {b k : UInt8} (h : plnB b) (hk : k.toNat < 33) : b ≠ k := fun e => by have := h.1; rw [e] at this; omega
theorem itoa_pln (n : Int) : ∀ b ∈ Lib.itoa n, plnB b := fun b hb => by
  have hd : ∀ u, b ∈ Lib.decDigits u → plnB b := fun u h => by have := dd_mem u b h; exact ⟨by omega, by omega⟩
  unfold Lib.itoa at hb
  split at hb
  · rcases List.mem_cons.1 hb with e | e
    · rw [e]; exact ⟨by decide, by decide⟩
    · exact hd _ e
  · exact hd _ hb
theorem itoa_ne (n : Int) : Lib.itoa n ≠ [] := by
  unfold Lib.itoa
  split
  · simp
  · exact dd_ne _
theorem wrd_pln {v : Va} (h : vaE v = 0) : ∀ b ∈ (wrd v).data.toList, plnB b := by
  obtain ⟨hk, hn, hs, _, _⟩ := vaE_parts h
  intro b hb
  obtain ⟨k, n, s⟩ := v
  simp only at hk hn hs
  rcases hk with rfl | rfl | rfl
  · rw [show (wrd ⟨0, n, s⟩).data.toList = Lib.itoa n from rfl] at hb
    exact itoa_pln n b hb
  · have h2 : okS s = true := by
      unfold vaE at h
      simp only at h
      split at h
      · cases h
      · split at h
        · cases h
        · split at h
          · cases h
          · rename_i h3
            cases ho : okS s with
            | true => rfl
            | false => exact absurd (.inr (.inr ho)) h3
    rw [show (wrd ⟨1, n, s⟩).data.toList = 58 :: s.data.toList by
      rw [show wrd ⟨1, n, s⟩ = ⟨#[58]⟩ ++ s from rfl, ByteArray.data_append, Array.toList_append]; rfl] at hb
    rcases List.mem_cons.1 hb with e | e
    · rw [e]; exact ⟨by decide, by decide⟩
    · obtain ⟨i, hi, rfl⟩ := List.mem_iff_getElem.1 e
      have hi2 : i < s.size := by rw [Array.length_toList] at hi; exact hi
      have h3 := okS_true.1 h2 i hi2
      rw [gB_lt hi2] at h3
      have h4 : 33 ≤ (s[i]).toNat ∧ (s[i]).toNat < 128 := by
        simp only [letB, Bool.and_eq_true, decide_eq_true_eq] at h3
        omega
      exact h4
  · rw [show (wrd ⟨2, n, s⟩).data.toList = [42] from rfl] at hb
    simp only [List.mem_singleton] at hb
    rw [hb]; exact ⟨by decide, by decide⟩
theorem join_mem {b : UInt8} {sep : List UInt8} : ∀ l : List (List UInt8), b ∈ Lib.join l sep → (∃ p ∈ l, b ∈ p) ∨ b ∈ sep
  | [], h => by simp [Lib.join] at h
  | [x], h => by rw [Lib.join_one] at h; exact .inl ⟨x, by simp, h⟩
  | x :: y :: r, h => by
    rw [join_two] at h
    rcases List.mem_append.1 h with h1 | h1
    · exact .inl ⟨x, by simp, h1⟩
    · rcases List.mem_append.1 h1 with h2 | h2
      · exact .inr h2
      · rcases join_mem (y :: r) h2 with ⟨p, hp, hb⟩ | h3
        · exact .inl ⟨p, List.mem_cons_of_mem _ hp, hb⟩
        · exact .inr h3
theorem lin_pln {t : List Va} (h : liE t = 0) : ∀ b ∈ (lin t).data.toList, plnB b := fun b hb => by
  obtain ⟨_, _, hr⟩ := rgt_of h
  rcases join_mem _ (show b ∈ Lib.join ((t.map wrd).map (·.data.toList)) [44] from hb) with ⟨p, hp, hb2⟩ | h2
  · obtain ⟨x, hx, rfl⟩ := List.mem_map.1 hp
    obtain ⟨v, hv, rfl⟩ := List.mem_map.1 hx
    obtain ⟨i, hi, e⟩ := va_mem hv
    exact wrd_pln (by rw [← e]; exact hr i hi) b hb2
  · simp only [List.mem_singleton] at h2
    rw [h2]; exact ⟨by decide, by decide⟩
theorem lin_ne {t : List Va} (h : liE t = 0) : (lin t).data.toList ≠ [] := fun e => by
  have h1 : (lin t).size = 0 := by
    have := congrArg List.length e
    rw [Array.length_toList] at this
    exact this
  have h2 := (lin_back h).1
  rw [tpE, if_pos h1] at h2
  exact absurd h2 (by decide)
/-! ### fields -/
theorem fg_word : ∀ (q cur l : List UInt8), (∀ b ∈ q, plnB b) → Lib.fieldsGo cur (q ++ l) = Lib.fieldsGo (cur ++ q) l
  | [], cur, l, _ => by simp
  | x :: q, cur, l, h => by
    rw [List.cons_append, Lib.fieldsGo_more _ _ _ (pln_sp (h x (by simp))), fg_word q (cur ++ [x]) l fun b hb => h b (List.mem_cons_of_mem _ hb)]
    simp
theorem fg_one (q : List UInt8) (b : UInt8) (l : List UInt8) (hq : q ≠ []) (h : ∀ b ∈ q, plnB b) (hb : Lib.isSp b = true) : Lib.fieldsGo [] (q ++ b :: l) = q :: Lib.fieldsGo [] l := by
  rw [fg_word q [] _ h, List.nil_append, Lib.fieldsGo_end q b l hb hq]
theorem fields_four {x y z t : List UInt8} (hx : x ≠ []) (hy : y ≠ []) (hz : z ≠ []) (ht : t ≠ []) (px : ∀ b ∈ x, plnB b) (py : ∀ b ∈ y, plnB b) (pz : ∀ b ∈ z, plnB b) (pt : ∀ b ∈ t, plnB b) :
    Lib.fields (Lib.join [x, y, z, t] [32] ++ [10]) = [x, y, z, t] := by
  have e : Lib.join [x, y, z, t] [32] ++ [10] = x ++ 32 :: (y ++ 32 :: (z ++ 32 :: (t ++ 10 :: []))) := by
    rw [join_two, join_two, join_two, Lib.join_one]
    simp
  rw [e, Lib.fields, fg_one x 32 _ hx px rfl, fg_one y 32 _ hy py rfl, fg_one z 32 _ hz pz rfl, fg_one t 10 [] ht pt rfl]
  rfl
end Go.Proofs.YtpgemofkolmabaaGreatDoor
