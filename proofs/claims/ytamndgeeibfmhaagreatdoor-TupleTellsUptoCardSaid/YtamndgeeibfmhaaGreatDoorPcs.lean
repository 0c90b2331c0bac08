/- A text cut at each byte: plain laws. -/
import Derived.Test.YtamndgeeibfmhaaGreatDoorRRd
import Derived.Lib.IndexLaws
namespace Go.Proofs.YtamndgeeibfmhaaGreatDoor
set_option linter.unusedVariables false

/-- the pieces of a text between the bytes c -/
def pcs (c : UInt8) : List UInt8 → List (List UInt8)
  | [] => [[]]
  | x :: r => if x = c then [] :: pcs c r else match pcs c r with
    | p :: q => (x :: p) :: q
    | [] => [[x]]
theorem pcs_ne (c : UInt8) : ∀ l : List UInt8, pcs c l ≠ []
  | [] => by simp [pcs]
  | x :: r => by
    unfold pcs
    split
    · simp
    · split <;> simp
theorem pcs_none (c : UInt8) : ∀ l : List UInt8, (∀ k : Nat, l[k]? ≠ some c) → pcs c l = [l]
  | [], _ => rfl
  | x :: r, h => by
    have h1 : x ≠ c := fun e => h 0 (by simp [e])
    have h2 := pcs_none c r fun k => by have := h (k + 1); simpa using this
    unfold pcs
    rw [if_neg h1, h2]
theorem pcs_some (c : UInt8) : ∀ (l : List UInt8) (i : Nat), l[i]? = some c → (∀ k : Nat, k < i → l[k]? ≠ some c) → pcs c l = l.take i :: pcs c (l.drop (i + 1))
  | [], i, h, _ => by simp at h
  | x :: r, 0, h, _ => by
    simp only [List.getElem?_cons_zero, Option.some.injEq] at h
    rw [show pcs c (x :: r) = (if x = c then [] :: pcs c r else match pcs c r with
    | p :: q => (x :: p) :: q
    | [] => [[x]]) from rfl, if_pos h]
    rfl
  | x :: r, i + 1, h, hk => by
    have h1 : x ≠ c := fun e => hk 0 (by omega) (by simp [e])
    have h2 := pcs_some c r i (by simpa using h) fun k hl => by have := hk (k + 1) (by omega); simpa using this
    rw [pcs, if_neg h1, h2]
    rfl
def pcsB (c : UInt8) (s : ByteArray) : List ByteArray := (pcs c s.data.toList).map fun l => ⟨l.toArray⟩
theorem pcsB_none {c : UInt8} {s : ByteArray} (h : Lib.indexByte s.data.toList c = -1) : pcsB c s = [s] := by
  rw [pcsB, pcs_none c _ (Lib.indexByte_none h)]
  rfl
theorem ext_take (s : ByteArray) (i : Nat) : s.extract 0 i = ⟨(s.data.toList.take i).toArray⟩ := bytes_eq (by
  rw [ByteArray.data_extract, Array.toList_extract]
  simp [List.extract])
theorem ext_drop (s : ByteArray) (i : Nat) : (s.extract i s.size).data.toList = s.data.toList.drop i := by
  rw [ByteArray.data_extract, Array.toList_extract]
  simp only [List.extract]
  refine List.take_of_length_le ?_
  rw [List.length_drop, Array.length_toList]
  exact Nat.le_refl _
theorem pcsB_some {c : UInt8} {s : ByteArray} {i : Nat} (h : Lib.indexByte s.data.toList c = (i : Int)) : i < s.size ∧ pcsB c s = s.extract 0 i :: pcsB c (s.extract (i + 1) s.size) := by
  obtain ⟨h1, h2⟩ := Lib.indexByte_some h
  refine ⟨?_, ?_⟩
  · have := (List.getElem?_eq_some_iff.1 h1).1
    rw [Array.length_toList] at this
    exact this
  · rw [pcsB, pcs_some c _ i h1 h2, List.map_cons, ext_take, pcsB, ext_drop]
theorem pcsB_ne (c : UInt8) (s : ByteArray) : pcsB c s ≠ [] := by
  unfold pcsB
  intro e
  exact pcs_ne c _ (List.map_eq_nil_iff.1 e)
theorem idx_cases (s : ByteArray) (c : UInt8) : Lib.indexByte s.data.toList c = -1 ∨ ∃ i : Nat, Lib.indexByte s.data.toList c = (i : Int) := by
  have := Lib.indexByte_ge s.data.toList c
  rcases Int.lt_or_le (Lib.indexByte s.data.toList c) 0 with h | h
  · exact .inl (by omega)
  · exact .inr ⟨(Lib.indexByte s.data.toList c).toNat, by omega⟩
end Go.Proofs.YtamndgeeibfmhaaGreatDoor
