/- Errors by their numbers; small laws for a walk's end. -/
import Derived.Test.YtfelefkmbbfdjaaGreatDoorChecked
import Derived.WalkKit
import Derived.Lib.Hide
import Derived.WalkLawsBesides
import Derived.WalkSpells
import Derived.Below
namespace Go.Proofs.YtfelefkmbbfdjaaGreatDoor
open Go.RowKit
set_option linter.unusedVariables false

theorem ret_int {k : IntKind} {a b : Int} (h : a = b) : Ending.returned (.int k a) = .returned (.int k b) := by rw [h]
theorem ret_true {b : Bool} (h : b = true) : Ending.returned (.bool b) = .returned (.bool true) := by rw [h]
/-- an error by its number -/
abbrev errV (n : Int) : Value := .iface 63 (.int .i64 n)
/-- an error by its number, or nil -/
def eV (n : Int) : Value := if n = 0 then .nilIface else errV n
theorem eV_zero : eV 0 = .nilIface := rfl
theorem eV_of {n : Int} (h : n ≠ 0) : eV n = errV n := if_neg h
theorem str_same (s : ByteArray) : (s.toList == s.toList) = true := beq_self_eq_true _
theorem bytes_eq {s t : ByteArray} (h : s.data.toList = t.data.toList) : s = t := by
  cases s; cases t; simp only at h; congr; exact Array.toList_inj.1 h
theorem str_other {s t : ByteArray} (h : s ≠ t) : (s.toList == t.toList) = false := by
  rw [beq_eq_false_iff_ne]
  exact fun e => h (bytes_eq (by rw [ByteArray.toList_eq, ByteArray.toList_eq] at e; exact e))
theorem eq_below {w w' : World} (h : w = w') : Below w.heap.size w w' := h ▸ Below.refl _ _
/-- behind a call that only makes memory each old cell reads as it did -/
theorem bcell {W w1 : World} (hb : Below W.heap.size W w1) : ∀ b o, b < W.heap.size → w1.cell? ⟨b, o, none⟩ = W.cell? ⟨b, o, none⟩ := fun b o h => hb.cell (p := ⟨b, o, none⟩) h
end Go.Proofs.YtfelefkmbbfdjaaGreatDoor
