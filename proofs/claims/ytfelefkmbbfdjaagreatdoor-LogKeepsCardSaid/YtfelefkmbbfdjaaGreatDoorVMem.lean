/- Values (api.Value: kind, number, text) in memory, as lists. -/
import Derived.Test.YtfelefkmbbfdjaaGreatDoorMem
namespace Go.Proofs.YtfelefkmbbfdjaaGreatDoor
open Go.RowKit Go.ChangeShapes Go.WideShapes Go.Deep
set_option linter.unusedVariables false

structure Va where
  k : Int
  n : Int
  s : ByteArray
  deriving DecidableEq
def Va.zero : Va := ⟨0, 0, ⟨#[]⟩⟩
/-- as the machine holds it -/
def aV (v : Va) : Value := .agg #[.int .i64 v.k, .int .i64 v.n, .string v.s]
def va (l : List Va) (i : Nat) : Va := l.getD i Va.zero
def vac (l : List Va) (i j : Nat) : Value := if j = 0 then .int .i64 (va l i).k else if j = 1 then .int .i64 (va l i).n else .string (va l i).s
def Vals (w : World) (A : Option Addr) (l : List Va) : Prop := Sl w 3 A l.length (vac l)
section
variable {w w' : World} {A : Option Addr} {l : List Va}
theorem Vals.at_ (h : Vals w A l) {i : Nat} (hi : i < l.length) : ∃ b off, A = some ⟨b, off, none⟩ ∧ b < w.heap.size ∧ w.cell? ⟨b, off + i * 3, none⟩ = some (.int .i64 (va l i).k) ∧ w.cell? ⟨b, off + i * 3 + 1, none⟩ = some (.int .i64 (va l i).n) ∧ w.cell? ⟨b, off + i * 3 + 2, none⟩ = some (.string (va l i).s) := Sl.at3 h hi
theorem Vals.below {B : Nat} (h : Vals w A l) (hb : Below B w w') (hB : w.heap.size ≤ B) : Vals w' A l := Sl.below h hb hB
theorem Vals.nil : Vals w A [] := Sl.zero
theorem va_take (l : List Va) (n i : Nat) (h : i < n) : va (l.take n) i = va l i := by
  simp only [va, List.getD_eq_getElem?_getD, List.getElem?_take]; rw [if_pos h]
end
end Go.Proofs.YtfelefkmbbfdjaaGreatDoor
