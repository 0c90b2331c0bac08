/- Copies: what one does with what it is asked, in plain Lean. -/
import Derived.Test.YthkaaheeblehhaaDoorLine
import Derived.Test.YthkaaheeblehhaaDoorQueue
import Derived.Test.YthkaaheeblehhaaDoorSpJoin
namespace Go.Proofs.YthkaaheeblehhaaDoor
open Go.RowKit
set_option linter.unusedVariables false

/-- a copy: its tuples, what it did last for each, how many deeds -/
structure Cs where
  L : List (List Va)
  F : Int → Int × ByteArray
  n : Nat
def Cs.zero : Cs := ⟨[], fun _ => (0, ⟨#[]⟩), 0⟩
def txOk : ByteArray := ⟨#[111, 107]⟩
def txFull : ByteArray := ⟨#[102, 117, 108, 108]⟩
def txNone : ByteArray := ⟨#[110, 111, 110, 101]⟩
/-- was it done last? -/
def agB (s : Cs) (a : Ak) : Bool := decide (a.q = (s.F a.w).1) && decide (0 < (s.F a.w).1)
/-- what is wrong with a new deed -/
def nwE (R : List Ru) (s : Cs) (a : Ak) : Int :=
  if a.d = 0 then (if letR R a.w a.d a.t = true then 0 else 8)
  else if finE a.t s.L ≠ 0 then 0
  else if letR R a.w a.d (rT a.t s.L) = true then 0 else 8
def nwS (s : Cs) (a : Ak) : ByteArray :=
  if a.d = 0 then (if s.L.length = 20 then txFull else txOk) else if finE a.t s.L ≠ 0 then txNone else lin (rT a.t s.L)
def nwL (s : Cs) (a : Ak) : List (List Va) :=
  if a.d = 0 then putL s.L a.t else if a.d = 2 then rL a.t s.L else s.L
def doE (R : List Ru) (s : Cs) (a : Ak) : Int :=
  if qcE a ≠ 0 then qcE a else if agB s a = true then 0 else if a.q ≠ (s.F a.w).1 + 1 then 6 else nwE R s a
def doS (R : List Ru) (s : Cs) (a : Ak) : ByteArray :=
  if doE R s a ≠ 0 then ⟨#[]⟩ else if agB s a = true then (s.F a.w).2 else nwS s a
def doC (R : List Ru) (s : Cs) (a : Ak) : Cs :=
  if doE R s a ≠ 0 ∨ agB s a = true then s else ⟨nwL s a, fun y => if y = a.w then (a.q, nwS s a) else s.F y, s.n + 1⟩
/-- what a copy is -/
structure Cok (s : Cs) : Prop where
  l20 : s.L.length ≤ 20
  ok : ∀ t ∈ s.L, okL t ∧ tuE t = 0
  f0 : ∀ y, 0 ≤ (s.F y).1 ∧ (s.F y).1 ≤ s.n
  fs : ∀ y, (s.F y).2.size ≤ 200
theorem Cok.zero : Cok Cs.zero := ⟨by simp [Cs.zero], fun t h => by simp [Cs.zero] at h, fun y => by simp [Cs.zero], fun y => by simp [Cs.zero, ByteArray.size]⟩
end Go.Proofs.YthkaaheeblehhaaDoor
