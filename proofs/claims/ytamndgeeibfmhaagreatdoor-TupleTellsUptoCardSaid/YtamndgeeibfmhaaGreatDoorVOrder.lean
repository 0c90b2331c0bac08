/- value.Order: what it returns. -/
import Derived.Test.YtamndgeeibfmhaaGreatDoorTuple
import Derived.Test.YtamndgeeibfmhaaGreatDoorShelf
import Derived.Deep.RegionHeld3
import Derived.Outline
namespace Go.Proofs.YtamndgeeibfmhaaGreatDoor
open Go.RowKit
set_option linter.unusedVariables false

def cmpI (x y : Int) : Int := if x < y then -1 else if y < x then 1 else 0
/-- the first of three that is not nought -/
def or3 (a b c : Int) : Int := if a ≠ 0 then a else if b ≠ 0 then b else c
/-- which of two comes first -/
def ordI (a b : Va) : Int := or3 (cmpI a.k b.k) (cmpI a.n b.n) (Lib.compareBytes a.s.data.toList b.s.data.toList)
end Go.Proofs.YtamndgeeibfmhaaGreatDoor
