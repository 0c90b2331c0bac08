/- Numbers made of bytes: digest.Of and the reference's Hash. -/
import Derived.Test.YtamndgeeibfmhaaGreatDoorBMem
import Derived.Test.YtamndgeeibfmhaaGreatDoorBase
import Derived.Test.YtamndgeeibfmhaaGreatDoorValue
import Derived.Lib.SlBytesConst
namespace Go.Proofs.YtamndgeeibfmhaaGreatDoor
open Go.RowKit
set_option linter.unusedVariables false

/-- the number made of the first k bytes -/
def hs (s : ByteArray) : Nat → Int
  | 0 => 7
  | k + 1 => (31 * hs s k + gB s k) % 10007
theorem hs_range (s : ByteArray) (k : Nat) : 0 ≤ hs s k ∧ hs s k ≤ 10006 := by
  cases k with
  | zero => exact ⟨by show (0 : Int) ≤ 7; decide, by show (7 : Int) ≤ 10006; decide⟩
  | succ k => unfold hs; omega
end Go.Proofs.YtamndgeeibfmhaaGreatDoor
