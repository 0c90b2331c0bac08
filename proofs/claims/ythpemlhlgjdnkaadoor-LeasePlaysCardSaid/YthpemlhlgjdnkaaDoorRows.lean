/-
  NARROWER THAN 'FOR EVERY INPUT', by the rows' own cells (each row's printed sentence says how): QueueGap: laid · QueueOnce: laid · QueuePlays: laid · SpaceFull: laid · PrintOne: laid · RuleNone: laid · RuleTells: laid · RuleFirst: laid · LeaseEnds: laid · LeasePlays: laid · SpacePlays: laid · SpaceKeeps: laid · CoverClosed: laid · CoverFinds: laid · OncePlays: laid · PrintSame: laid · CoverTells: laid · PrintTells: laid.
  DERIVED. THE GIVEN ROWS OF THIS SEAT. 18 by the template 'for every input the law returns true; each argument reads behind the call as it read before'; 0 by the template 'total and deterministic' (their statements: YthpemlhlgjdnkaaDoorTotals.lean).
  GIVEN WITH THE SEED: the statements are not yours to turn. If you find one false, say at which input.
  Laid BY PROGRAM, IN A SANDBOX (cutbox-rows.mjs): the forced cells as the released guide's own fill.sh prints them over the translation cc77fa3c995da14d… (all of the seat's roots in one cut). By AI agents, Wed Nov 11 2026. No macro, syntax, notation, axiom, sorry.
-/
import Derived.Test.YthpemlhlgjdnkaaDoorChecked
import GoSem.Claim
import GoSem.ClaimJoined
import GoSem.ClaimMapViews
import Derived.JoinedTies
import Derived.KernelRfl
namespace Go.Proofs.YthpemlhlgjdnkaaDoor
/- THE CELL 'sum', in the pinned program and in every row, IS THE sha256 OF THE DUMP (.gsa) THAT YthpemlhlgjdnkaaDoorProg.lean LOADS. Nothing in Lean hashes anything: it is a label: what it is worth is what the hold of that sum in a sandbox is worth. -/
noncomputable def Tryd.pinned : Pinned := { name := "ythpemlhlgjdnkaadoor", sum := "cc77fa3c995da14d4e3410efdc4e40143d0c1eedde4ec8df97ddc0a47544b844", checked := Tryd.checked }
namespace Rows
def none {H : Type} : Left H := { results := [], args := [] }

/- WHAT THE LISTED PACKAGE-LEVEL VARIABLES READ AS WHEN THE CALL BEGINS. Each datum BY PROGRAM (the guide's laid-datum.mjs) off the statement by which the dump's own 'gosem.cut.vars' lays the variable. In a bare row this is a premise. The card (YthpemlhlgjdnkaaDoorCards.lean) ties it to the program's text. -/
def laid_errors_errorType {H : Type} : DataW H := .iface "internal/reflectlite.rtype" (.agg [.ptr (.lit (.string [101, 114, 114, 111, 114]))])
def laid_math_bits_deBruijn32tab {H : Type} : DataW H := .agg [.lit (.int .u8 0), .lit (.int .u8 1), .lit (.int .u8 28), .lit (.int .u8 2), .lit (.int .u8 29), .lit (.int .u8 14), .lit (.int .u8 24), .lit (.int .u8 3), .lit (.int .u8 30), .lit (.int .u8 22), .lit (.int .u8 20), .lit (.int .u8 15), .lit (.int .u8 25), .lit (.int .u8 17), .lit (.int .u8 4), .lit (.int .u8 8), .lit (.int .u8 31), .lit (.int .u8 27), .lit (.int .u8 13), .lit (.int .u8 23), .lit (.int .u8 21), .lit (.int .u8 19), .lit (.int .u8 16), .lit (.int .u8 7), .lit (.int .u8 26), .lit (.int .u8 12), .lit (.int .u8 18), .lit (.int .u8 6), .lit (.int .u8 11), .lit (.int .u8 5), .lit (.int .u8 10), .lit (.int .u8 9)]
def laid_math_bits_deBruijn64tab {H : Type} : DataW H := .agg [.lit (.int .u8 0), .lit (.int .u8 1), .lit (.int .u8 56), .lit (.int .u8 2), .lit (.int .u8 57), .lit (.int .u8 49), .lit (.int .u8 28), .lit (.int .u8 3), .lit (.int .u8 61), .lit (.int .u8 58), .lit (.int .u8 42), .lit (.int .u8 50), .lit (.int .u8 38), .lit (.int .u8 29), .lit (.int .u8 17), .lit (.int .u8 4), .lit (.int .u8 62), .lit (.int .u8 47), .lit (.int .u8 59), .lit (.int .u8 36), .lit (.int .u8 45), .lit (.int .u8 43), .lit (.int .u8 51), .lit (.int .u8 22), .lit (.int .u8 53), .lit (.int .u8 39), .lit (.int .u8 33), .lit (.int .u8 30), .lit (.int .u8 24), .lit (.int .u8 18), .lit (.int .u8 12), .lit (.int .u8 5), .lit (.int .u8 63), .lit (.int .u8 55), .lit (.int .u8 48), .lit (.int .u8 27), .lit (.int .u8 60), .lit (.int .u8 41), .lit (.int .u8 37), .lit (.int .u8 16), .lit (.int .u8 46), .lit (.int .u8 35), .lit (.int .u8 44), .lit (.int .u8 21), .lit (.int .u8 52), .lit (.int .u8 32), .lit (.int .u8 23), .lit (.int .u8 11), .lit (.int .u8 54), .lit (.int .u8 26), .lit (.int .u8 40), .lit (.int .u8 15), .lit (.int .u8 34), .lit (.int .u8 20), .lit (.int .u8 31), .lit (.int .u8 10), .lit (.int .u8 25), .lit (.int .u8 14), .lit (.int .u8 19), .lit (.int .u8 9), .lit (.int .u8 13), .lit (.int .u8 8), .lit (.int .u8 7), .lit (.int .u8 6)]
def laid_internal_strconv_uint64pow10 {H : Type} : DataW H := .agg [.lit (.int .u64 1), .lit (.int .u64 10), .lit (.int .u64 100), .lit (.int .u64 1000), .lit (.int .u64 10000), .lit (.int .u64 100000), .lit (.int .u64 1000000), .lit (.int .u64 10000000), .lit (.int .u64 100000000), .lit (.int .u64 1000000000), .lit (.int .u64 10000000000), .lit (.int .u64 100000000000), .lit (.int .u64 1000000000000), .lit (.int .u64 10000000000000), .lit (.int .u64 100000000000000), .lit (.int .u64 1000000000000000), .lit (.int .u64 10000000000000000), .lit (.int .u64 100000000000000000), .lit (.int .u64 1000000000000000000), .lit (.int .u64 10000000000000000000)]

/-- 'tuplelaw4.QueueGap': WHATEVER THE INPUT: true; the input reads as it did. -/
def queueGapSpec : ChangeSpec := { name := "queueGap", fn := fun _ => fun
  | [d1, d2] => { results := [.lit (.bool true)], args := [d1, d2] }
  | _ => none }
def queueGapRow : OpenClaim := { program := "ythpemlhlgjdnkaadoor", sum := "cc77fa3c995da14d4e3410efdc4e40143d0c1eedde4ec8df97ddc0a47544b844", func := "tuplestead/tuplelaw4.QueueGap", spec := "queueGap", inPlace := ["internal/reflectlite.ValueOf", "(internal/reflectlite.Value).Type", "(internal/reflectlite.Value).IsNil", "internal/reflectlite.TypeOf", "(internal/reflectlite.Value).Elem", "(internal/reflectlite.Value).Set"], unfollowed := true, recurses := true, named := ["errors.errorType"], apart := false, laid := [("errors.errorType", laid_errors_errorType)] }
def QueueGapSaid : Prop := queueGapRow.holds Tryd.pinned (OpenSpec.ofChange queueGapSpec)

/-- ITS FALSE NEIGHBOUR: 'it returns false'. Refute it at one input. -/
def queueGapWrong : ChangeSpec := { name := "queueGap", fn := fun _ => fun
  | [d1, d2] => { results := [.lit (.bool false)], args := [d1, d2] }
  | _ => none }
def QueueGapWrongFalsely : Prop := queueGapRow.holds Tryd.pinned (OpenSpec.ofChange queueGapWrong)

/-- 'tuplelaw2.QueueOnce': WHATEVER THE INPUT: true; the input reads as it did. -/
def queueOnceSpec : ChangeSpec := { name := "queueOnce", fn := fun _ => fun
  | [d] => { results := [.lit (.bool true)], args := [d] }
  | _ => none }
def queueOnceRow : OpenClaim := { program := "ythpemlhlgjdnkaadoor", sum := "cc77fa3c995da14d4e3410efdc4e40143d0c1eedde4ec8df97ddc0a47544b844", func := "tuplestead/tuplelaw2.QueueOnce", spec := "queueOnce", inPlace := ["internal/reflectlite.ValueOf", "(internal/reflectlite.Value).Type", "(internal/reflectlite.Value).IsNil", "internal/reflectlite.TypeOf", "(internal/reflectlite.Value).Elem", "(internal/reflectlite.Value).Set"], unfollowed := true, recurses := true, named := ["errors.errorType"], apart := false, laid := [("errors.errorType", laid_errors_errorType)] }
def QueueOnceSaid : Prop := queueOnceRow.holds Tryd.pinned (OpenSpec.ofChange queueOnceSpec)

/-- ITS FALSE NEIGHBOUR: 'it returns false'. Refute it at one input. -/
def queueOnceWrong : ChangeSpec := { name := "queueOnce", fn := fun _ => fun
  | [d] => { results := [.lit (.bool false)], args := [d] }
  | _ => none }
def QueueOnceWrongFalsely : Prop := queueOnceRow.holds Tryd.pinned (OpenSpec.ofChange queueOnceWrong)

/-- 'tuplelaw2.QueuePlays': WHATEVER THE INPUT: true; the input reads as it did. -/
def queuePlaysSpec : ChangeSpec := { name := "queuePlays", fn := fun _ => fun
  | [d1, d2] => { results := [.lit (.bool true)], args := [d1, d2] }
  | _ => none }
def queuePlaysRow : OpenClaim := { program := "ythpemlhlgjdnkaadoor", sum := "cc77fa3c995da14d4e3410efdc4e40143d0c1eedde4ec8df97ddc0a47544b844", func := "tuplestead/tuplelaw2.QueuePlays", spec := "queuePlays", inPlace := ["internal/reflectlite.ValueOf", "(internal/reflectlite.Value).Type", "(internal/reflectlite.Value).IsNil", "internal/reflectlite.TypeOf", "(internal/reflectlite.Value).Elem", "(internal/reflectlite.Value).Set"], unfollowed := true, recurses := true, named := ["errors.errorType"], apart := false, laid := [("errors.errorType", laid_errors_errorType)] }
def QueuePlaysSaid : Prop := queuePlaysRow.holds Tryd.pinned (OpenSpec.ofChange queuePlaysSpec)

/-- ITS FALSE NEIGHBOUR: 'it returns false'. Refute it at one input. -/
def queuePlaysWrong : ChangeSpec := { name := "queuePlays", fn := fun _ => fun
  | [d1, d2] => { results := [.lit (.bool false)], args := [d1, d2] }
  | _ => none }
def QueuePlaysWrongFalsely : Prop := queuePlaysRow.holds Tryd.pinned (OpenSpec.ofChange queuePlaysWrong)

/-- 'tuplelaw4.SpaceFull': WHATEVER THE INPUT: true; the input reads as it did. -/
def spaceFullSpec : ChangeSpec := { name := "spaceFull", fn := fun _ => fun
  | [d] => { results := [.lit (.bool true)], args := [d] }
  | _ => none }
def spaceFullRow : OpenClaim := { program := "ythpemlhlgjdnkaadoor", sum := "cc77fa3c995da14d4e3410efdc4e40143d0c1eedde4ec8df97ddc0a47544b844", func := "tuplestead/tuplelaw4.SpaceFull", spec := "spaceFull", inPlace := ["internal/reflectlite.ValueOf", "(internal/reflectlite.Value).Type", "(internal/reflectlite.Value).IsNil", "internal/reflectlite.TypeOf", "(internal/reflectlite.Value).Elem", "(internal/reflectlite.Value).Set"], unfollowed := true, recurses := true, named := ["errors.errorType"], apart := false, laid := [("errors.errorType", laid_errors_errorType)] }
def SpaceFullSaid : Prop := spaceFullRow.holds Tryd.pinned (OpenSpec.ofChange spaceFullSpec)

/-- ITS FALSE NEIGHBOUR: 'it returns false'. Refute it at one input. -/
def spaceFullWrong : ChangeSpec := { name := "spaceFull", fn := fun _ => fun
  | [d] => { results := [.lit (.bool false)], args := [d] }
  | _ => none }
def SpaceFullWrongFalsely : Prop := spaceFullRow.holds Tryd.pinned (OpenSpec.ofChange spaceFullWrong)

/-- 'tuplelaw4.PrintOne': WHATEVER THE INPUT: true; the input reads as it did. -/
def printOneSpec : ChangeSpec := { name := "printOne", fn := fun _ => fun
  | [d] => { results := [.lit (.bool true)], args := [d] }
  | _ => none }
def printOneRow : OpenClaim := { program := "ythpemlhlgjdnkaadoor", sum := "cc77fa3c995da14d4e3410efdc4e40143d0c1eedde4ec8df97ddc0a47544b844", func := "tuplestead/tuplelaw4.PrintOne", spec := "printOne", unfollowed := true, recurses := true, named := ["internal/strconv.uint64pow10", "math/bits.deBruijn32tab", "math/bits.deBruijn64tab"], apart := false, laid := [("math/bits.deBruijn32tab", laid_math_bits_deBruijn32tab), ("math/bits.deBruijn64tab", laid_math_bits_deBruijn64tab), ("internal/strconv.uint64pow10", laid_internal_strconv_uint64pow10)] }
def PrintOneSaid : Prop := printOneRow.holds Tryd.pinned (OpenSpec.ofChange printOneSpec)

/-- ITS FALSE NEIGHBOUR: 'it returns false'. Refute it at one input. -/
def printOneWrong : ChangeSpec := { name := "printOne", fn := fun _ => fun
  | [d] => { results := [.lit (.bool false)], args := [d] }
  | _ => none }
def PrintOneWrongFalsely : Prop := printOneRow.holds Tryd.pinned (OpenSpec.ofChange printOneWrong)

/-- 'tuplelaw4.RuleNone': WHATEVER THE INPUT: true; the input reads as it did. -/
def ruleNoneSpec : ChangeSpec := { name := "ruleNone", fn := fun _ => fun
  | [d1, d2, d3] => { results := [.lit (.bool true)], args := [d1, d2, d3] }
  | _ => none }
def ruleNoneRow : OpenClaim := { program := "ythpemlhlgjdnkaadoor", sum := "cc77fa3c995da14d4e3410efdc4e40143d0c1eedde4ec8df97ddc0a47544b844", func := "tuplestead/tuplelaw4.RuleNone", spec := "ruleNone", inPlace := ["internal/reflectlite.ValueOf", "(internal/reflectlite.Value).Type", "(internal/reflectlite.Value).IsNil", "internal/reflectlite.TypeOf", "(internal/reflectlite.Value).Elem", "(internal/reflectlite.Value).Set"], unfollowed := true, recurses := true, named := ["errors.errorType"], apart := false, laid := [("errors.errorType", laid_errors_errorType)] }
def RuleNoneSaid : Prop := ruleNoneRow.holds Tryd.pinned (OpenSpec.ofChange ruleNoneSpec)

/-- ITS FALSE NEIGHBOUR: 'it returns false'. Refute it at one input. -/
def ruleNoneWrong : ChangeSpec := { name := "ruleNone", fn := fun _ => fun
  | [d1, d2, d3] => { results := [.lit (.bool false)], args := [d1, d2, d3] }
  | _ => none }
def RuleNoneWrongFalsely : Prop := ruleNoneRow.holds Tryd.pinned (OpenSpec.ofChange ruleNoneWrong)

/-- 'tuplelaw2.RuleTells': WHATEVER THE INPUT: true; the input reads as it did. -/
def ruleTellsSpec : ChangeSpec := { name := "ruleTells", fn := fun _ => fun
  | [d1, d2, d3, d4] => { results := [.lit (.bool true)], args := [d1, d2, d3, d4] }
  | _ => none }
def ruleTellsRow : OpenClaim := { program := "ythpemlhlgjdnkaadoor", sum := "cc77fa3c995da14d4e3410efdc4e40143d0c1eedde4ec8df97ddc0a47544b844", func := "tuplestead/tuplelaw2.RuleTells", spec := "ruleTells", inPlace := ["internal/reflectlite.ValueOf", "(internal/reflectlite.Value).Type", "(internal/reflectlite.Value).IsNil", "internal/reflectlite.TypeOf", "(internal/reflectlite.Value).Elem", "(internal/reflectlite.Value).Set"], unfollowed := true, recurses := true, named := ["errors.errorType"], apart := false, laid := [("errors.errorType", laid_errors_errorType)] }
def RuleTellsSaid : Prop := ruleTellsRow.holds Tryd.pinned (OpenSpec.ofChange ruleTellsSpec)

/-- ITS FALSE NEIGHBOUR: 'it returns false'. Refute it at one input. -/
def ruleTellsWrong : ChangeSpec := { name := "ruleTells", fn := fun _ => fun
  | [d1, d2, d3, d4] => { results := [.lit (.bool false)], args := [d1, d2, d3, d4] }
  | _ => none }
def RuleTellsWrongFalsely : Prop := ruleTellsRow.holds Tryd.pinned (OpenSpec.ofChange ruleTellsWrong)

/-- 'tuplelaw2.RuleFirst': WHATEVER THE INPUT: true; the input reads as it did. -/
def ruleFirstSpec : ChangeSpec := { name := "ruleFirst", fn := fun _ => fun
  | [d1, d2, d3, d4, d5, d6] => { results := [.lit (.bool true)], args := [d1, d2, d3, d4, d5, d6] }
  | _ => none }
def ruleFirstRow : OpenClaim := { program := "ythpemlhlgjdnkaadoor", sum := "cc77fa3c995da14d4e3410efdc4e40143d0c1eedde4ec8df97ddc0a47544b844", func := "tuplestead/tuplelaw2.RuleFirst", spec := "ruleFirst", inPlace := ["internal/reflectlite.ValueOf", "(internal/reflectlite.Value).Type", "(internal/reflectlite.Value).IsNil", "internal/reflectlite.TypeOf", "(internal/reflectlite.Value).Elem", "(internal/reflectlite.Value).Set"], unfollowed := true, recurses := true, named := ["errors.errorType"], apart := false, laid := [("errors.errorType", laid_errors_errorType)] }
def RuleFirstSaid : Prop := ruleFirstRow.holds Tryd.pinned (OpenSpec.ofChange ruleFirstSpec)

/-- ITS FALSE NEIGHBOUR: 'it returns false'. Refute it at one input. -/
def ruleFirstWrong : ChangeSpec := { name := "ruleFirst", fn := fun _ => fun
  | [d1, d2, d3, d4, d5, d6] => { results := [.lit (.bool false)], args := [d1, d2, d3, d4, d5, d6] }
  | _ => none }
def RuleFirstWrongFalsely : Prop := ruleFirstRow.holds Tryd.pinned (OpenSpec.ofChange ruleFirstWrong)

/-- 'tuplelaw1.LeaseEnds': WHATEVER THE INPUT: true; the input reads as it did. -/
def leaseEndsSpec : ChangeSpec := { name := "leaseEnds", fn := fun _ => fun
  | [d1, d2, d3, d4] => { results := [.lit (.bool true)], args := [d1, d2, d3, d4] }
  | _ => none }
def leaseEndsRow : OpenClaim := { program := "ythpemlhlgjdnkaadoor", sum := "cc77fa3c995da14d4e3410efdc4e40143d0c1eedde4ec8df97ddc0a47544b844", func := "tuplestead/tuplelaw1.LeaseEnds", spec := "leaseEnds", inPlace := ["internal/reflectlite.ValueOf", "(internal/reflectlite.Value).Type", "(internal/reflectlite.Value).IsNil", "internal/reflectlite.TypeOf", "(internal/reflectlite.Value).Elem", "(internal/reflectlite.Value).Set"], unfollowed := true, recurses := true, named := ["errors.errorType"], apart := false, laid := [("errors.errorType", laid_errors_errorType)] }
def LeaseEndsSaid : Prop := leaseEndsRow.holds Tryd.pinned (OpenSpec.ofChange leaseEndsSpec)

/-- ITS FALSE NEIGHBOUR: 'it returns false'. Refute it at one input. -/
def leaseEndsWrong : ChangeSpec := { name := "leaseEnds", fn := fun _ => fun
  | [d1, d2, d3, d4] => { results := [.lit (.bool false)], args := [d1, d2, d3, d4] }
  | _ => none }
def LeaseEndsWrongFalsely : Prop := leaseEndsRow.holds Tryd.pinned (OpenSpec.ofChange leaseEndsWrong)

/-- 'tuplelaw1.LeasePlays': WHATEVER THE INPUT: true; the input reads as it did. -/
def leasePlaysSpec : ChangeSpec := { name := "leasePlays", fn := fun _ => fun
  | [d1, d2] => { results := [.lit (.bool true)], args := [d1, d2] }
  | _ => none }
def leasePlaysRow : OpenClaim := { program := "ythpemlhlgjdnkaadoor", sum := "cc77fa3c995da14d4e3410efdc4e40143d0c1eedde4ec8df97ddc0a47544b844", func := "tuplestead/tuplelaw1.LeasePlays", spec := "leasePlays", inPlace := ["internal/reflectlite.ValueOf", "(internal/reflectlite.Value).Type", "(internal/reflectlite.Value).IsNil", "internal/reflectlite.TypeOf", "(internal/reflectlite.Value).Elem", "(internal/reflectlite.Value).Set"], unfollowed := true, recurses := true, named := ["errors.errorType"], apart := false, laid := [("errors.errorType", laid_errors_errorType)] }
def LeasePlaysSaid : Prop := leasePlaysRow.holds Tryd.pinned (OpenSpec.ofChange leasePlaysSpec)

/-- ITS FALSE NEIGHBOUR: 'it returns false'. Refute it at one input. -/
def leasePlaysWrong : ChangeSpec := { name := "leasePlays", fn := fun _ => fun
  | [d1, d2] => { results := [.lit (.bool false)], args := [d1, d2] }
  | _ => none }
def LeasePlaysWrongFalsely : Prop := leasePlaysRow.holds Tryd.pinned (OpenSpec.ofChange leasePlaysWrong)

/-- 'tuplelaw1.SpacePlays': WHATEVER THE INPUT: true; the input reads as it did. -/
def spacePlaysSpec : ChangeSpec := { name := "spacePlays", fn := fun _ => fun
  | [d1, d2] => { results := [.lit (.bool true)], args := [d1, d2] }
  | _ => none }
def spacePlaysRow : OpenClaim := { program := "ythpemlhlgjdnkaadoor", sum := "cc77fa3c995da14d4e3410efdc4e40143d0c1eedde4ec8df97ddc0a47544b844", func := "tuplestead/tuplelaw1.SpacePlays", spec := "spacePlays", inPlace := ["internal/reflectlite.ValueOf", "(internal/reflectlite.Value).Type", "(internal/reflectlite.Value).IsNil", "internal/reflectlite.TypeOf", "(internal/reflectlite.Value).Elem", "(internal/reflectlite.Value).Set"], unfollowed := true, recurses := true, named := ["errors.errorType"], apart := false, laid := [("errors.errorType", laid_errors_errorType)] }
def SpacePlaysSaid : Prop := spacePlaysRow.holds Tryd.pinned (OpenSpec.ofChange spacePlaysSpec)

/-- ITS FALSE NEIGHBOUR: 'it returns false'. Refute it at one input. -/
def spacePlaysWrong : ChangeSpec := { name := "spacePlays", fn := fun _ => fun
  | [d1, d2] => { results := [.lit (.bool false)], args := [d1, d2] }
  | _ => none }
def SpacePlaysWrongFalsely : Prop := spacePlaysRow.holds Tryd.pinned (OpenSpec.ofChange spacePlaysWrong)

/-- 'tuplelaw1.SpaceKeeps': WHATEVER THE INPUT: true; the input reads as it did. -/
def spaceKeepsSpec : ChangeSpec := { name := "spaceKeeps", fn := fun _ => fun
  | [d1, d2] => { results := [.lit (.bool true)], args := [d1, d2] }
  | _ => none }
def spaceKeepsRow : OpenClaim := { program := "ythpemlhlgjdnkaadoor", sum := "cc77fa3c995da14d4e3410efdc4e40143d0c1eedde4ec8df97ddc0a47544b844", func := "tuplestead/tuplelaw1.SpaceKeeps", spec := "spaceKeeps", inPlace := ["internal/reflectlite.ValueOf", "(internal/reflectlite.Value).Type", "(internal/reflectlite.Value).IsNil", "internal/reflectlite.TypeOf", "(internal/reflectlite.Value).Elem", "(internal/reflectlite.Value).Set"], unfollowed := true, recurses := true, named := ["errors.errorType"], apart := false, laid := [("errors.errorType", laid_errors_errorType)] }
def SpaceKeepsSaid : Prop := spaceKeepsRow.holds Tryd.pinned (OpenSpec.ofChange spaceKeepsSpec)

/-- ITS FALSE NEIGHBOUR: 'it returns false'. Refute it at one input. -/
def spaceKeepsWrong : ChangeSpec := { name := "spaceKeeps", fn := fun _ => fun
  | [d1, d2] => { results := [.lit (.bool false)], args := [d1, d2] }
  | _ => none }
def SpaceKeepsWrongFalsely : Prop := spaceKeepsRow.holds Tryd.pinned (OpenSpec.ofChange spaceKeepsWrong)

/-- 'tuplelaw4.CoverClosed': WHATEVER THE INPUT: true; the input reads as it did. -/
def coverClosedSpec : ChangeSpec := { name := "coverClosed", fn := fun _ => fun
  | [d1, d2] => { results := [.lit (.bool true)], args := [d1, d2] }
  | _ => none }
def coverClosedRow : OpenClaim := { program := "ythpemlhlgjdnkaadoor", sum := "cc77fa3c995da14d4e3410efdc4e40143d0c1eedde4ec8df97ddc0a47544b844", func := "tuplestead/tuplelaw4.CoverClosed", spec := "coverClosed", unfollowed := true, recurses := true, named := ["internal/strconv.uint64pow10", "math/bits.deBruijn32tab", "math/bits.deBruijn64tab"], apart := false, laid := [("math/bits.deBruijn32tab", laid_math_bits_deBruijn32tab), ("math/bits.deBruijn64tab", laid_math_bits_deBruijn64tab), ("internal/strconv.uint64pow10", laid_internal_strconv_uint64pow10)] }
def CoverClosedSaid : Prop := coverClosedRow.holds Tryd.pinned (OpenSpec.ofChange coverClosedSpec)

/-- ITS FALSE NEIGHBOUR: 'it returns false'. Refute it at one input. -/
def coverClosedWrong : ChangeSpec := { name := "coverClosed", fn := fun _ => fun
  | [d1, d2] => { results := [.lit (.bool false)], args := [d1, d2] }
  | _ => none }
def CoverClosedWrongFalsely : Prop := coverClosedRow.holds Tryd.pinned (OpenSpec.ofChange coverClosedWrong)

/-- 'tuplelaw2.CoverFinds': WHATEVER THE INPUT: true; the input reads as it did. -/
def coverFindsSpec : ChangeSpec := { name := "coverFinds", fn := fun _ => fun
  | [d1, d2, d3] => { results := [.lit (.bool true)], args := [d1, d2, d3] }
  | _ => none }
def coverFindsRow : OpenClaim := { program := "ythpemlhlgjdnkaadoor", sum := "cc77fa3c995da14d4e3410efdc4e40143d0c1eedde4ec8df97ddc0a47544b844", func := "tuplestead/tuplelaw2.CoverFinds", spec := "coverFinds", unfollowed := true, recurses := true, named := ["internal/strconv.uint64pow10", "math/bits.deBruijn32tab", "math/bits.deBruijn64tab"], apart := false, laid := [("math/bits.deBruijn32tab", laid_math_bits_deBruijn32tab), ("math/bits.deBruijn64tab", laid_math_bits_deBruijn64tab), ("internal/strconv.uint64pow10", laid_internal_strconv_uint64pow10)] }
def CoverFindsSaid : Prop := coverFindsRow.holds Tryd.pinned (OpenSpec.ofChange coverFindsSpec)

/-- ITS FALSE NEIGHBOUR: 'it returns false'. Refute it at one input. -/
def coverFindsWrong : ChangeSpec := { name := "coverFinds", fn := fun _ => fun
  | [d1, d2, d3] => { results := [.lit (.bool false)], args := [d1, d2, d3] }
  | _ => none }
def CoverFindsWrongFalsely : Prop := coverFindsRow.holds Tryd.pinned (OpenSpec.ofChange coverFindsWrong)

/-- 'tuplelaw1.OncePlays': WHATEVER THE INPUT: true; the input reads as it did. -/
def oncePlaysSpec : ChangeSpec := { name := "oncePlays", fn := fun _ => fun
  | [d1, d2] => { results := [.lit (.bool true)], args := [d1, d2] }
  | _ => none }
def oncePlaysRow : OpenClaim := { program := "ythpemlhlgjdnkaadoor", sum := "cc77fa3c995da14d4e3410efdc4e40143d0c1eedde4ec8df97ddc0a47544b844", func := "tuplestead/tuplelaw1.OncePlays", spec := "oncePlays", inPlace := ["internal/reflectlite.ValueOf", "(internal/reflectlite.Value).Type", "(internal/reflectlite.Value).IsNil", "internal/reflectlite.TypeOf", "(internal/reflectlite.Value).Elem", "(internal/reflectlite.Value).Set"], unfollowed := true, recurses := true, named := ["errors.errorType"], apart := false, laid := [("errors.errorType", laid_errors_errorType)] }
def OncePlaysSaid : Prop := oncePlaysRow.holds Tryd.pinned (OpenSpec.ofChange oncePlaysSpec)

/-- ITS FALSE NEIGHBOUR: 'it returns false'. Refute it at one input. -/
def oncePlaysWrong : ChangeSpec := { name := "oncePlays", fn := fun _ => fun
  | [d1, d2] => { results := [.lit (.bool false)], args := [d1, d2] }
  | _ => none }
def OncePlaysWrongFalsely : Prop := oncePlaysRow.holds Tryd.pinned (OpenSpec.ofChange oncePlaysWrong)

/-- 'tuplelaw1.PrintSame': WHATEVER THE INPUT: true; the input reads as it did. -/
def printSameSpec : ChangeSpec := { name := "printSame", fn := fun _ => fun
  | [d1, d2] => { results := [.lit (.bool true)], args := [d1, d2] }
  | _ => none }
def printSameRow : OpenClaim := { program := "ythpemlhlgjdnkaadoor", sum := "cc77fa3c995da14d4e3410efdc4e40143d0c1eedde4ec8df97ddc0a47544b844", func := "tuplestead/tuplelaw1.PrintSame", spec := "printSame", inPlace := ["internal/abi.NoEscape", "internal/bytealg.MakeNoZero"], unfollowed := true, recurses := true, named := ["internal/strconv.uint64pow10", "math/bits.deBruijn32tab", "math/bits.deBruijn64tab"], apart := false, laid := [("math/bits.deBruijn32tab", laid_math_bits_deBruijn32tab), ("math/bits.deBruijn64tab", laid_math_bits_deBruijn64tab), ("internal/strconv.uint64pow10", laid_internal_strconv_uint64pow10)] }
def PrintSameSaid : Prop := printSameRow.holds Tryd.pinned (OpenSpec.ofChange printSameSpec)

/-- ITS FALSE NEIGHBOUR: 'it returns false'. Refute it at one input. -/
def printSameWrong : ChangeSpec := { name := "printSame", fn := fun _ => fun
  | [d1, d2] => { results := [.lit (.bool false)], args := [d1, d2] }
  | _ => none }
def PrintSameWrongFalsely : Prop := printSameRow.holds Tryd.pinned (OpenSpec.ofChange printSameWrong)

/-- 'tuplelaw2.CoverTells': WHATEVER THE INPUT: true; the input reads as it did. -/
def coverTellsSpec : ChangeSpec := { name := "coverTells", fn := fun _ => fun
  | [d1, d2, d3] => { results := [.lit (.bool true)], args := [d1, d2, d3] }
  | _ => none }
def coverTellsRow : OpenClaim := { program := "ythpemlhlgjdnkaadoor", sum := "cc77fa3c995da14d4e3410efdc4e40143d0c1eedde4ec8df97ddc0a47544b844", func := "tuplestead/tuplelaw2.CoverTells", spec := "coverTells", inPlace := ["internal/reflectlite.ValueOf", "(internal/reflectlite.Value).Type", "(internal/reflectlite.Value).IsNil", "internal/reflectlite.TypeOf", "(internal/reflectlite.Value).Elem", "(internal/reflectlite.Value).Set"], unfollowed := true, recurses := true, named := ["internal/strconv.uint64pow10", "math/bits.deBruijn32tab", "math/bits.deBruijn64tab", "errors.errorType"], apart := false, laid := [("math/bits.deBruijn32tab", laid_math_bits_deBruijn32tab), ("math/bits.deBruijn64tab", laid_math_bits_deBruijn64tab), ("internal/strconv.uint64pow10", laid_internal_strconv_uint64pow10), ("errors.errorType", laid_errors_errorType)] }
def CoverTellsSaid : Prop := coverTellsRow.holds Tryd.pinned (OpenSpec.ofChange coverTellsSpec)

/-- ITS FALSE NEIGHBOUR: 'it returns false'. Refute it at one input. -/
def coverTellsWrong : ChangeSpec := { name := "coverTells", fn := fun _ => fun
  | [d1, d2, d3] => { results := [.lit (.bool false)], args := [d1, d2, d3] }
  | _ => none }
def CoverTellsWrongFalsely : Prop := coverTellsRow.holds Tryd.pinned (OpenSpec.ofChange coverTellsWrong)

/-- 'tuplelaw1.PrintTells': WHATEVER THE INPUT: true; the input reads as it did. -/
def printTellsSpec : ChangeSpec := { name := "printTells", fn := fun _ => fun
  | [d1, d2] => { results := [.lit (.bool true)], args := [d1, d2] }
  | _ => none }
def printTellsRow : OpenClaim := { program := "ythpemlhlgjdnkaadoor", sum := "cc77fa3c995da14d4e3410efdc4e40143d0c1eedde4ec8df97ddc0a47544b844", func := "tuplestead/tuplelaw1.PrintTells", spec := "printTells", inPlace := ["internal/reflectlite.ValueOf", "(internal/reflectlite.Value).Type", "(internal/reflectlite.Value).IsNil", "internal/reflectlite.TypeOf", "(internal/reflectlite.Value).Elem", "(internal/reflectlite.Value).Set", "internal/abi.NoEscape", "internal/bytealg.MakeNoZero"], unfollowed := true, recurses := true, named := ["internal/strconv.uint64pow10", "math/bits.deBruijn32tab", "math/bits.deBruijn64tab", "errors.errorType"], apart := false, laid := [("math/bits.deBruijn32tab", laid_math_bits_deBruijn32tab), ("math/bits.deBruijn64tab", laid_math_bits_deBruijn64tab), ("internal/strconv.uint64pow10", laid_internal_strconv_uint64pow10), ("errors.errorType", laid_errors_errorType)] }
def PrintTellsSaid : Prop := printTellsRow.holds Tryd.pinned (OpenSpec.ofChange printTellsSpec)

/-- ITS FALSE NEIGHBOUR: 'it returns false'. Refute it at one input. -/
def printTellsWrong : ChangeSpec := { name := "printTells", fn := fun _ => fun
  | [d1, d2] => { results := [.lit (.bool false)], args := [d1, d2] }
  | _ => none }
def PrintTellsWrongFalsely : Prop := printTellsRow.holds Tryd.pinned (OpenSpec.ofChange printTellsWrong)

/- THE SECOND FORM. 'bulk': how many values and letters a reading holds, each counted each time it is reached (what is shared counts as often as it is met; a slice's spare places count too). A statement '..UptoSaid' is the law's where the arguments, and the package variables that the reading takes, are together of bulk at most 1048576: NARROWER than '..Said'. Prove '..Said' where nothing that the law and all that it calls make is longer than what came in: it says more and counts as full. Else prove '..UptoSaid'. A law counts once. -/
mutual
def uptoBulk {H : Type} : DataW H → Nat
  | .lit (.string bytes) => bytes.length + 1
  | .lit _ => 1
  | .nil => 1
  | .ptr d => uptoBulk d + 1
  | .slice elems spare => uptoBulkAll elems + uptoBulkAll spare + 1
  | .agg parts => uptoBulkAll parts + 1
  | .iface _ d => uptoBulk d + 1
  | .map entries => uptoBulkEntries entries + 1
  | .held _ => 1
def uptoBulkAll {H : Type} : List (DataW H) → Nat
  | [] => 0
  | d :: r => uptoBulk d + uptoBulkAll r
def uptoBulkEntries {H : Type} : List (Lit × DataW H) → Nat
  | [] => 0
  | x :: r => uptoBulkEntry x + uptoBulkEntries r
def uptoBulkEntry {H : Type} : Lit × DataW H → Nat
  | (.string bytes, d) => bytes.length + uptoBulk d + 1
  | (_, d) => uptoBulk d + 1
 end
def uptoSmall : (H : Type) → List (DataW H) → Bool := fun _ ds => decide (uptoBulkAll ds ≤ 1048576)
def OpenSpec.upto (s : _root_.Go.ChangeSpec) : _root_.Go.OpenSpec := { _root_.Go.OpenSpec.ofChange s with cond := some uptoSmall }

/-- 'tuplelaw4.QueueGap', WHERE WHAT IT READS IS OF BULK AT MOST 1048576: true; the input reads as it did. -/
def queueGapUptoRow : OpenClaim := { program := "ythpemlhlgjdnkaadoor", sum := "cc77fa3c995da14d4e3410efdc4e40143d0c1eedde4ec8df97ddc0a47544b844", func := "tuplestead/tuplelaw4.QueueGap", spec := "queueGap", inPlace := ["internal/reflectlite.ValueOf", "(internal/reflectlite.Value).Type", "(internal/reflectlite.Value).IsNil", "internal/reflectlite.TypeOf", "(internal/reflectlite.Value).Elem", "(internal/reflectlite.Value).Set"], unfollowed := true, recurses := true, named := ["errors.errorType"], apart := false, laid := [("errors.errorType", laid_errors_errorType)], narrowed := true }
def QueueGapUptoSaid : Prop := queueGapUptoRow.holds Tryd.pinned (OpenSpec.upto queueGapSpec)

/-- 'tuplelaw2.QueueOnce', WHERE WHAT IT READS IS OF BULK AT MOST 1048576: true; the input reads as it did. -/
def queueOnceUptoRow : OpenClaim := { program := "ythpemlhlgjdnkaadoor", sum := "cc77fa3c995da14d4e3410efdc4e40143d0c1eedde4ec8df97ddc0a47544b844", func := "tuplestead/tuplelaw2.QueueOnce", spec := "queueOnce", inPlace := ["internal/reflectlite.ValueOf", "(internal/reflectlite.Value).Type", "(internal/reflectlite.Value).IsNil", "internal/reflectlite.TypeOf", "(internal/reflectlite.Value).Elem", "(internal/reflectlite.Value).Set"], unfollowed := true, recurses := true, named := ["errors.errorType"], apart := false, laid := [("errors.errorType", laid_errors_errorType)], narrowed := true }
def QueueOnceUptoSaid : Prop := queueOnceUptoRow.holds Tryd.pinned (OpenSpec.upto queueOnceSpec)

/-- 'tuplelaw2.QueuePlays', WHERE WHAT IT READS IS OF BULK AT MOST 1048576: true; the input reads as it did. -/
def queuePlaysUptoRow : OpenClaim := { program := "ythpemlhlgjdnkaadoor", sum := "cc77fa3c995da14d4e3410efdc4e40143d0c1eedde4ec8df97ddc0a47544b844", func := "tuplestead/tuplelaw2.QueuePlays", spec := "queuePlays", inPlace := ["internal/reflectlite.ValueOf", "(internal/reflectlite.Value).Type", "(internal/reflectlite.Value).IsNil", "internal/reflectlite.TypeOf", "(internal/reflectlite.Value).Elem", "(internal/reflectlite.Value).Set"], unfollowed := true, recurses := true, named := ["errors.errorType"], apart := false, laid := [("errors.errorType", laid_errors_errorType)], narrowed := true }
def QueuePlaysUptoSaid : Prop := queuePlaysUptoRow.holds Tryd.pinned (OpenSpec.upto queuePlaysSpec)

/-- 'tuplelaw4.SpaceFull', WHERE WHAT IT READS IS OF BULK AT MOST 1048576: true; the input reads as it did. -/
def spaceFullUptoRow : OpenClaim := { program := "ythpemlhlgjdnkaadoor", sum := "cc77fa3c995da14d4e3410efdc4e40143d0c1eedde4ec8df97ddc0a47544b844", func := "tuplestead/tuplelaw4.SpaceFull", spec := "spaceFull", inPlace := ["internal/reflectlite.ValueOf", "(internal/reflectlite.Value).Type", "(internal/reflectlite.Value).IsNil", "internal/reflectlite.TypeOf", "(internal/reflectlite.Value).Elem", "(internal/reflectlite.Value).Set"], unfollowed := true, recurses := true, named := ["errors.errorType"], apart := false, laid := [("errors.errorType", laid_errors_errorType)], narrowed := true }
def SpaceFullUptoSaid : Prop := spaceFullUptoRow.holds Tryd.pinned (OpenSpec.upto spaceFullSpec)

/-- 'tuplelaw4.PrintOne', WHERE WHAT IT READS IS OF BULK AT MOST 1048576: true; the input reads as it did. -/
def printOneUptoRow : OpenClaim := { program := "ythpemlhlgjdnkaadoor", sum := "cc77fa3c995da14d4e3410efdc4e40143d0c1eedde4ec8df97ddc0a47544b844", func := "tuplestead/tuplelaw4.PrintOne", spec := "printOne", unfollowed := true, recurses := true, named := ["internal/strconv.uint64pow10", "math/bits.deBruijn32tab", "math/bits.deBruijn64tab"], apart := false, laid := [("math/bits.deBruijn32tab", laid_math_bits_deBruijn32tab), ("math/bits.deBruijn64tab", laid_math_bits_deBruijn64tab), ("internal/strconv.uint64pow10", laid_internal_strconv_uint64pow10)], narrowed := true }
def PrintOneUptoSaid : Prop := printOneUptoRow.holds Tryd.pinned (OpenSpec.upto printOneSpec)

/-- 'tuplelaw4.RuleNone', WHERE WHAT IT READS IS OF BULK AT MOST 1048576: true; the input reads as it did. -/
def ruleNoneUptoRow : OpenClaim := { program := "ythpemlhlgjdnkaadoor", sum := "cc77fa3c995da14d4e3410efdc4e40143d0c1eedde4ec8df97ddc0a47544b844", func := "tuplestead/tuplelaw4.RuleNone", spec := "ruleNone", inPlace := ["internal/reflectlite.ValueOf", "(internal/reflectlite.Value).Type", "(internal/reflectlite.Value).IsNil", "internal/reflectlite.TypeOf", "(internal/reflectlite.Value).Elem", "(internal/reflectlite.Value).Set"], unfollowed := true, recurses := true, named := ["errors.errorType"], apart := false, laid := [("errors.errorType", laid_errors_errorType)], narrowed := true }
def RuleNoneUptoSaid : Prop := ruleNoneUptoRow.holds Tryd.pinned (OpenSpec.upto ruleNoneSpec)

/-- 'tuplelaw2.RuleTells', WHERE WHAT IT READS IS OF BULK AT MOST 1048576: true; the input reads as it did. -/
def ruleTellsUptoRow : OpenClaim := { program := "ythpemlhlgjdnkaadoor", sum := "cc77fa3c995da14d4e3410efdc4e40143d0c1eedde4ec8df97ddc0a47544b844", func := "tuplestead/tuplelaw2.RuleTells", spec := "ruleTells", inPlace := ["internal/reflectlite.ValueOf", "(internal/reflectlite.Value).Type", "(internal/reflectlite.Value).IsNil", "internal/reflectlite.TypeOf", "(internal/reflectlite.Value).Elem", "(internal/reflectlite.Value).Set"], unfollowed := true, recurses := true, named := ["errors.errorType"], apart := false, laid := [("errors.errorType", laid_errors_errorType)], narrowed := true }
def RuleTellsUptoSaid : Prop := ruleTellsUptoRow.holds Tryd.pinned (OpenSpec.upto ruleTellsSpec)

/-- 'tuplelaw2.RuleFirst', WHERE WHAT IT READS IS OF BULK AT MOST 1048576: true; the input reads as it did. -/
def ruleFirstUptoRow : OpenClaim := { program := "ythpemlhlgjdnkaadoor", sum := "cc77fa3c995da14d4e3410efdc4e40143d0c1eedde4ec8df97ddc0a47544b844", func := "tuplestead/tuplelaw2.RuleFirst", spec := "ruleFirst", inPlace := ["internal/reflectlite.ValueOf", "(internal/reflectlite.Value).Type", "(internal/reflectlite.Value).IsNil", "internal/reflectlite.TypeOf", "(internal/reflectlite.Value).Elem", "(internal/reflectlite.Value).Set"], unfollowed := true, recurses := true, named := ["errors.errorType"], apart := false, laid := [("errors.errorType", laid_errors_errorType)], narrowed := true }
def RuleFirstUptoSaid : Prop := ruleFirstUptoRow.holds Tryd.pinned (OpenSpec.upto ruleFirstSpec)

/-- 'tuplelaw1.LeaseEnds', WHERE WHAT IT READS IS OF BULK AT MOST 1048576: true; the input reads as it did. -/
def leaseEndsUptoRow : OpenClaim := { program := "ythpemlhlgjdnkaadoor", sum := "cc77fa3c995da14d4e3410efdc4e40143d0c1eedde4ec8df97ddc0a47544b844", func := "tuplestead/tuplelaw1.LeaseEnds", spec := "leaseEnds", inPlace := ["internal/reflectlite.ValueOf", "(internal/reflectlite.Value).Type", "(internal/reflectlite.Value).IsNil", "internal/reflectlite.TypeOf", "(internal/reflectlite.Value).Elem", "(internal/reflectlite.Value).Set"], unfollowed := true, recurses := true, named := ["errors.errorType"], apart := false, laid := [("errors.errorType", laid_errors_errorType)], narrowed := true }
def LeaseEndsUptoSaid : Prop := leaseEndsUptoRow.holds Tryd.pinned (OpenSpec.upto leaseEndsSpec)

/-- 'tuplelaw1.LeasePlays', WHERE WHAT IT READS IS OF BULK AT MOST 1048576: true; the input reads as it did. -/
def leasePlaysUptoRow : OpenClaim := { program := "ythpemlhlgjdnkaadoor", sum := "cc77fa3c995da14d4e3410efdc4e40143d0c1eedde4ec8df97ddc0a47544b844", func := "tuplestead/tuplelaw1.LeasePlays", spec := "leasePlays", inPlace := ["internal/reflectlite.ValueOf", "(internal/reflectlite.Value).Type", "(internal/reflectlite.Value).IsNil", "internal/reflectlite.TypeOf", "(internal/reflectlite.Value).Elem", "(internal/reflectlite.Value).Set"], unfollowed := true, recurses := true, named := ["errors.errorType"], apart := false, laid := [("errors.errorType", laid_errors_errorType)], narrowed := true }
def LeasePlaysUptoSaid : Prop := leasePlaysUptoRow.holds Tryd.pinned (OpenSpec.upto leasePlaysSpec)

/-- 'tuplelaw1.SpacePlays', WHERE WHAT IT READS IS OF BULK AT MOST 1048576: true; the input reads as it did. -/
def spacePlaysUptoRow : OpenClaim := { program := "ythpemlhlgjdnkaadoor", sum := "cc77fa3c995da14d4e3410efdc4e40143d0c1eedde4ec8df97ddc0a47544b844", func := "tuplestead/tuplelaw1.SpacePlays", spec := "spacePlays", inPlace := ["internal/reflectlite.ValueOf", "(internal/reflectlite.Value).Type", "(internal/reflectlite.Value).IsNil", "internal/reflectlite.TypeOf", "(internal/reflectlite.Value).Elem", "(internal/reflectlite.Value).Set"], unfollowed := true, recurses := true, named := ["errors.errorType"], apart := false, laid := [("errors.errorType", laid_errors_errorType)], narrowed := true }
def SpacePlaysUptoSaid : Prop := spacePlaysUptoRow.holds Tryd.pinned (OpenSpec.upto spacePlaysSpec)

/-- 'tuplelaw1.SpaceKeeps', WHERE WHAT IT READS IS OF BULK AT MOST 1048576: true; the input reads as it did. -/
def spaceKeepsUptoRow : OpenClaim := { program := "ythpemlhlgjdnkaadoor", sum := "cc77fa3c995da14d4e3410efdc4e40143d0c1eedde4ec8df97ddc0a47544b844", func := "tuplestead/tuplelaw1.SpaceKeeps", spec := "spaceKeeps", inPlace := ["internal/reflectlite.ValueOf", "(internal/reflectlite.Value).Type", "(internal/reflectlite.Value).IsNil", "internal/reflectlite.TypeOf", "(internal/reflectlite.Value).Elem", "(internal/reflectlite.Value).Set"], unfollowed := true, recurses := true, named := ["errors.errorType"], apart := false, laid := [("errors.errorType", laid_errors_errorType)], narrowed := true }
def SpaceKeepsUptoSaid : Prop := spaceKeepsUptoRow.holds Tryd.pinned (OpenSpec.upto spaceKeepsSpec)

/-- 'tuplelaw4.CoverClosed', WHERE WHAT IT READS IS OF BULK AT MOST 1048576: true; the input reads as it did. -/
def coverClosedUptoRow : OpenClaim := { program := "ythpemlhlgjdnkaadoor", sum := "cc77fa3c995da14d4e3410efdc4e40143d0c1eedde4ec8df97ddc0a47544b844", func := "tuplestead/tuplelaw4.CoverClosed", spec := "coverClosed", unfollowed := true, recurses := true, named := ["internal/strconv.uint64pow10", "math/bits.deBruijn32tab", "math/bits.deBruijn64tab"], apart := false, laid := [("math/bits.deBruijn32tab", laid_math_bits_deBruijn32tab), ("math/bits.deBruijn64tab", laid_math_bits_deBruijn64tab), ("internal/strconv.uint64pow10", laid_internal_strconv_uint64pow10)], narrowed := true }
def CoverClosedUptoSaid : Prop := coverClosedUptoRow.holds Tryd.pinned (OpenSpec.upto coverClosedSpec)

/-- 'tuplelaw2.CoverFinds', WHERE WHAT IT READS IS OF BULK AT MOST 1048576: true; the input reads as it did. -/
def coverFindsUptoRow : OpenClaim := { program := "ythpemlhlgjdnkaadoor", sum := "cc77fa3c995da14d4e3410efdc4e40143d0c1eedde4ec8df97ddc0a47544b844", func := "tuplestead/tuplelaw2.CoverFinds", spec := "coverFinds", unfollowed := true, recurses := true, named := ["internal/strconv.uint64pow10", "math/bits.deBruijn32tab", "math/bits.deBruijn64tab"], apart := false, laid := [("math/bits.deBruijn32tab", laid_math_bits_deBruijn32tab), ("math/bits.deBruijn64tab", laid_math_bits_deBruijn64tab), ("internal/strconv.uint64pow10", laid_internal_strconv_uint64pow10)], narrowed := true }
def CoverFindsUptoSaid : Prop := coverFindsUptoRow.holds Tryd.pinned (OpenSpec.upto coverFindsSpec)

/-- 'tuplelaw1.OncePlays', WHERE WHAT IT READS IS OF BULK AT MOST 1048576: true; the input reads as it did. -/
def oncePlaysUptoRow : OpenClaim := { program := "ythpemlhlgjdnkaadoor", sum := "cc77fa3c995da14d4e3410efdc4e40143d0c1eedde4ec8df97ddc0a47544b844", func := "tuplestead/tuplelaw1.OncePlays", spec := "oncePlays", inPlace := ["internal/reflectlite.ValueOf", "(internal/reflectlite.Value).Type", "(internal/reflectlite.Value).IsNil", "internal/reflectlite.TypeOf", "(internal/reflectlite.Value).Elem", "(internal/reflectlite.Value).Set"], unfollowed := true, recurses := true, named := ["errors.errorType"], apart := false, laid := [("errors.errorType", laid_errors_errorType)], narrowed := true }
def OncePlaysUptoSaid : Prop := oncePlaysUptoRow.holds Tryd.pinned (OpenSpec.upto oncePlaysSpec)

/-- 'tuplelaw1.PrintSame', WHERE WHAT IT READS IS OF BULK AT MOST 1048576: true; the input reads as it did. -/
def printSameUptoRow : OpenClaim := { program := "ythpemlhlgjdnkaadoor", sum := "cc77fa3c995da14d4e3410efdc4e40143d0c1eedde4ec8df97ddc0a47544b844", func := "tuplestead/tuplelaw1.PrintSame", spec := "printSame", inPlace := ["internal/abi.NoEscape", "internal/bytealg.MakeNoZero"], unfollowed := true, recurses := true, named := ["internal/strconv.uint64pow10", "math/bits.deBruijn32tab", "math/bits.deBruijn64tab"], apart := false, laid := [("math/bits.deBruijn32tab", laid_math_bits_deBruijn32tab), ("math/bits.deBruijn64tab", laid_math_bits_deBruijn64tab), ("internal/strconv.uint64pow10", laid_internal_strconv_uint64pow10)], narrowed := true }
def PrintSameUptoSaid : Prop := printSameUptoRow.holds Tryd.pinned (OpenSpec.upto printSameSpec)

/-- 'tuplelaw2.CoverTells', WHERE WHAT IT READS IS OF BULK AT MOST 1048576: true; the input reads as it did. -/
def coverTellsUptoRow : OpenClaim := { program := "ythpemlhlgjdnkaadoor", sum := "cc77fa3c995da14d4e3410efdc4e40143d0c1eedde4ec8df97ddc0a47544b844", func := "tuplestead/tuplelaw2.CoverTells", spec := "coverTells", inPlace := ["internal/reflectlite.ValueOf", "(internal/reflectlite.Value).Type", "(internal/reflectlite.Value).IsNil", "internal/reflectlite.TypeOf", "(internal/reflectlite.Value).Elem", "(internal/reflectlite.Value).Set"], unfollowed := true, recurses := true, named := ["internal/strconv.uint64pow10", "math/bits.deBruijn32tab", "math/bits.deBruijn64tab", "errors.errorType"], apart := false, laid := [("math/bits.deBruijn32tab", laid_math_bits_deBruijn32tab), ("math/bits.deBruijn64tab", laid_math_bits_deBruijn64tab), ("internal/strconv.uint64pow10", laid_internal_strconv_uint64pow10), ("errors.errorType", laid_errors_errorType)], narrowed := true }
def CoverTellsUptoSaid : Prop := coverTellsUptoRow.holds Tryd.pinned (OpenSpec.upto coverTellsSpec)

/-- 'tuplelaw1.PrintTells', WHERE WHAT IT READS IS OF BULK AT MOST 1048576: true; the input reads as it did. -/
def printTellsUptoRow : OpenClaim := { program := "ythpemlhlgjdnkaadoor", sum := "cc77fa3c995da14d4e3410efdc4e40143d0c1eedde4ec8df97ddc0a47544b844", func := "tuplestead/tuplelaw1.PrintTells", spec := "printTells", inPlace := ["internal/reflectlite.ValueOf", "(internal/reflectlite.Value).Type", "(internal/reflectlite.Value).IsNil", "internal/reflectlite.TypeOf", "(internal/reflectlite.Value).Elem", "(internal/reflectlite.Value).Set", "internal/abi.NoEscape", "internal/bytealg.MakeNoZero"], unfollowed := true, recurses := true, named := ["internal/strconv.uint64pow10", "math/bits.deBruijn32tab", "math/bits.deBruijn64tab", "errors.errorType"], apart := false, laid := [("math/bits.deBruijn32tab", laid_math_bits_deBruijn32tab), ("math/bits.deBruijn64tab", laid_math_bits_deBruijn64tab), ("internal/strconv.uint64pow10", laid_internal_strconv_uint64pow10), ("errors.errorType", laid_errors_errorType)], narrowed := true }
def PrintTellsUptoSaid : Prop := printTellsUptoRow.holds Tryd.pinned (OpenSpec.upto printTellsSpec)

end Rows
end Go.Proofs.YthpemlhlgjdnkaaDoor
