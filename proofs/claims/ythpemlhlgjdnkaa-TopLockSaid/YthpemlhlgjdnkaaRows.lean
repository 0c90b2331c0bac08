/-
  No cell of these rows narrows 'for every input' (looked for: loops, veiled, ifaces, maps, wideKeys, modest, calm, conditions, laid).
  DERIVED. THE GIVEN ROWS OF THIS SEAT. 6 by the template 'for every input the law returns true; each argument reads behind the call as it read before'; 0 by the template 'total and deterministic' (their statements: YthpemlhlgjdnkaaTotals.lean).
  GIVEN WITH THE SEED: the statements are not yours to turn. If you find one false, say at which input.
  Laid BY PROGRAM, IN A SANDBOX (cutbox-rows.mjs): the forced cells as the released guide's own fill.sh prints them over the translation 4909944a66f34bf1… (all of the seat's roots in one cut). By AI agents, Wed Nov 11 2026. No macro, syntax, notation, axiom, sorry.
-/
import Derived.Test.YthpemlhlgjdnkaaChecked
import GoSem.Claim
import GoSem.ClaimJoined
import GoSem.ClaimMapViews
import Derived.JoinedTies
import Derived.KernelRfl
namespace Go.Proofs.Ythpemlhlgjdnkaa
/- THE CELL 'sum', in the pinned program and in every row, IS THE sha256 OF THE DUMP (.gsa) THAT YthpemlhlgjdnkaaProg.lean LOADS. Nothing in Lean hashes anything: it is a label: what it is worth is what the hold of that sum in a sandbox is worth. -/
noncomputable def Try.pinned : Pinned := { name := "ythpemlhlgjdnkaa", sum := "4909944a66f34bf1a5324b0ca37fb4ed3b8a165d0f70ef76c89abe7489f7d3a2", checked := Try.checked }
namespace Rows
def none {H : Type} : Left H := { results := [], args := [] }

/-- 'tuplelaw4.ValueAny': WHATEVER THE INPUT: true; the input reads as it did. -/
def valueAnySpec : ChangeSpec := { name := "valueAny", fn := fun _ => fun
  | [d] => { results := [.lit (.bool true)], args := [d] }
  | _ => none }
def valueAnyRow : OpenClaim := { program := "ythpemlhlgjdnkaa", sum := "4909944a66f34bf1a5324b0ca37fb4ed3b8a165d0f70ef76c89abe7489f7d3a2", func := "tuplestead/tuplelaw4.ValueAny", spec := "valueAny", inPlace := ["internal/bytealg.abigen_runtime_cmpstring"], unfollowed := true, recurses := true, apart := false }
def ValueAnySaid : Prop := valueAnyRow.holds Try.pinned (OpenSpec.ofChange valueAnySpec)

/-- ITS FALSE NEIGHBOUR: 'it returns false'. Refute it at one input. -/
def valueAnyWrong : ChangeSpec := { name := "valueAny", fn := fun _ => fun
  | [d] => { results := [.lit (.bool false)], args := [d] }
  | _ => none }
def ValueAnyWrongFalsely : Prop := valueAnyRow.holds Try.pinned (OpenSpec.ofChange valueAnyWrong)

/-- 'tuplelaw4.TupleLong': WHATEVER THE INPUT: true; the input reads as it did. -/
def tupleLongSpec : ChangeSpec := { name := "tupleLong", fn := fun _ => fun
  | [d1, d2] => { results := [.lit (.bool true)], args := [d1, d2] }
  | _ => none }
def tupleLongRow : OpenClaim := { program := "ythpemlhlgjdnkaa", sum := "4909944a66f34bf1a5324b0ca37fb4ed3b8a165d0f70ef76c89abe7489f7d3a2", func := "tuplestead/tuplelaw4.TupleLong", spec := "tupleLong", unfollowed := true, recurses := true, apart := false }
def TupleLongSaid : Prop := tupleLongRow.holds Try.pinned (OpenSpec.ofChange tupleLongSpec)

/-- ITS FALSE NEIGHBOUR: 'it returns false'. Refute it at one input. -/
def tupleLongWrong : ChangeSpec := { name := "tupleLong", fn := fun _ => fun
  | [d1, d2] => { results := [.lit (.bool false)], args := [d1, d2] }
  | _ => none }
def TupleLongWrongFalsely : Prop := tupleLongRow.holds Try.pinned (OpenSpec.ofChange tupleLongWrong)

/-- 'tuplelaw4.LeaseFirst': WHATEVER THE INPUT: true; the input reads as it did. -/
def leaseFirstSpec : ChangeSpec := { name := "leaseFirst", fn := fun _ => fun
  | [d1, d2] => { results := [.lit (.bool true)], args := [d1, d2] }
  | _ => none }
def leaseFirstRow : OpenClaim := { program := "ythpemlhlgjdnkaa", sum := "4909944a66f34bf1a5324b0ca37fb4ed3b8a165d0f70ef76c89abe7489f7d3a2", func := "tuplestead/tuplelaw4.LeaseFirst", spec := "leaseFirst", unfollowed := true, recurses := true, apart := false }
def LeaseFirstSaid : Prop := leaseFirstRow.holds Try.pinned (OpenSpec.ofChange leaseFirstSpec)

/-- ITS FALSE NEIGHBOUR: 'it returns false'. Refute it at one input. -/
def leaseFirstWrong : ChangeSpec := { name := "leaseFirst", fn := fun _ => fun
  | [d1, d2] => { results := [.lit (.bool false)], args := [d1, d2] }
  | _ => none }
def LeaseFirstWrongFalsely : Prop := leaseFirstRow.holds Try.pinned (OpenSpec.ofChange leaseFirstWrong)

/-- 'tuplelaw4.OnceMoves': WHATEVER THE INPUT: true; the input reads as it did. -/
def onceMovesSpec : ChangeSpec := { name := "onceMoves", fn := fun _ => fun
  | [d1, d2] => { results := [.lit (.bool true)], args := [d1, d2] }
  | _ => none }
def onceMovesRow : OpenClaim := { program := "ythpemlhlgjdnkaa", sum := "4909944a66f34bf1a5324b0ca37fb4ed3b8a165d0f70ef76c89abe7489f7d3a2", func := "tuplestead/tuplelaw4.OnceMoves", spec := "onceMoves", unfollowed := true, recurses := true, apart := false }
def OnceMovesSaid : Prop := onceMovesRow.holds Try.pinned (OpenSpec.ofChange onceMovesSpec)

/-- ITS FALSE NEIGHBOUR: 'it returns false'. Refute it at one input. -/
def onceMovesWrong : ChangeSpec := { name := "onceMoves", fn := fun _ => fun
  | [d1, d2] => { results := [.lit (.bool false)], args := [d1, d2] }
  | _ => none }
def OnceMovesWrongFalsely : Prop := onceMovesRow.holds Try.pinned (OpenSpec.ofChange onceMovesWrong)

/-- 'tupletop.TopLock': WHATEVER THE INPUT: true; the input reads as it did. -/
def topLockSpec : ChangeSpec := { name := "topLock", fn := fun _ => fun
  | [d] => { results := [.lit (.bool true)], args := [d] }
  | _ => none }
def topLockRow : OpenClaim := { program := "ythpemlhlgjdnkaa", sum := "4909944a66f34bf1a5324b0ca37fb4ed3b8a165d0f70ef76c89abe7489f7d3a2", func := "tuplestead/tupletop.TopLock", spec := "topLock", unfollowed := true, recurses := true, apart := false }
def TopLockSaid : Prop := topLockRow.holds Try.pinned (OpenSpec.ofChange topLockSpec)

/-- ITS FALSE NEIGHBOUR: 'it returns false'. Refute it at one input. -/
def topLockWrong : ChangeSpec := { name := "topLock", fn := fun _ => fun
  | [d] => { results := [.lit (.bool false)], args := [d] }
  | _ => none }
def TopLockWrongFalsely : Prop := topLockRow.holds Try.pinned (OpenSpec.ofChange topLockWrong)

/-- 'tuplelaw1.OnceOnly': WHATEVER THE INPUT: true; the input reads as it did. -/
def onceOnlySpec : ChangeSpec := { name := "onceOnly", fn := fun _ => fun
  | [d1, d2, d3] => { results := [.lit (.bool true)], args := [d1, d2, d3] }
  | _ => none }
def onceOnlyRow : OpenClaim := { program := "ythpemlhlgjdnkaa", sum := "4909944a66f34bf1a5324b0ca37fb4ed3b8a165d0f70ef76c89abe7489f7d3a2", func := "tuplestead/tuplelaw1.OnceOnly", spec := "onceOnly", unfollowed := true, recurses := true, apart := false }
def OnceOnlySaid : Prop := onceOnlyRow.holds Try.pinned (OpenSpec.ofChange onceOnlySpec)

/-- ITS FALSE NEIGHBOUR: 'it returns false'. Refute it at one input. -/
def onceOnlyWrong : ChangeSpec := { name := "onceOnly", fn := fun _ => fun
  | [d1, d2, d3] => { results := [.lit (.bool false)], args := [d1, d2, d3] }
  | _ => none }
def OnceOnlyWrongFalsely : Prop := onceOnlyRow.holds Try.pinned (OpenSpec.ofChange onceOnlyWrong)

/- THE SECOND FORM. 'bulk': how many values and letters a reading holds, each counted each time it is reached (what is shared counts as often as it is met; a slice's spare places count too). A statement '..UptoSaid' is the law's where the arguments, and the package variables that the reading takes, are together of bulk at most 1048576: NARROWER than '..Said'. Prove '..Said' where nothing that the law and all that it calls make is longer than what came in: it says more and counts as full. Else prove '..UptoSaid'. A law counts once. -/
mutual
def uptoBulk {H : Type} : DataW H → Nat
  | .lit (.string bytes) => bytes.length + 1
  | .lit _ => 1
  | .nil => 1
  | .ptr d => uptoBulk d + 1
  | .slice elems spare => uptoBulkAll elems + uptoBulkAll spare + 1
  | .agg parts => uptoBulkAll parts + 1
  | .iface _ d => uptoBulk d + 1
  | .map entries => uptoBulkEntries entries + 1
  | .held _ => 1
def uptoBulkAll {H : Type} : List (DataW H) → Nat
  | [] => 0
  | d :: r => uptoBulk d + uptoBulkAll r
def uptoBulkEntries {H : Type} : List (Lit × DataW H) → Nat
  | [] => 0
  | x :: r => uptoBulkEntry x + uptoBulkEntries r
def uptoBulkEntry {H : Type} : Lit × DataW H → Nat
  | (.string bytes, d) => bytes.length + uptoBulk d + 1
  | (_, d) => uptoBulk d + 1
 end
def uptoSmall : (H : Type) → List (DataW H) → Bool := fun _ ds => decide (uptoBulkAll ds ≤ 1048576)
def OpenSpec.upto (s : _root_.Go.ChangeSpec) : _root_.Go.OpenSpec := { _root_.Go.OpenSpec.ofChange s with cond := some uptoSmall }

/-- 'tuplelaw4.ValueAny', WHERE WHAT IT READS IS OF BULK AT MOST 1048576: true; the input reads as it did. -/
def valueAnyUptoRow : OpenClaim := { program := "ythpemlhlgjdnkaa", sum := "4909944a66f34bf1a5324b0ca37fb4ed3b8a165d0f70ef76c89abe7489f7d3a2", func := "tuplestead/tuplelaw4.ValueAny", spec := "valueAny", inPlace := ["internal/bytealg.abigen_runtime_cmpstring"], unfollowed := true, recurses := true, apart := false, narrowed := true }
def ValueAnyUptoSaid : Prop := valueAnyUptoRow.holds Try.pinned (OpenSpec.upto valueAnySpec)

/-- 'tuplelaw4.TupleLong', WHERE WHAT IT READS IS OF BULK AT MOST 1048576: true; the input reads as it did. -/
def tupleLongUptoRow : OpenClaim := { program := "ythpemlhlgjdnkaa", sum := "4909944a66f34bf1a5324b0ca37fb4ed3b8a165d0f70ef76c89abe7489f7d3a2", func := "tuplestead/tuplelaw4.TupleLong", spec := "tupleLong", unfollowed := true, recurses := true, apart := false, narrowed := true }
def TupleLongUptoSaid : Prop := tupleLongUptoRow.holds Try.pinned (OpenSpec.upto tupleLongSpec)

/-- 'tuplelaw4.LeaseFirst', WHERE WHAT IT READS IS OF BULK AT MOST 1048576: true; the input reads as it did. -/
def leaseFirstUptoRow : OpenClaim := { program := "ythpemlhlgjdnkaa", sum := "4909944a66f34bf1a5324b0ca37fb4ed3b8a165d0f70ef76c89abe7489f7d3a2", func := "tuplestead/tuplelaw4.LeaseFirst", spec := "leaseFirst", unfollowed := true, recurses := true, apart := false, narrowed := true }
def LeaseFirstUptoSaid : Prop := leaseFirstUptoRow.holds Try.pinned (OpenSpec.upto leaseFirstSpec)

/-- 'tuplelaw4.OnceMoves', WHERE WHAT IT READS IS OF BULK AT MOST 1048576: true; the input reads as it did. -/
def onceMovesUptoRow : OpenClaim := { program := "ythpemlhlgjdnkaa", sum := "4909944a66f34bf1a5324b0ca37fb4ed3b8a165d0f70ef76c89abe7489f7d3a2", func := "tuplestead/tuplelaw4.OnceMoves", spec := "onceMoves", unfollowed := true, recurses := true, apart := false, narrowed := true }
def OnceMovesUptoSaid : Prop := onceMovesUptoRow.holds Try.pinned (OpenSpec.upto onceMovesSpec)

/-- 'tupletop.TopLock', WHERE WHAT IT READS IS OF BULK AT MOST 1048576: true; the input reads as it did. -/
def topLockUptoRow : OpenClaim := { program := "ythpemlhlgjdnkaa", sum := "4909944a66f34bf1a5324b0ca37fb4ed3b8a165d0f70ef76c89abe7489f7d3a2", func := "tuplestead/tupletop.TopLock", spec := "topLock", unfollowed := true, recurses := true, apart := false, narrowed := true }
def TopLockUptoSaid : Prop := topLockUptoRow.holds Try.pinned (OpenSpec.upto topLockSpec)

/-- 'tuplelaw1.OnceOnly', WHERE WHAT IT READS IS OF BULK AT MOST 1048576: true; the input reads as it did. -/
def onceOnlyUptoRow : OpenClaim := { program := "ythpemlhlgjdnkaa", sum := "4909944a66f34bf1a5324b0ca37fb4ed3b8a165d0f70ef76c89abe7489f7d3a2", func := "tuplestead/tuplelaw1.OnceOnly", spec := "onceOnly", unfollowed := true, recurses := true, apart := false, narrowed := true }
def OnceOnlyUptoSaid : Prop := onceOnlyUptoRow.holds Try.pinned (OpenSpec.upto onceOnlySpec)

end Rows
end Go.Proofs.Ythpemlhlgjdnkaa
