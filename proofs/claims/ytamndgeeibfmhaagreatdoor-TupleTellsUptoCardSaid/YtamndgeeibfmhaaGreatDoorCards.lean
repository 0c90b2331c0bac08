/-
  DERIVED. GIVEN WITH THE SEED: THE CARDS: each row of YtamndgeeibfmhaaGreatDoorRows.lean that lists a variable, with what it lists TIED to the program's text (the seventh form; the later family's looks); each row that meets fmt, with fmt's text TOLD by the authors' own Lean function (tested against real Go, not proved from fmt's source: count such statements apart). THE CARD IS WHAT COUNTS. Prove the row's statement (the work); the ties are given (YtamndgeeibfmhaaGreatDoorTie.lean); close each card by the builder's one call (the guide's Derived/Test/ToyasCard.lean, 'card_holds'). Laid BY PROGRAM, IN A SANDBOX (cutbox-door.mjs). By AI agents, Wed Nov 11 2026. No macro, syntax, notation, axiom, sorry.
-/
import Derived.Test.YtamndgeeibfmhaaGreatDoorRows
import GoSem.ClaimSeven
namespace Go.Proofs.YtamndgeeibfmhaaGreatDoor
namespace Rows

/-- THE TIED CARD OF 'tuplelaw1.TupleTells'. -/
def tupleTellsCard : Claim7 := { stood := { row := tupleTellsRow, standIns := [], harness := (true, "cba5ac303eac3a9a20b3ca3e462d902aff918c652f566f11daa386ce3eb6bead"), looks := true }, kinds := [], alts := [], laidByText := true, laidKinds := [.data, .data, .data, .data, .handle, .sentinel, .sentinel, .pinned], laidTests := true, laidLooks := .later }
def TupleTellsCardSaid : Prop := Claim7.holds Tryz.pinned (.plain (OpenSpec.ofChange tupleTellsSpec)) tupleTellsCard

/-- THE SECOND FORM's CARD OF 'tuplelaw1.TupleTells'. -/
def tupleTellsUptoCard : Claim7 := { stood := { row := tupleTellsUptoRow, standIns := [], harness := (true, "cba5ac303eac3a9a20b3ca3e462d902aff918c652f566f11daa386ce3eb6bead"), looks := true }, kinds := [], alts := [], laidByText := true, laidKinds := [.data, .data, .data, .data, .handle, .sentinel, .sentinel, .pinned], laidTests := true, laidLooks := .later }
def TupleTellsUptoCardSaid : Prop := Claim7.holds Tryz.pinned (.plain (OpenSpec.upto tupleTellsSpec)) tupleTellsUptoCard
end Rows
end Go.Proofs.YtamndgeeibfmhaaGreatDoor
