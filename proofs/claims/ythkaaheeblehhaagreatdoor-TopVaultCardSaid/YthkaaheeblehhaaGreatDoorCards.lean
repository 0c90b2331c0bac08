/-
  DERIVED. GIVEN WITH THE SEED: THE CARDS: each row of YthkaaheeblehhaaGreatDoorRows.lean that lists a variable, with what it lists TIED to the program's text (the seventh form; the later family's looks); each row that meets fmt, with fmt's text TOLD by the authors' own Lean function (tested against real Go, not proved from fmt's source: count such statements apart). THE CARD IS WHAT COUNTS. Prove the row's statement (the work); the ties are given (YthkaaheeblehhaaGreatDoorTie.lean); close each card by the builder's one call (the guide's Derived/Test/ToyasCard.lean, 'card_holds'). Laid BY PROGRAM, IN A SANDBOX (cutbox-door.mjs). By AI agents, Wed Nov 11 2026. No macro, syntax, notation, axiom, sorry.
-/
import Derived.Test.YthkaaheeblehhaaGreatDoorRows
import GoSem.ClaimSeven
namespace Go.Proofs.YthkaaheeblehhaaGreatDoor
namespace Rows

/-- THE TIED CARD OF 'tuplelaw2.CopyPlays'. -/
def copyPlaysCard : Claim7 := { stood := { row := copyPlaysRow, standIns := [], harness := (true, "17f73c032974a690fa118aaa757a344e5236063c1ed7434631d3bfda7dddcffc"), looks := true }, kinds := [], alts := [], laidByText := true, laidKinds := [.data, .data, .data, .handle], laidTests := true, laidLooks := .later }
def CopyPlaysCardSaid : Prop := Claim7.holds Tryz.pinned (.plain (OpenSpec.ofChange copyPlaysSpec)) copyPlaysCard

/-- THE TIED CARD OF 'tuplelaw2.CrowdPlays'. -/
def crowdPlaysCard : Claim7 := { stood := { row := crowdPlaysRow, standIns := [], harness := (true, "17f73c032974a690fa118aaa757a344e5236063c1ed7434631d3bfda7dddcffc"), looks := true }, kinds := [], alts := [], laidByText := true, laidKinds := [.data, .data, .data, .handle], laidTests := true, laidLooks := .later }
def CrowdPlaysCardSaid : Prop := Claim7.holds Tryz.pinned (.plain (OpenSpec.ofChange crowdPlaysSpec)) crowdPlaysCard

/-- THE TIED CARD OF 'tupletop.TopVault'. -/
def topVaultCard : Claim7 := { stood := { row := topVaultRow, standIns := [], harness := (true, "17f73c032974a690fa118aaa757a344e5236063c1ed7434631d3bfda7dddcffc"), looks := true }, kinds := [], alts := [], laidByText := true, laidKinds := [.data, .data, .data, .handle], laidTests := true, laidLooks := .later }
def TopVaultCardSaid : Prop := Claim7.holds Tryz.pinned (.plain (OpenSpec.ofChange topVaultSpec)) topVaultCard

/-- THE SECOND FORM's CARD OF 'tuplelaw2.CopyPlays'. -/
def copyPlaysUptoCard : Claim7 := { stood := { row := copyPlaysUptoRow, standIns := [], harness := (true, "17f73c032974a690fa118aaa757a344e5236063c1ed7434631d3bfda7dddcffc"), looks := true }, kinds := [], alts := [], laidByText := true, laidKinds := [.data, .data, .data, .handle], laidTests := true, laidLooks := .later }
def CopyPlaysUptoCardSaid : Prop := Claim7.holds Tryz.pinned (.plain (OpenSpec.upto copyPlaysSpec)) copyPlaysUptoCard

/-- THE SECOND FORM's CARD OF 'tuplelaw2.CrowdPlays'. -/
def crowdPlaysUptoCard : Claim7 := { stood := { row := crowdPlaysUptoRow, standIns := [], harness := (true, "17f73c032974a690fa118aaa757a344e5236063c1ed7434631d3bfda7dddcffc"), looks := true }, kinds := [], alts := [], laidByText := true, laidKinds := [.data, .data, .data, .handle], laidTests := true, laidLooks := .later }
def CrowdPlaysUptoCardSaid : Prop := Claim7.holds Tryz.pinned (.plain (OpenSpec.upto crowdPlaysSpec)) crowdPlaysUptoCard

/-- THE SECOND FORM's CARD OF 'tupletop.TopVault'. -/
def topVaultUptoCard : Claim7 := { stood := { row := topVaultUptoRow, standIns := [], harness := (true, "17f73c032974a690fa118aaa757a344e5236063c1ed7434631d3bfda7dddcffc"), looks := true }, kinds := [], alts := [], laidByText := true, laidKinds := [.data, .data, .data, .handle], laidTests := true, laidLooks := .later }
def TopVaultUptoCardSaid : Prop := Claim7.holds Tryz.pinned (.plain (OpenSpec.upto topVaultSpec)) topVaultUptoCard
end Rows
end Go.Proofs.YthkaaheeblehhaaGreatDoor
