/-
  DERIVED. GIVEN WITH THE SEED: THE CARDS: each row of YthpemlhlgjdnkaaDoorRows.lean that lists a variable, with what it lists TIED to the program's text (the seventh form; the later family's looks); each row that meets fmt, with fmt's text TOLD by the authors' own Lean function (tested against real Go, not proved from fmt's source: count such statements apart). THE CARD IS WHAT COUNTS. Prove the row's statement (the work); the ties are given (YthpemlhlgjdnkaaDoorTie.lean); close each card by the builder's one call (the guide's Derived/Test/ToyasCard.lean, 'card_holds'). Laid BY PROGRAM, IN A SANDBOX (cutbox-door.mjs). By AI agents, Wed Nov 11 2026. No macro, syntax, notation, axiom, sorry.
-/
import Derived.Test.YthpemlhlgjdnkaaDoorRows
import GoSem.ClaimSeven
namespace Go.Proofs.YthpemlhlgjdnkaaDoor
namespace Rows

/-- THE TIED CARD OF 'tuplelaw4.QueueGap'. -/
def queueGapCard : Claim7 := { stood := { row := queueGapRow, standIns := [], harness := (true, "7278aaaac24400180e43541ec7eade86bb6d344203c5e424608493949a38b5e8"), looks := true }, kinds := [], alts := [], laidByText := true, laidKinds := [.handle], laidTests := true, laidLooks := .later }
def QueueGapCardSaid : Prop := Claim7.holds Tryd.pinned (.plain (OpenSpec.ofChange queueGapSpec)) queueGapCard

/-- THE TIED CARD OF 'tuplelaw2.QueueOnce'. -/
def queueOnceCard : Claim7 := { stood := { row := queueOnceRow, standIns := [], harness := (true, "7278aaaac24400180e43541ec7eade86bb6d344203c5e424608493949a38b5e8"), looks := true }, kinds := [], alts := [], laidByText := true, laidKinds := [.handle], laidTests := true, laidLooks := .later }
def QueueOnceCardSaid : Prop := Claim7.holds Tryd.pinned (.plain (OpenSpec.ofChange queueOnceSpec)) queueOnceCard

/-- THE TIED CARD OF 'tuplelaw2.QueuePlays'. -/
def queuePlaysCard : Claim7 := { stood := { row := queuePlaysRow, standIns := [], harness := (true, "7278aaaac24400180e43541ec7eade86bb6d344203c5e424608493949a38b5e8"), looks := true }, kinds := [], alts := [], laidByText := true, laidKinds := [.handle], laidTests := true, laidLooks := .later }
def QueuePlaysCardSaid : Prop := Claim7.holds Tryd.pinned (.plain (OpenSpec.ofChange queuePlaysSpec)) queuePlaysCard

/-- THE TIED CARD OF 'tuplelaw4.SpaceFull'. -/
def spaceFullCard : Claim7 := { stood := { row := spaceFullRow, standIns := [], harness := (true, "7278aaaac24400180e43541ec7eade86bb6d344203c5e424608493949a38b5e8"), looks := true }, kinds := [], alts := [], laidByText := true, laidKinds := [.handle], laidTests := true, laidLooks := .later }
def SpaceFullCardSaid : Prop := Claim7.holds Tryd.pinned (.plain (OpenSpec.ofChange spaceFullSpec)) spaceFullCard

/-- THE TIED CARD OF 'tuplelaw4.PrintOne'. -/
def printOneCard : Claim7 := { stood := { row := printOneRow, standIns := [], harness := (true, "7278aaaac24400180e43541ec7eade86bb6d344203c5e424608493949a38b5e8"), looks := true }, kinds := [], alts := [], laidByText := true, laidKinds := [.data, .data, .data], laidTests := true, laidLooks := .later }
def PrintOneCardSaid : Prop := Claim7.holds Tryd.pinned (.plain (OpenSpec.ofChange printOneSpec)) printOneCard

/-- THE TIED CARD OF 'tuplelaw4.RuleNone'. -/
def ruleNoneCard : Claim7 := { stood := { row := ruleNoneRow, standIns := [], harness := (true, "7278aaaac24400180e43541ec7eade86bb6d344203c5e424608493949a38b5e8"), looks := true }, kinds := [], alts := [], laidByText := true, laidKinds := [.handle], laidTests := true, laidLooks := .later }
def RuleNoneCardSaid : Prop := Claim7.holds Tryd.pinned (.plain (OpenSpec.ofChange ruleNoneSpec)) ruleNoneCard

/-- THE TIED CARD OF 'tuplelaw2.RuleTells'. -/
def ruleTellsCard : Claim7 := { stood := { row := ruleTellsRow, standIns := [], harness := (true, "7278aaaac24400180e43541ec7eade86bb6d344203c5e424608493949a38b5e8"), looks := true }, kinds := [], alts := [], laidByText := true, laidKinds := [.handle], laidTests := true, laidLooks := .later }
def RuleTellsCardSaid : Prop := Claim7.holds Tryd.pinned (.plain (OpenSpec.ofChange ruleTellsSpec)) ruleTellsCard

/-- THE TIED CARD OF 'tuplelaw2.RuleFirst'. -/
def ruleFirstCard : Claim7 := { stood := { row := ruleFirstRow, standIns := [], harness := (true, "7278aaaac24400180e43541ec7eade86bb6d344203c5e424608493949a38b5e8"), looks := true }, kinds := [], alts := [], laidByText := true, laidKinds := [.handle], laidTests := true, laidLooks := .later }
def RuleFirstCardSaid : Prop := Claim7.holds Tryd.pinned (.plain (OpenSpec.ofChange ruleFirstSpec)) ruleFirstCard

/-- THE TIED CARD OF 'tuplelaw1.LeaseEnds'. -/
def leaseEndsCard : Claim7 := { stood := { row := leaseEndsRow, standIns := [], harness := (true, "7278aaaac24400180e43541ec7eade86bb6d344203c5e424608493949a38b5e8"), looks := true }, kinds := [], alts := [], laidByText := true, laidKinds := [.handle], laidTests := true, laidLooks := .later }
def LeaseEndsCardSaid : Prop := Claim7.holds Tryd.pinned (.plain (OpenSpec.ofChange leaseEndsSpec)) leaseEndsCard

/-- THE TIED CARD OF 'tuplelaw1.LeasePlays'. -/
def leasePlaysCard : Claim7 := { stood := { row := leasePlaysRow, standIns := [], harness := (true, "7278aaaac24400180e43541ec7eade86bb6d344203c5e424608493949a38b5e8"), looks := true }, kinds := [], alts := [], laidByText := true, laidKinds := [.handle], laidTests := true, laidLooks := .later }
def LeasePlaysCardSaid : Prop := Claim7.holds Tryd.pinned (.plain (OpenSpec.ofChange leasePlaysSpec)) leasePlaysCard

/-- THE TIED CARD OF 'tuplelaw1.SpacePlays'. -/
def spacePlaysCard : Claim7 := { stood := { row := spacePlaysRow, standIns := [], harness := (true, "7278aaaac24400180e43541ec7eade86bb6d344203c5e424608493949a38b5e8"), looks := true }, kinds := [], alts := [], laidByText := true, laidKinds := [.handle], laidTests := true, laidLooks := .later }
def SpacePlaysCardSaid : Prop := Claim7.holds Tryd.pinned (.plain (OpenSpec.ofChange spacePlaysSpec)) spacePlaysCard

/-- THE TIED CARD OF 'tuplelaw1.SpaceKeeps'. -/
def spaceKeepsCard : Claim7 := { stood := { row := spaceKeepsRow, standIns := [], harness := (true, "7278aaaac24400180e43541ec7eade86bb6d344203c5e424608493949a38b5e8"), looks := true }, kinds := [], alts := [], laidByText := true, laidKinds := [.handle], laidTests := true, laidLooks := .later }
def SpaceKeepsCardSaid : Prop := Claim7.holds Tryd.pinned (.plain (OpenSpec.ofChange spaceKeepsSpec)) spaceKeepsCard

/-- THE TIED CARD OF 'tuplelaw4.CoverClosed'. -/
def coverClosedCard : Claim7 := { stood := { row := coverClosedRow, standIns := [], harness := (true, "7278aaaac24400180e43541ec7eade86bb6d344203c5e424608493949a38b5e8"), looks := true }, kinds := [], alts := [], laidByText := true, laidKinds := [.data, .data, .data], laidTests := true, laidLooks := .later }
def CoverClosedCardSaid : Prop := Claim7.holds Tryd.pinned (.plain (OpenSpec.ofChange coverClosedSpec)) coverClosedCard

/-- THE TIED CARD OF 'tuplelaw2.CoverFinds'. -/
def coverFindsCard : Claim7 := { stood := { row := coverFindsRow, standIns := [], harness := (true, "7278aaaac24400180e43541ec7eade86bb6d344203c5e424608493949a38b5e8"), looks := true }, kinds := [], alts := [], laidByText := true, laidKinds := [.data, .data, .data], laidTests := true, laidLooks := .later }
def CoverFindsCardSaid : Prop := Claim7.holds Tryd.pinned (.plain (OpenSpec.ofChange coverFindsSpec)) coverFindsCard

/-- THE TIED CARD OF 'tuplelaw1.OncePlays'. -/
def oncePlaysCard : Claim7 := { stood := { row := oncePlaysRow, standIns := [], harness := (true, "7278aaaac24400180e43541ec7eade86bb6d344203c5e424608493949a38b5e8"), looks := true }, kinds := [], alts := [], laidByText := true, laidKinds := [.handle], laidTests := true, laidLooks := .later }
def OncePlaysCardSaid : Prop := Claim7.holds Tryd.pinned (.plain (OpenSpec.ofChange oncePlaysSpec)) oncePlaysCard

/-- THE TIED CARD OF 'tuplelaw1.PrintSame'. -/
def printSameCard : Claim7 := { stood := { row := printSameRow, standIns := [], harness := (true, "7278aaaac24400180e43541ec7eade86bb6d344203c5e424608493949a38b5e8"), looks := true }, kinds := [], alts := [], laidByText := true, laidKinds := [.data, .data, .data], laidTests := true, laidLooks := .later }
def PrintSameCardSaid : Prop := Claim7.holds Tryd.pinned (.plain (OpenSpec.ofChange printSameSpec)) printSameCard

/-- THE TIED CARD OF 'tuplelaw2.CoverTells'. -/
def coverTellsCard : Claim7 := { stood := { row := coverTellsRow, standIns := [], harness := (true, "7278aaaac24400180e43541ec7eade86bb6d344203c5e424608493949a38b5e8"), looks := true }, kinds := [], alts := [], laidByText := true, laidKinds := [.data, .data, .data, .handle], laidTests := true, laidLooks := .later }
def CoverTellsCardSaid : Prop := Claim7.holds Tryd.pinned (.plain (OpenSpec.ofChange coverTellsSpec)) coverTellsCard

/-- THE TIED CARD OF 'tuplelaw1.PrintTells'. -/
def printTellsCard : Claim7 := { stood := { row := printTellsRow, standIns := [], harness := (true, "7278aaaac24400180e43541ec7eade86bb6d344203c5e424608493949a38b5e8"), looks := true }, kinds := [], alts := [], laidByText := true, laidKinds := [.data, .data, .data, .handle], laidTests := true, laidLooks := .later }
def PrintTellsCardSaid : Prop := Claim7.holds Tryd.pinned (.plain (OpenSpec.ofChange printTellsSpec)) printTellsCard

/-- THE SECOND FORM's CARD OF 'tuplelaw4.QueueGap'. -/
def queueGapUptoCard : Claim7 := { stood := { row := queueGapUptoRow, standIns := [], harness := (true, "7278aaaac24400180e43541ec7eade86bb6d344203c5e424608493949a38b5e8"), looks := true }, kinds := [], alts := [], laidByText := true, laidKinds := [.handle], laidTests := true, laidLooks := .later }
def QueueGapUptoCardSaid : Prop := Claim7.holds Tryd.pinned (.plain (OpenSpec.upto queueGapSpec)) queueGapUptoCard

/-- THE SECOND FORM's CARD OF 'tuplelaw2.QueueOnce'. -/
def queueOnceUptoCard : Claim7 := { stood := { row := queueOnceUptoRow, standIns := [], harness := (true, "7278aaaac24400180e43541ec7eade86bb6d344203c5e424608493949a38b5e8"), looks := true }, kinds := [], alts := [], laidByText := true, laidKinds := [.handle], laidTests := true, laidLooks := .later }
def QueueOnceUptoCardSaid : Prop := Claim7.holds Tryd.pinned (.plain (OpenSpec.upto queueOnceSpec)) queueOnceUptoCard

/-- THE SECOND FORM's CARD OF 'tuplelaw2.QueuePlays'. -/
def queuePlaysUptoCard : Claim7 := { stood := { row := queuePlaysUptoRow, standIns := [], harness := (true, "7278aaaac24400180e43541ec7eade86bb6d344203c5e424608493949a38b5e8"), looks := true }, kinds := [], alts := [], laidByText := true, laidKinds := [.handle], laidTests := true, laidLooks := .later }
def QueuePlaysUptoCardSaid : Prop := Claim7.holds Tryd.pinned (.plain (OpenSpec.upto queuePlaysSpec)) queuePlaysUptoCard

/-- THE SECOND FORM's CARD OF 'tuplelaw4.SpaceFull'. -/
def spaceFullUptoCard : Claim7 := { stood := { row := spaceFullUptoRow, standIns := [], harness := (true, "7278aaaac24400180e43541ec7eade86bb6d344203c5e424608493949a38b5e8"), looks := true }, kinds := [], alts := [], laidByText := true, laidKinds := [.handle], laidTests := true, laidLooks := .later }
def SpaceFullUptoCardSaid : Prop := Claim7.holds Tryd.pinned (.plain (OpenSpec.upto spaceFullSpec)) spaceFullUptoCard

/-- THE SECOND FORM's CARD OF 'tuplelaw4.PrintOne'. -/
def printOneUptoCard : Claim7 := { stood := { row := printOneUptoRow, standIns := [], harness := (true, "7278aaaac24400180e43541ec7eade86bb6d344203c5e424608493949a38b5e8"), looks := true }, kinds := [], alts := [], laidByText := true, laidKinds := [.data, .data, .data], laidTests := true, laidLooks := .later }
def PrintOneUptoCardSaid : Prop := Claim7.holds Tryd.pinned (.plain (OpenSpec.upto printOneSpec)) printOneUptoCard

/-- THE SECOND FORM's CARD OF 'tuplelaw4.RuleNone'. -/
def ruleNoneUptoCard : Claim7 := { stood := { row := ruleNoneUptoRow, standIns := [], harness := (true, "7278aaaac24400180e43541ec7eade86bb6d344203c5e424608493949a38b5e8"), looks := true }, kinds := [], alts := [], laidByText := true, laidKinds := [.handle], laidTests := true, laidLooks := .later }
def RuleNoneUptoCardSaid : Prop := Claim7.holds Tryd.pinned (.plain (OpenSpec.upto ruleNoneSpec)) ruleNoneUptoCard

/-- THE SECOND FORM's CARD OF 'tuplelaw2.RuleTells'. -/
def ruleTellsUptoCard : Claim7 := { stood := { row := ruleTellsUptoRow, standIns := [], harness := (true, "7278aaaac24400180e43541ec7eade86bb6d344203c5e424608493949a38b5e8"), looks := true }, kinds := [], alts := [], laidByText := true, laidKinds := [.handle], laidTests := true, laidLooks := .later }
def RuleTellsUptoCardSaid : Prop := Claim7.holds Tryd.pinned (.plain (OpenSpec.upto ruleTellsSpec)) ruleTellsUptoCard

/-- THE SECOND FORM's CARD OF 'tuplelaw2.RuleFirst'. -/
def ruleFirstUptoCard : Claim7 := { stood := { row := ruleFirstUptoRow, standIns := [], harness := (true, "7278aaaac24400180e43541ec7eade86bb6d344203c5e424608493949a38b5e8"), looks := true }, kinds := [], alts := [], laidByText := true, laidKinds := [.handle], laidTests := true, laidLooks := .later }
def RuleFirstUptoCardSaid : Prop := Claim7.holds Tryd.pinned (.plain (OpenSpec.upto ruleFirstSpec)) ruleFirstUptoCard

/-- THE SECOND FORM's CARD OF 'tuplelaw1.LeaseEnds'. -/
def leaseEndsUptoCard : Claim7 := { stood := { row := leaseEndsUptoRow, standIns := [], harness := (true, "7278aaaac24400180e43541ec7eade86bb6d344203c5e424608493949a38b5e8"), looks := true }, kinds := [], alts := [], laidByText := true, laidKinds := [.handle], laidTests := true, laidLooks := .later }
def LeaseEndsUptoCardSaid : Prop := Claim7.holds Tryd.pinned (.plain (OpenSpec.upto leaseEndsSpec)) leaseEndsUptoCard

/-- THE SECOND FORM's CARD OF 'tuplelaw1.LeasePlays'. -/
def leasePlaysUptoCard : Claim7 := { stood := { row := leasePlaysUptoRow, standIns := [], harness := (true, "7278aaaac24400180e43541ec7eade86bb6d344203c5e424608493949a38b5e8"), looks := true }, kinds := [], alts := [], laidByText := true, laidKinds := [.handle], laidTests := true, laidLooks := .later }
def LeasePlaysUptoCardSaid : Prop := Claim7.holds Tryd.pinned (.plain (OpenSpec.upto leasePlaysSpec)) leasePlaysUptoCard

/-- THE SECOND FORM's CARD OF 'tuplelaw1.SpacePlays'. -/
def spacePlaysUptoCard : Claim7 := { stood := { row := spacePlaysUptoRow, standIns := [], harness := (true, "7278aaaac24400180e43541ec7eade86bb6d344203c5e424608493949a38b5e8"), looks := true }, kinds := [], alts := [], laidByText := true, laidKinds := [.handle], laidTests := true, laidLooks := .later }
def SpacePlaysUptoCardSaid : Prop := Claim7.holds Tryd.pinned (.plain (OpenSpec.upto spacePlaysSpec)) spacePlaysUptoCard

/-- THE SECOND FORM's CARD OF 'tuplelaw1.SpaceKeeps'. -/
def spaceKeepsUptoCard : Claim7 := { stood := { row := spaceKeepsUptoRow, standIns := [], harness := (true, "7278aaaac24400180e43541ec7eade86bb6d344203c5e424608493949a38b5e8"), looks := true }, kinds := [], alts := [], laidByText := true, laidKinds := [.handle], laidTests := true, laidLooks := .later }
def SpaceKeepsUptoCardSaid : Prop := Claim7.holds Tryd.pinned (.plain (OpenSpec.upto spaceKeepsSpec)) spaceKeepsUptoCard

/-- THE SECOND FORM's CARD OF 'tuplelaw4.CoverClosed'. -/
def coverClosedUptoCard : Claim7 := { stood := { row := coverClosedUptoRow, standIns := [], harness := (true, "7278aaaac24400180e43541ec7eade86bb6d344203c5e424608493949a38b5e8"), looks := true }, kinds := [], alts := [], laidByText := true, laidKinds := [.data, .data, .data], laidTests := true, laidLooks := .later }
def CoverClosedUptoCardSaid : Prop := Claim7.holds Tryd.pinned (.plain (OpenSpec.upto coverClosedSpec)) coverClosedUptoCard

/-- THE SECOND FORM's CARD OF 'tuplelaw2.CoverFinds'. -/
def coverFindsUptoCard : Claim7 := { stood := { row := coverFindsUptoRow, standIns := [], harness := (true, "7278aaaac24400180e43541ec7eade86bb6d344203c5e424608493949a38b5e8"), looks := true }, kinds := [], alts := [], laidByText := true, laidKinds := [.data, .data, .data], laidTests := true, laidLooks := .later }
def CoverFindsUptoCardSaid : Prop := Claim7.holds Tryd.pinned (.plain (OpenSpec.upto coverFindsSpec)) coverFindsUptoCard

/-- THE SECOND FORM's CARD OF 'tuplelaw1.OncePlays'. -/
def oncePlaysUptoCard : Claim7 := { stood := { row := oncePlaysUptoRow, standIns := [], harness := (true, "7278aaaac24400180e43541ec7eade86bb6d344203c5e424608493949a38b5e8"), looks := true }, kinds := [], alts := [], laidByText := true, laidKinds := [.handle], laidTests := true, laidLooks := .later }
def OncePlaysUptoCardSaid : Prop := Claim7.holds Tryd.pinned (.plain (OpenSpec.upto oncePlaysSpec)) oncePlaysUptoCard

/-- THE SECOND FORM's CARD OF 'tuplelaw1.PrintSame'. -/
def printSameUptoCard : Claim7 := { stood := { row := printSameUptoRow, standIns := [], harness := (true, "7278aaaac24400180e43541ec7eade86bb6d344203c5e424608493949a38b5e8"), looks := true }, kinds := [], alts := [], laidByText := true, laidKinds := [.data, .data, .data], laidTests := true, laidLooks := .later }
def PrintSameUptoCardSaid : Prop := Claim7.holds Tryd.pinned (.plain (OpenSpec.upto printSameSpec)) printSameUptoCard

/-- THE SECOND FORM's CARD OF 'tuplelaw2.CoverTells'. -/
def coverTellsUptoCard : Claim7 := { stood := { row := coverTellsUptoRow, standIns := [], harness := (true, "7278aaaac24400180e43541ec7eade86bb6d344203c5e424608493949a38b5e8"), looks := true }, kinds := [], alts := [], laidByText := true, laidKinds := [.data, .data, .data, .handle], laidTests := true, laidLooks := .later }
def CoverTellsUptoCardSaid : Prop := Claim7.holds Tryd.pinned (.plain (OpenSpec.upto coverTellsSpec)) coverTellsUptoCard

/-- THE SECOND FORM's CARD OF 'tuplelaw1.PrintTells'. -/
def printTellsUptoCard : Claim7 := { stood := { row := printTellsUptoRow, standIns := [], harness := (true, "7278aaaac24400180e43541ec7eade86bb6d344203c5e424608493949a38b5e8"), looks := true }, kinds := [], alts := [], laidByText := true, laidKinds := [.data, .data, .data, .handle], laidTests := true, laidLooks := .later }
def PrintTellsUptoCardSaid : Prop := Claim7.holds Tryd.pinned (.plain (OpenSpec.upto printTellsSpec)) printTellsUptoCard
end Rows
end Go.Proofs.YthpemlhlgjdnkaaDoor
