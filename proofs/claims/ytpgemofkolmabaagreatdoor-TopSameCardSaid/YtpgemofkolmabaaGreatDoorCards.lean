/-
  DERIVED. GIVEN WITH THE SEED: THE CARDS: each row of YtpgemofkolmabaaGreatDoorRows.lean that lists a variable, with what it lists TIED to the program's text (the seventh form; the later family's looks); each row that meets fmt, with fmt's text TOLD by the authors' own Lean function (tested against real Go, not proved from fmt's source: count such statements apart). THE CARD IS WHAT COUNTS. Prove the row's statement (the work); the ties are given (YtpgemofkolmabaaGreatDoorTie.lean); close each card by the builder's one call (the guide's Derived/Test/ToyasCard.lean, 'card_holds'). Laid BY PROGRAM, IN A SANDBOX (cutbox-door.mjs). By AI agents, Wed Nov 11 2026. No macro, syntax, notation, axiom, sorry.
-/
import Derived.Test.YtpgemofkolmabaaGreatDoorRows
import GoSem.ClaimSeven
namespace Go.Proofs.YtpgemofkolmabaaGreatDoor
namespace Rows

/-- THE TIED CARD OF 'tuplelaw4.LogAgain'. -/
def logAgainCard : Claim7 := { stood := { row := logAgainRow, standIns := [], harness := (true, "958da4f75828cba08d0675a0b8d4c21652faeddfc84d36ba94efa07108dd7365"), looks := true }, kinds := [], alts := [], laidByText := true, laidKinds := [.data, .data, .data, .data, .sentinel, .sentinel, .listed, .data, .pinned], laidTests := true, laidLooks := .later }
def LogAgainCardSaid : Prop := Claim7.holds Tryz.pinned (.plain (OpenSpec.ofChange logAgainSpec)) logAgainCard

/-- THE TIED CARD OF 'tuplelaw3.RunAnswers'. -/
def runAnswersCard : Claim7 := { stood := { row := runAnswersRow, standIns := [], harness := (true, "958da4f75828cba08d0675a0b8d4c21652faeddfc84d36ba94efa07108dd7365"), looks := true }, kinds := [], alts := [], laidByText := true, laidKinds := [.data, .data, .data, .data, .handle, .sentinel, .sentinel, .wider, .pinned], laidTests := true, laidLooks := .later }
def RunAnswersCardSaid : Prop := Claim7.holds Tryz.pinned (.plain (OpenSpec.ofChange runAnswersSpec)) runAnswersCard

/-- THE TIED CARD OF 'tuplelaw3.RunBegins'. -/
def runBeginsCard : Claim7 := { stood := { row := runBeginsRow, standIns := [], harness := (true, "958da4f75828cba08d0675a0b8d4c21652faeddfc84d36ba94efa07108dd7365"), looks := true }, kinds := [], alts := [], laidByText := true, laidKinds := [.data, .data, .data, .data, .handle, .sentinel, .sentinel, .wider, .pinned], laidTests := true, laidLooks := .later }
def RunBeginsCardSaid : Prop := Claim7.holds Tryz.pinned (.plain (OpenSpec.ofChange runBeginsSpec)) runBeginsCard

/-- THE TIED CARD OF 'tuplelaw3.RunTakes'. -/
def runTakesCard : Claim7 := { stood := { row := runTakesRow, standIns := [], harness := (true, "958da4f75828cba08d0675a0b8d4c21652faeddfc84d36ba94efa07108dd7365"), looks := true }, kinds := [], alts := [], laidByText := true, laidKinds := [.data, .data, .data, .data, .handle, .sentinel, .sentinel, .wider, .pinned], laidTests := true, laidLooks := .later }
def RunTakesCardSaid : Prop := Claim7.holds Tryz.pinned (.plain (OpenSpec.ofChange runTakesSpec)) runTakesCard

/-- THE TIED CARD OF 'tuplelaw3.LogStops'. -/
def logStopsCard : Claim7 := { stood := { row := logStopsRow, standIns := [], harness := (true, "958da4f75828cba08d0675a0b8d4c21652faeddfc84d36ba94efa07108dd7365"), looks := true }, kinds := [], alts := [], laidByText := true, laidKinds := [.data, .data, .data, .data, .handle, .sentinel, .sentinel, .listed, .data, .pinned], laidTests := true, laidLooks := .later }
def LogStopsCardSaid : Prop := Claim7.holds Tryz.pinned (.plain (OpenSpec.ofChange logStopsSpec)) logStopsCard

/-- THE TIED CARD OF 'tuplelaw3.LogKeeps'. -/
def logKeepsCard : Claim7 := { stood := { row := logKeepsRow, standIns := [], harness := (true, "958da4f75828cba08d0675a0b8d4c21652faeddfc84d36ba94efa07108dd7365"), looks := true }, kinds := [], alts := [], laidByText := true, laidKinds := [.data, .data, .data, .data, .handle, .sentinel, .sentinel, .listed, .data, .pinned], laidTests := true, laidLooks := .later }
def LogKeepsCardSaid : Prop := Claim7.holds Tryz.pinned (.plain (OpenSpec.ofChange logKeepsSpec)) logKeepsCard

/-- THE TIED CARD OF 'tupletop.TopSame'. -/
def topSameCard : Claim7 := { stood := { row := topSameRow, standIns := [], harness := (true, "958da4f75828cba08d0675a0b8d4c21652faeddfc84d36ba94efa07108dd7365"), looks := true }, kinds := [], alts := [], laidByText := true, laidKinds := [.data, .data, .data, .data, .sentinel, .sentinel, .listed, .data, .pinned], laidTests := true, laidLooks := .later }
def TopSameCardSaid : Prop := Claim7.holds Tryz.pinned (.plain (OpenSpec.ofChange topSameSpec)) topSameCard

/-- THE SECOND FORM's CARD OF 'tuplelaw4.LogAgain'. -/
def logAgainUptoCard : Claim7 := { stood := { row := logAgainUptoRow, standIns := [], harness := (true, "958da4f75828cba08d0675a0b8d4c21652faeddfc84d36ba94efa07108dd7365"), looks := true }, kinds := [], alts := [], laidByText := true, laidKinds := [.data, .data, .data, .data, .sentinel, .sentinel, .listed, .data, .pinned], laidTests := true, laidLooks := .later }
def LogAgainUptoCardSaid : Prop := Claim7.holds Tryz.pinned (.plain (OpenSpec.upto logAgainSpec)) logAgainUptoCard

/-- THE SECOND FORM's CARD OF 'tuplelaw3.RunAnswers'. -/
def runAnswersUptoCard : Claim7 := { stood := { row := runAnswersUptoRow, standIns := [], harness := (true, "958da4f75828cba08d0675a0b8d4c21652faeddfc84d36ba94efa07108dd7365"), looks := true }, kinds := [], alts := [], laidByText := true, laidKinds := [.data, .data, .data, .data, .handle, .sentinel, .sentinel, .wider, .pinned], laidTests := true, laidLooks := .later }
def RunAnswersUptoCardSaid : Prop := Claim7.holds Tryz.pinned (.plain (OpenSpec.upto runAnswersSpec)) runAnswersUptoCard

/-- THE SECOND FORM's CARD OF 'tuplelaw3.RunBegins'. -/
def runBeginsUptoCard : Claim7 := { stood := { row := runBeginsUptoRow, standIns := [], harness := (true, "958da4f75828cba08d0675a0b8d4c21652faeddfc84d36ba94efa07108dd7365"), looks := true }, kinds := [], alts := [], laidByText := true, laidKinds := [.data, .data, .data, .data, .handle, .sentinel, .sentinel, .wider, .pinned], laidTests := true, laidLooks := .later }
def RunBeginsUptoCardSaid : Prop := Claim7.holds Tryz.pinned (.plain (OpenSpec.upto runBeginsSpec)) runBeginsUptoCard

/-- THE SECOND FORM's CARD OF 'tuplelaw3.RunTakes'. -/
def runTakesUptoCard : Claim7 := { stood := { row := runTakesUptoRow, standIns := [], harness := (true, "958da4f75828cba08d0675a0b8d4c21652faeddfc84d36ba94efa07108dd7365"), looks := true }, kinds := [], alts := [], laidByText := true, laidKinds := [.data, .data, .data, .data, .handle, .sentinel, .sentinel, .wider, .pinned], laidTests := true, laidLooks := .later }
def RunTakesUptoCardSaid : Prop := Claim7.holds Tryz.pinned (.plain (OpenSpec.upto runTakesSpec)) runTakesUptoCard

/-- THE SECOND FORM's CARD OF 'tuplelaw3.LogStops'. -/
def logStopsUptoCard : Claim7 := { stood := { row := logStopsUptoRow, standIns := [], harness := (true, "958da4f75828cba08d0675a0b8d4c21652faeddfc84d36ba94efa07108dd7365"), looks := true }, kinds := [], alts := [], laidByText := true, laidKinds := [.data, .data, .data, .data, .handle, .sentinel, .sentinel, .listed, .data, .pinned], laidTests := true, laidLooks := .later }
def LogStopsUptoCardSaid : Prop := Claim7.holds Tryz.pinned (.plain (OpenSpec.upto logStopsSpec)) logStopsUptoCard

/-- THE SECOND FORM's CARD OF 'tuplelaw3.LogKeeps'. -/
def logKeepsUptoCard : Claim7 := { stood := { row := logKeepsUptoRow, standIns := [], harness := (true, "958da4f75828cba08d0675a0b8d4c21652faeddfc84d36ba94efa07108dd7365"), looks := true }, kinds := [], alts := [], laidByText := true, laidKinds := [.data, .data, .data, .data, .handle, .sentinel, .sentinel, .listed, .data, .pinned], laidTests := true, laidLooks := .later }
def LogKeepsUptoCardSaid : Prop := Claim7.holds Tryz.pinned (.plain (OpenSpec.upto logKeepsSpec)) logKeepsUptoCard

/-- THE SECOND FORM's CARD OF 'tupletop.TopSame'. -/
def topSameUptoCard : Claim7 := { stood := { row := topSameUptoRow, standIns := [], harness := (true, "958da4f75828cba08d0675a0b8d4c21652faeddfc84d36ba94efa07108dd7365"), looks := true }, kinds := [], alts := [], laidByText := true, laidKinds := [.data, .data, .data, .data, .sentinel, .sentinel, .listed, .data, .pinned], laidTests := true, laidLooks := .later }
def TopSameUptoCardSaid : Prop := Claim7.holds Tryz.pinned (.plain (OpenSpec.upto topSameSpec)) topSameUptoCard
end Rows
end Go.Proofs.YtpgemofkolmabaaGreatDoor
