/-
  DERIVED. GIVEN WITH THE SEED: THE CARDS: each row of YthkaaheeblehhaaDoorRows.lean that lists a variable, with what it lists TIED to the program's text (the seventh form; the later family's looks); each row that meets fmt, with fmt's text TOLD by the authors' own Lean function (tested against real Go, not proved from fmt's source: count such statements apart). THE CARD IS WHAT COUNTS. Prove the row's statement (the work); the ties are given (YthkaaheeblehhaaDoorTie.lean); close each card by the builder's one call (the guide's Derived/Test/ToyasCard.lean, 'card_holds'). Laid BY PROGRAM, IN A SANDBOX (cutbox-door.mjs). By AI agents, Wed Nov 11 2026. No macro, syntax, notation, axiom, sorry.
-/
import Derived.Test.YthkaaheeblehhaaDoorRows
import GoSem.ClaimSeven
namespace Go.Proofs.YthkaaheeblehhaaDoor
namespace Rows

/-- THE TIED CARD OF 'tuplelaw4.CopyDenied'. -/
def copyDeniedCard : Claim7 := { stood := { row := copyDeniedRow, standIns := [], harness := (true, "ff996cd53720374f44bae910a0098f50be227adaf53622f865b74f831750a467"), looks := true }, kinds := [], alts := [], laidByText := true, laidKinds := [.data, .data, .data], laidTests := true, laidLooks := .later }
def CopyDeniedCardSaid : Prop := Claim7.holds Tryd.pinned (.plain (OpenSpec.ofChange copyDeniedSpec)) copyDeniedCard

/-- THE TIED CARD OF 'tuplelaw2.CopyTwice'. -/
def copyTwiceCard : Claim7 := { stood := { row := copyTwiceRow, standIns := [], harness := (true, "ff996cd53720374f44bae910a0098f50be227adaf53622f865b74f831750a467"), looks := true }, kinds := [], alts := [], laidByText := true, laidKinds := [.data, .data, .data], laidTests := true, laidLooks := .later }
def CopyTwiceCardSaid : Prop := Claim7.holds Tryd.pinned (.plain (OpenSpec.ofChange copyTwiceSpec)) copyTwiceCard

/-- THE TIED CARD OF 'tuplelaw4.CrowdAlone'. -/
def crowdAloneCard : Claim7 := { stood := { row := crowdAloneRow, standIns := [], harness := (true, "ff996cd53720374f44bae910a0098f50be227adaf53622f865b74f831750a467"), looks := true }, kinds := [], alts := [], laidByText := true, laidKinds := [.data, .data, .data], laidTests := true, laidLooks := .later }
def CrowdAloneCardSaid : Prop := Claim7.holds Tryd.pinned (.plain (OpenSpec.ofChange crowdAloneSpec)) crowdAloneCard

/-- THE TIED CARD OF 'tuplelaw2.CrowdTrue'. -/
def crowdTrueCard : Claim7 := { stood := { row := crowdTrueRow, standIns := [], harness := (true, "ff996cd53720374f44bae910a0098f50be227adaf53622f865b74f831750a467"), looks := true }, kinds := [], alts := [], laidByText := true, laidKinds := [.data, .data, .data], laidTests := true, laidLooks := .later }
def CrowdTrueCardSaid : Prop := Claim7.holds Tryd.pinned (.plain (OpenSpec.ofChange crowdTrueSpec)) crowdTrueCard

/-- THE TIED CARD OF 'tupletop.TopHidden'. -/
def topHiddenCard : Claim7 := { stood := { row := topHiddenRow, standIns := [], harness := (true, "ff996cd53720374f44bae910a0098f50be227adaf53622f865b74f831750a467"), looks := true }, kinds := [], alts := [], laidByText := true, laidKinds := [.data, .data, .data], laidTests := true, laidLooks := .later }
def TopHiddenCardSaid : Prop := Claim7.holds Tryd.pinned (.plain (OpenSpec.ofChange topHiddenSpec)) topHiddenCard

/-- THE TIED CARD OF 'tuplelaw2.VaultPlays'. -/
def vaultPlaysCard : Claim7 := { stood := { row := vaultPlaysRow, standIns := [], harness := (true, "ff996cd53720374f44bae910a0098f50be227adaf53622f865b74f831750a467"), looks := true }, kinds := [], alts := [], laidByText := true, laidKinds := [.handle], laidTests := true, laidLooks := .later }
def VaultPlaysCardSaid : Prop := Claim7.holds Tryd.pinned (.plain (OpenSpec.ofChange vaultPlaysSpec)) vaultPlaysCard

/-- THE SECOND FORM's CARD OF 'tuplelaw4.CopyDenied'. -/
def copyDeniedUptoCard : Claim7 := { stood := { row := copyDeniedUptoRow, standIns := [], harness := (true, "ff996cd53720374f44bae910a0098f50be227adaf53622f865b74f831750a467"), looks := true }, kinds := [], alts := [], laidByText := true, laidKinds := [.data, .data, .data], laidTests := true, laidLooks := .later }
def CopyDeniedUptoCardSaid : Prop := Claim7.holds Tryd.pinned (.plain (OpenSpec.upto copyDeniedSpec)) copyDeniedUptoCard

/-- THE SECOND FORM's CARD OF 'tuplelaw2.CopyTwice'. -/
def copyTwiceUptoCard : Claim7 := { stood := { row := copyTwiceUptoRow, standIns := [], harness := (true, "ff996cd53720374f44bae910a0098f50be227adaf53622f865b74f831750a467"), looks := true }, kinds := [], alts := [], laidByText := true, laidKinds := [.data, .data, .data], laidTests := true, laidLooks := .later }
def CopyTwiceUptoCardSaid : Prop := Claim7.holds Tryd.pinned (.plain (OpenSpec.upto copyTwiceSpec)) copyTwiceUptoCard

/-- THE SECOND FORM's CARD OF 'tuplelaw4.CrowdAlone'. -/
def crowdAloneUptoCard : Claim7 := { stood := { row := crowdAloneUptoRow, standIns := [], harness := (true, "ff996cd53720374f44bae910a0098f50be227adaf53622f865b74f831750a467"), looks := true }, kinds := [], alts := [], laidByText := true, laidKinds := [.data, .data, .data], laidTests := true, laidLooks := .later }
def CrowdAloneUptoCardSaid : Prop := Claim7.holds Tryd.pinned (.plain (OpenSpec.upto crowdAloneSpec)) crowdAloneUptoCard

/-- THE SECOND FORM's CARD OF 'tuplelaw2.CrowdTrue'. -/
def crowdTrueUptoCard : Claim7 := { stood := { row := crowdTrueUptoRow, standIns := [], harness := (true, "ff996cd53720374f44bae910a0098f50be227adaf53622f865b74f831750a467"), looks := true }, kinds := [], alts := [], laidByText := true, laidKinds := [.data, .data, .data], laidTests := true, laidLooks := .later }
def CrowdTrueUptoCardSaid : Prop := Claim7.holds Tryd.pinned (.plain (OpenSpec.upto crowdTrueSpec)) crowdTrueUptoCard

/-- THE SECOND FORM's CARD OF 'tupletop.TopHidden'. -/
def topHiddenUptoCard : Claim7 := { stood := { row := topHiddenUptoRow, standIns := [], harness := (true, "ff996cd53720374f44bae910a0098f50be227adaf53622f865b74f831750a467"), looks := true }, kinds := [], alts := [], laidByText := true, laidKinds := [.data, .data, .data], laidTests := true, laidLooks := .later }
def TopHiddenUptoCardSaid : Prop := Claim7.holds Tryd.pinned (.plain (OpenSpec.upto topHiddenSpec)) topHiddenUptoCard

/-- THE SECOND FORM's CARD OF 'tuplelaw2.VaultPlays'. -/
def vaultPlaysUptoCard : Claim7 := { stood := { row := vaultPlaysUptoRow, standIns := [], harness := (true, "ff996cd53720374f44bae910a0098f50be227adaf53622f865b74f831750a467"), looks := true }, kinds := [], alts := [], laidByText := true, laidKinds := [.handle], laidTests := true, laidLooks := .later }
def VaultPlaysUptoCardSaid : Prop := Claim7.holds Tryd.pinned (.plain (OpenSpec.upto vaultPlaysSpec)) vaultPlaysUptoCard
end Rows
end Go.Proofs.YthkaaheeblehhaaDoor
