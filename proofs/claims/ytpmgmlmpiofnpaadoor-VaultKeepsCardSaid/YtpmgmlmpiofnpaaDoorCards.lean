/-
  DERIVED. GIVEN WITH THE SEED: THE CARDS: each row of YtpmgmlmpiofnpaaDoorRows.lean that lists a variable, with what it lists TIED to the program's text (the seventh form; the later family's looks); each row that meets fmt, with fmt's text TOLD by the authors' own Lean function (tested against real Go, not proved from fmt's source: count such statements apart). THE CARD IS WHAT COUNTS. Prove the row's statement (the work); the ties are given (YtpmgmlmpiofnpaaDoorTie.lean); close each card by the builder's one call (the guide's Derived/Test/ToyasCard.lean, 'card_holds'). Laid BY PROGRAM, IN A SANDBOX (cutbox-door.mjs). By AI agents, Wed Nov 11 2026. No macro, syntax, notation, axiom, sorry.
-/
import Derived.Test.YtpmgmlmpiofnpaaDoorRows
import GoSem.ClaimSeven
namespace Go.Proofs.YtpmgmlmpiofnpaaDoor
namespace Rows

/-- THE TIED CARD OF 'tuplelaw2.VoteTells'. -/
def voteTellsCard : Claim7 := { stood := { row := voteTellsRow, standIns := [], harness := (true, "797fd6da55067e9e4818d1fad3758af7623754331a5b5363df6765a259df06a3"), looks := true }, kinds := [], alts := [], laidByText := true, laidKinds := [.handle], laidTests := true, laidLooks := .later }
def VoteTellsCardSaid : Prop := Claim7.holds Tryd.pinned (.plain (OpenSpec.ofChange voteTellsSpec)) voteTellsCard

/-- THE TIED CARD OF 'tuplelaw1.ModTells'. -/
def modTellsCard : Claim7 := { stood := { row := modTellsRow, standIns := [], harness := (true, "797fd6da55067e9e4818d1fad3758af7623754331a5b5363df6765a259df06a3"), looks := true }, kinds := [], alts := [], laidByText := true, laidKinds := [.handle], laidTests := true, laidLooks := .later }
def ModTellsCardSaid : Prop := Claim7.holds Tryd.pinned (.plain (OpenSpec.ofChange modTellsSpec)) modTellsCard

/-- THE TIED CARD OF 'tuplelaw1.ProofTells'. -/
def proofTellsCard : Claim7 := { stood := { row := proofTellsRow, standIns := [], harness := (true, "797fd6da55067e9e4818d1fad3758af7623754331a5b5363df6765a259df06a3"), looks := true }, kinds := [], alts := [], laidByText := true, laidKinds := [.handle], laidTests := true, laidLooks := .later }
def ProofTellsCardSaid : Prop := Claim7.holds Tryd.pinned (.plain (OpenSpec.ofChange proofTellsSpec)) proofTellsCard

/-- THE TIED CARD OF 'tuplelaw1.PolyTells'. -/
def polyTellsCard : Claim7 := { stood := { row := polyTellsRow, standIns := [], harness := (true, "797fd6da55067e9e4818d1fad3758af7623754331a5b5363df6765a259df06a3"), looks := true }, kinds := [], alts := [], laidByText := true, laidKinds := [.handle], laidTests := true, laidLooks := .later }
def PolyTellsCardSaid : Prop := Claim7.holds Tryd.pinned (.plain (OpenSpec.ofChange polyTellsSpec)) polyTellsCard

/-- THE TIED CARD OF 'tuplelaw1.ShareTells'. -/
def shareTellsCard : Claim7 := { stood := { row := shareTellsRow, standIns := [], harness := (true, "797fd6da55067e9e4818d1fad3758af7623754331a5b5363df6765a259df06a3"), looks := true }, kinds := [], alts := [], laidByText := true, laidKinds := [.handle], laidTests := true, laidLooks := .later }
def ShareTellsCardSaid : Prop := Claim7.holds Tryd.pinned (.plain (OpenSpec.ofChange shareTellsSpec)) shareTellsCard

/-- THE TIED CARD OF 'tuplelaw2.SealTells'. -/
def sealTellsCard : Claim7 := { stood := { row := sealTellsRow, standIns := [], harness := (true, "797fd6da55067e9e4818d1fad3758af7623754331a5b5363df6765a259df06a3"), looks := true }, kinds := [], alts := [], laidByText := true, laidKinds := [.handle], laidTests := true, laidLooks := .later }
def SealTellsCardSaid : Prop := Claim7.holds Tryd.pinned (.plain (OpenSpec.ofChange sealTellsSpec)) sealTellsCard

/-- THE TIED CARD OF 'tuplelaw4.VaultTwice'. -/
def vaultTwiceCard : Claim7 := { stood := { row := vaultTwiceRow, standIns := [], harness := (true, "797fd6da55067e9e4818d1fad3758af7623754331a5b5363df6765a259df06a3"), looks := true }, kinds := [], alts := [], laidByText := true, laidKinds := [.handle], laidTests := true, laidLooks := .later }
def VaultTwiceCardSaid : Prop := Claim7.holds Tryd.pinned (.plain (OpenSpec.ofChange vaultTwiceSpec)) vaultTwiceCard

/-- THE TIED CARD OF 'tuplelaw2.VaultKeeps'. -/
def vaultKeepsCard : Claim7 := { stood := { row := vaultKeepsRow, standIns := [], harness := (true, "797fd6da55067e9e4818d1fad3758af7623754331a5b5363df6765a259df06a3"), looks := true }, kinds := [], alts := [], laidByText := true, laidKinds := [.handle], laidTests := true, laidLooks := .later }
def VaultKeepsCardSaid : Prop := Claim7.holds Tryd.pinned (.plain (OpenSpec.ofChange vaultKeepsSpec)) vaultKeepsCard

/-- THE TIED CARD OF 'tuplelaw2.VaultPlays'. -/
def vaultPlaysCard : Claim7 := { stood := { row := vaultPlaysRow, standIns := [], harness := (true, "797fd6da55067e9e4818d1fad3758af7623754331a5b5363df6765a259df06a3"), looks := true }, kinds := [], alts := [], laidByText := true, laidKinds := [.handle], laidTests := true, laidLooks := .later }
def VaultPlaysCardSaid : Prop := Claim7.holds Tryd.pinned (.plain (OpenSpec.ofChange vaultPlaysSpec)) vaultPlaysCard

/-- THE SECOND FORM's CARD OF 'tuplelaw2.VoteTells'. -/
def voteTellsUptoCard : Claim7 := { stood := { row := voteTellsUptoRow, standIns := [], harness := (true, "797fd6da55067e9e4818d1fad3758af7623754331a5b5363df6765a259df06a3"), looks := true }, kinds := [], alts := [], laidByText := true, laidKinds := [.handle], laidTests := true, laidLooks := .later }
def VoteTellsUptoCardSaid : Prop := Claim7.holds Tryd.pinned (.plain (OpenSpec.upto voteTellsSpec)) voteTellsUptoCard

/-- THE SECOND FORM's CARD OF 'tuplelaw1.ModTells'. -/
def modTellsUptoCard : Claim7 := { stood := { row := modTellsUptoRow, standIns := [], harness := (true, "797fd6da55067e9e4818d1fad3758af7623754331a5b5363df6765a259df06a3"), looks := true }, kinds := [], alts := [], laidByText := true, laidKinds := [.handle], laidTests := true, laidLooks := .later }
def ModTellsUptoCardSaid : Prop := Claim7.holds Tryd.pinned (.plain (OpenSpec.upto modTellsSpec)) modTellsUptoCard

/-- THE SECOND FORM's CARD OF 'tuplelaw1.ProofTells'. -/
def proofTellsUptoCard : Claim7 := { stood := { row := proofTellsUptoRow, standIns := [], harness := (true, "797fd6da55067e9e4818d1fad3758af7623754331a5b5363df6765a259df06a3"), looks := true }, kinds := [], alts := [], laidByText := true, laidKinds := [.handle], laidTests := true, laidLooks := .later }
def ProofTellsUptoCardSaid : Prop := Claim7.holds Tryd.pinned (.plain (OpenSpec.upto proofTellsSpec)) proofTellsUptoCard

/-- THE SECOND FORM's CARD OF 'tuplelaw1.PolyTells'. -/
def polyTellsUptoCard : Claim7 := { stood := { row := polyTellsUptoRow, standIns := [], harness := (true, "797fd6da55067e9e4818d1fad3758af7623754331a5b5363df6765a259df06a3"), looks := true }, kinds := [], alts := [], laidByText := true, laidKinds := [.handle], laidTests := true, laidLooks := .later }
def PolyTellsUptoCardSaid : Prop := Claim7.holds Tryd.pinned (.plain (OpenSpec.upto polyTellsSpec)) polyTellsUptoCard

/-- THE SECOND FORM's CARD OF 'tuplelaw1.ShareTells'. -/
def shareTellsUptoCard : Claim7 := { stood := { row := shareTellsUptoRow, standIns := [], harness := (true, "797fd6da55067e9e4818d1fad3758af7623754331a5b5363df6765a259df06a3"), looks := true }, kinds := [], alts := [], laidByText := true, laidKinds := [.handle], laidTests := true, laidLooks := .later }
def ShareTellsUptoCardSaid : Prop := Claim7.holds Tryd.pinned (.plain (OpenSpec.upto shareTellsSpec)) shareTellsUptoCard

/-- THE SECOND FORM's CARD OF 'tuplelaw2.SealTells'. -/
def sealTellsUptoCard : Claim7 := { stood := { row := sealTellsUptoRow, standIns := [], harness := (true, "797fd6da55067e9e4818d1fad3758af7623754331a5b5363df6765a259df06a3"), looks := true }, kinds := [], alts := [], laidByText := true, laidKinds := [.handle], laidTests := true, laidLooks := .later }
def SealTellsUptoCardSaid : Prop := Claim7.holds Tryd.pinned (.plain (OpenSpec.upto sealTellsSpec)) sealTellsUptoCard

/-- THE SECOND FORM's CARD OF 'tuplelaw4.VaultTwice'. -/
def vaultTwiceUptoCard : Claim7 := { stood := { row := vaultTwiceUptoRow, standIns := [], harness := (true, "797fd6da55067e9e4818d1fad3758af7623754331a5b5363df6765a259df06a3"), looks := true }, kinds := [], alts := [], laidByText := true, laidKinds := [.handle], laidTests := true, laidLooks := .later }
def VaultTwiceUptoCardSaid : Prop := Claim7.holds Tryd.pinned (.plain (OpenSpec.upto vaultTwiceSpec)) vaultTwiceUptoCard

/-- THE SECOND FORM's CARD OF 'tuplelaw2.VaultKeeps'. -/
def vaultKeepsUptoCard : Claim7 := { stood := { row := vaultKeepsUptoRow, standIns := [], harness := (true, "797fd6da55067e9e4818d1fad3758af7623754331a5b5363df6765a259df06a3"), looks := true }, kinds := [], alts := [], laidByText := true, laidKinds := [.handle], laidTests := true, laidLooks := .later }
def VaultKeepsUptoCardSaid : Prop := Claim7.holds Tryd.pinned (.plain (OpenSpec.upto vaultKeepsSpec)) vaultKeepsUptoCard

/-- THE SECOND FORM's CARD OF 'tuplelaw2.VaultPlays'. -/
def vaultPlaysUptoCard : Claim7 := { stood := { row := vaultPlaysUptoRow, standIns := [], harness := (true, "797fd6da55067e9e4818d1fad3758af7623754331a5b5363df6765a259df06a3"), looks := true }, kinds := [], alts := [], laidByText := true, laidKinds := [.handle], laidTests := true, laidLooks := .later }
def VaultPlaysUptoCardSaid : Prop := Claim7.holds Tryd.pinned (.plain (OpenSpec.upto vaultPlaysSpec)) vaultPlaysUptoCard
end Rows
end Go.Proofs.YtpmgmlmpiofnpaaDoor
