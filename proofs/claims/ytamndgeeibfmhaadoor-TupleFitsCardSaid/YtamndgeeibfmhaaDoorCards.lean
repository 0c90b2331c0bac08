/-
  DERIVED. GIVEN WITH THE SEED: THE CARDS: each row of YtamndgeeibfmhaaDoorRows.lean that lists a variable, with what it lists TIED to the program's text (the seventh form; the later family's looks); each row that meets fmt, with fmt's text TOLD by the authors' own Lean function (tested against real Go, not proved from fmt's source: count such statements apart). THE CARD IS WHAT COUNTS. Prove the row's statement (the work); the ties are given (YtamndgeeibfmhaaDoorTie.lean); close each card by the builder's one call (the guide's Derived/Test/ToyasCard.lean, 'card_holds'). Laid BY PROGRAM, IN A SANDBOX (cutbox-door.mjs). By AI agents, Wed Nov 11 2026. No macro, syntax, notation, axiom, sorry.
-/
import Derived.Test.YtamndgeeibfmhaaDoorRows
import GoSem.ClaimSeven
namespace Go.Proofs.YtamndgeeibfmhaaDoor
namespace Rows

/-- THE TIED CARD OF 'tuplelaw1.ValueBack'. -/
def valueBackCard : Claim7 := { stood := { row := valueBackRow, standIns := [], harness := (true, "345d49508bbf658d115c3e4ec2a1c637ccffcf4221fc9fa903a96e3278d10d3e"), looks := true }, kinds := [], alts := [], laidByText := true, laidKinds := [.data, .data, .data, .sentinel, .sentinel], laidTests := true, laidLooks := .later }
def ValueBackCardSaid : Prop := Claim7.holds Tryd.pinned (.plain (OpenSpec.ofChange valueBackSpec)) valueBackCard

/-- THE TIED CARD OF 'tuplelaw1.ValueTells'. -/
def valueTellsCard : Claim7 := { stood := { row := valueTellsRow, standIns := [], harness := (true, "345d49508bbf658d115c3e4ec2a1c637ccffcf4221fc9fa903a96e3278d10d3e"), looks := true }, kinds := [], alts := [], laidByText := true, laidKinds := [.data, .data, .data, .handle, .sentinel, .sentinel], laidTests := true, laidLooks := .later }
def ValueTellsCardSaid : Prop := Claim7.holds Tryd.pinned (.plain (OpenSpec.ofChange valueTellsSpec)) valueTellsCard

/-- THE TIED CARD OF 'tuplelaw1.TupleFits'. -/
def tupleFitsCard : Claim7 := { stood := { row := tupleFitsRow, standIns := [], harness := (true, "345d49508bbf658d115c3e4ec2a1c637ccffcf4221fc9fa903a96e3278d10d3e"), looks := true }, kinds := [], alts := [], laidByText := true, laidKinds := [.data, .data, .data, .data, .sentinel, .sentinel, .pinned], laidTests := true, laidLooks := .later }
def TupleFitsCardSaid : Prop := Claim7.holds Tryd.pinned (.plain (OpenSpec.ofChange tupleFitsSpec)) tupleFitsCard

/-- THE TIED CARD OF 'tuplelaw2.VaultPlays'. -/
def vaultPlaysCard : Claim7 := { stood := { row := vaultPlaysRow, standIns := [], harness := (true, "345d49508bbf658d115c3e4ec2a1c637ccffcf4221fc9fa903a96e3278d10d3e"), looks := true }, kinds := [], alts := [], laidByText := true, laidKinds := [.handle], laidTests := true, laidLooks := .later }
def VaultPlaysCardSaid : Prop := Claim7.holds Tryd.pinned (.plain (OpenSpec.ofChange vaultPlaysSpec)) vaultPlaysCard

/-- THE SECOND FORM's CARD OF 'tuplelaw1.ValueBack'. -/
def valueBackUptoCard : Claim7 := { stood := { row := valueBackUptoRow, standIns := [], harness := (true, "345d49508bbf658d115c3e4ec2a1c637ccffcf4221fc9fa903a96e3278d10d3e"), looks := true }, kinds := [], alts := [], laidByText := true, laidKinds := [.data, .data, .data, .sentinel, .sentinel], laidTests := true, laidLooks := .later }
def ValueBackUptoCardSaid : Prop := Claim7.holds Tryd.pinned (.plain (OpenSpec.upto valueBackSpec)) valueBackUptoCard

/-- THE SECOND FORM's CARD OF 'tuplelaw1.ValueTells'. -/
def valueTellsUptoCard : Claim7 := { stood := { row := valueTellsUptoRow, standIns := [], harness := (true, "345d49508bbf658d115c3e4ec2a1c637ccffcf4221fc9fa903a96e3278d10d3e"), looks := true }, kinds := [], alts := [], laidByText := true, laidKinds := [.data, .data, .data, .handle, .sentinel, .sentinel], laidTests := true, laidLooks := .later }
def ValueTellsUptoCardSaid : Prop := Claim7.holds Tryd.pinned (.plain (OpenSpec.upto valueTellsSpec)) valueTellsUptoCard

/-- THE SECOND FORM's CARD OF 'tuplelaw1.TupleFits'. -/
def tupleFitsUptoCard : Claim7 := { stood := { row := tupleFitsUptoRow, standIns := [], harness := (true, "345d49508bbf658d115c3e4ec2a1c637ccffcf4221fc9fa903a96e3278d10d3e"), looks := true }, kinds := [], alts := [], laidByText := true, laidKinds := [.data, .data, .data, .data, .sentinel, .sentinel, .pinned], laidTests := true, laidLooks := .later }
def TupleFitsUptoCardSaid : Prop := Claim7.holds Tryd.pinned (.plain (OpenSpec.upto tupleFitsSpec)) tupleFitsUptoCard

/-- THE SECOND FORM's CARD OF 'tuplelaw2.VaultPlays'. -/
def vaultPlaysUptoCard : Claim7 := { stood := { row := vaultPlaysUptoRow, standIns := [], harness := (true, "345d49508bbf658d115c3e4ec2a1c637ccffcf4221fc9fa903a96e3278d10d3e"), looks := true }, kinds := [], alts := [], laidByText := true, laidKinds := [.handle], laidTests := true, laidLooks := .later }
def VaultPlaysUptoCardSaid : Prop := Claim7.holds Tryd.pinned (.plain (OpenSpec.upto vaultPlaysSpec)) vaultPlaysUptoCard
end Rows
end Go.Proofs.YtamndgeeibfmhaaDoor
