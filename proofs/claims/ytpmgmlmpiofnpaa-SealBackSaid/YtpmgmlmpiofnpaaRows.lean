/-
  No cell of these rows narrows 'for every input' (looked for: loops, veiled, ifaces, maps, wideKeys, modest, calm, conditions, laid).
  DERIVED. THE GIVEN ROWS OF THIS SEAT. 13 by the template 'for every input the law returns true; each argument reads behind the call as it read before'; 0 by the template 'total and deterministic' (their statements: YtpmgmlmpiofnpaaTotals.lean).
  GIVEN WITH THE SEED: the statements are not yours to turn. If you find one false, say at which input.
  Laid BY PROGRAM, IN A SANDBOX (cutbox-rows.mjs): the forced cells as the released guide's own fill.sh prints them over the translation fba123536ec468bf… (all of the seat's roots in one cut). By AI agents, Wed Nov 11 2026. No macro, syntax, notation, axiom, sorry.
-/
import Derived.Test.YtpmgmlmpiofnpaaChecked
import GoSem.Claim
import GoSem.ClaimJoined
import GoSem.ClaimMapViews
import Derived.JoinedTies
import Derived.KernelRfl
namespace Go.Proofs.Ytpmgmlmpiofnpaa
/- THE CELL 'sum', in the pinned program and in every row, IS THE sha256 OF THE DUMP (.gsa) THAT YtpmgmlmpiofnpaaProg.lean LOADS. Nothing in Lean hashes anything: it is a label: what it is worth is what the hold of that sum in a sandbox is worth. -/
noncomputable def Try.pinned : Pinned := { name := "ytpmgmlmpiofnpaa", sum := "fba123536ec468bf4979c6365c178939ead39d0b7a0c7948ef66dbffa8e5f20d", checked := Try.checked }
namespace Rows
def none {H : Type} : Left H := { results := [], args := [] }

/-- 'tuplelaw1.Names': WHATEVER THE INPUT: true; the input reads as it did. -/
def namesSpec : ChangeSpec := { name := "names", fn := fun _ => fun
  | [] => { results := [.lit (.bool true)], args := [] }
  | _ => none }
def namesRow : OpenClaim := { program := "ytpmgmlmpiofnpaa", sum := "fba123536ec468bf4979c6365c178939ead39d0b7a0c7948ef66dbffa8e5f20d", func := "tuplestead/tuplelaw1.Names", spec := "names", apart := false }
def NamesSaid : Prop := namesRow.holds Try.pinned (OpenSpec.ofChange namesSpec)

/-- ITS FALSE NEIGHBOUR: 'it returns false'. Refute it at one input. -/
def namesWrong : ChangeSpec := { name := "names", fn := fun _ => fun
  | [] => { results := [.lit (.bool false)], args := [] }
  | _ => none }
def NamesWrongFalsely : Prop := namesRow.holds Try.pinned (OpenSpec.ofChange namesWrong)

/-- 'tuplelaw4.VoteAlone': WHATEVER THE INPUT: true; the input reads as it did. -/
def voteAloneSpec : ChangeSpec := { name := "voteAlone", fn := fun _ => fun
  | [d1, d2] => { results := [.lit (.bool true)], args := [d1, d2] }
  | _ => none }
def voteAloneRow : OpenClaim := { program := "ytpmgmlmpiofnpaa", sum := "fba123536ec468bf4979c6365c178939ead39d0b7a0c7948ef66dbffa8e5f20d", func := "tuplestead/tuplelaw4.VoteAlone", spec := "voteAlone", apart := false }
def VoteAloneSaid : Prop := voteAloneRow.holds Try.pinned (OpenSpec.ofChange voteAloneSpec)

/-- ITS FALSE NEIGHBOUR: 'it returns false'. Refute it at one input. -/
def voteAloneWrong : ChangeSpec := { name := "voteAlone", fn := fun _ => fun
  | [d1, d2] => { results := [.lit (.bool false)], args := [d1, d2] }
  | _ => none }
def VoteAloneWrongFalsely : Prop := voteAloneRow.holds Try.pinned (OpenSpec.ofChange voteAloneWrong)

/-- 'tuplelaw4.ModOne': WHATEVER THE INPUT: true; the input reads as it did. -/
def modOneSpec : ChangeSpec := { name := "modOne", fn := fun _ => fun
  | [d1, d2] => { results := [.lit (.bool true)], args := [d1, d2] }
  | _ => none }
def modOneRow : OpenClaim := { program := "ytpmgmlmpiofnpaa", sum := "fba123536ec468bf4979c6365c178939ead39d0b7a0c7948ef66dbffa8e5f20d", func := "tuplestead/tuplelaw4.ModOne", spec := "modOne", apart := false }
def ModOneSaid : Prop := modOneRow.holds Try.pinned (OpenSpec.ofChange modOneSpec)

/-- ITS FALSE NEIGHBOUR: 'it returns false'. Refute it at one input. -/
def modOneWrong : ChangeSpec := { name := "modOne", fn := fun _ => fun
  | [d1, d2] => { results := [.lit (.bool false)], args := [d1, d2] }
  | _ => none }
def ModOneWrongFalsely : Prop := modOneRow.holds Try.pinned (OpenSpec.ofChange modOneWrong)

/-- 'tuplelaw2.VoteTrue': WHATEVER THE INPUT: true; the input reads as it did. -/
def voteTrueSpec : ChangeSpec := { name := "voteTrue", fn := fun _ => fun
  | [d1, d2, d3, d4] => { results := [.lit (.bool true)], args := [d1, d2, d3, d4] }
  | _ => none }
def voteTrueRow : OpenClaim := { program := "ytpmgmlmpiofnpaa", sum := "fba123536ec468bf4979c6365c178939ead39d0b7a0c7948ef66dbffa8e5f20d", func := "tuplestead/tuplelaw2.VoteTrue", spec := "voteTrue", apart := false }
def VoteTrueSaid : Prop := voteTrueRow.holds Try.pinned (OpenSpec.ofChange voteTrueSpec)

/-- ITS FALSE NEIGHBOUR: 'it returns false'. Refute it at one input. -/
def voteTrueWrong : ChangeSpec := { name := "voteTrue", fn := fun _ => fun
  | [d1, d2, d3, d4] => { results := [.lit (.bool false)], args := [d1, d2, d3, d4] }
  | _ => none }
def VoteTrueWrongFalsely : Prop := voteTrueRow.holds Try.pinned (OpenSpec.ofChange voteTrueWrong)

/-- 'tuplelaw1.ModField': WHATEVER THE INPUT: true; the input reads as it did. -/
def modFieldSpec : ChangeSpec := { name := "modField", fn := fun _ => fun
  | [d1, d2, d3, d4, d5] => { results := [.lit (.bool true)], args := [d1, d2, d3, d4, d5] }
  | _ => none }
def modFieldRow : OpenClaim := { program := "ytpmgmlmpiofnpaa", sum := "fba123536ec468bf4979c6365c178939ead39d0b7a0c7948ef66dbffa8e5f20d", func := "tuplestead/tuplelaw1.ModField", spec := "modField", apart := false }
def ModFieldSaid : Prop := modFieldRow.holds Try.pinned (OpenSpec.ofChange modFieldSpec)

/-- ITS FALSE NEIGHBOUR: 'it returns false'. Refute it at one input. -/
def modFieldWrong : ChangeSpec := { name := "modField", fn := fun _ => fun
  | [d1, d2, d3, d4, d5] => { results := [.lit (.bool false)], args := [d1, d2, d3, d4, d5] }
  | _ => none }
def ModFieldWrongFalsely : Prop := modFieldRow.holds Try.pinned (OpenSpec.ofChange modFieldWrong)

/-- 'tuplelaw4.ProofNought': WHATEVER THE INPUT: true; the input reads as it did. -/
def proofNoughtSpec : ChangeSpec := { name := "proofNought", fn := fun _ => fun
  | [d1, d2] => { results := [.lit (.bool true)], args := [d1, d2] }
  | _ => none }
def proofNoughtRow : OpenClaim := { program := "ytpmgmlmpiofnpaa", sum := "fba123536ec468bf4979c6365c178939ead39d0b7a0c7948ef66dbffa8e5f20d", func := "tuplestead/tuplelaw4.ProofNought", spec := "proofNought", apart := false }
def ProofNoughtSaid : Prop := proofNoughtRow.holds Try.pinned (OpenSpec.ofChange proofNoughtSpec)

/-- ITS FALSE NEIGHBOUR: 'it returns false'. Refute it at one input. -/
def proofNoughtWrong : ChangeSpec := { name := "proofNought", fn := fun _ => fun
  | [d1, d2] => { results := [.lit (.bool false)], args := [d1, d2] }
  | _ => none }
def ProofNoughtWrongFalsely : Prop := proofNoughtRow.holds Try.pinned (OpenSpec.ofChange proofNoughtWrong)

/-- 'tuplelaw1.ProofCatches': WHATEVER THE INPUT: true; the input reads as it did. -/
def proofCatchesSpec : ChangeSpec := { name := "proofCatches", fn := fun _ => fun
  | [d1, d2, d3] => { results := [.lit (.bool true)], args := [d1, d2, d3] }
  | _ => none }
def proofCatchesRow : OpenClaim := { program := "ytpmgmlmpiofnpaa", sum := "fba123536ec468bf4979c6365c178939ead39d0b7a0c7948ef66dbffa8e5f20d", func := "tuplestead/tuplelaw1.ProofCatches", spec := "proofCatches", unfollowed := true, recurses := true, apart := false }
def ProofCatchesSaid : Prop := proofCatchesRow.holds Try.pinned (OpenSpec.ofChange proofCatchesSpec)

/-- ITS FALSE NEIGHBOUR: 'it returns false'. Refute it at one input. -/
def proofCatchesWrong : ChangeSpec := { name := "proofCatches", fn := fun _ => fun
  | [d1, d2, d3] => { results := [.lit (.bool false)], args := [d1, d2, d3] }
  | _ => none }
def ProofCatchesWrongFalsely : Prop := proofCatchesRow.holds Try.pinned (OpenSpec.ofChange proofCatchesWrong)

/-- 'tuplelaw4.PolyFlat': WHATEVER THE INPUT: true; the input reads as it did. -/
def polyFlatSpec : ChangeSpec := { name := "polyFlat", fn := fun _ => fun
  | [d1, d2] => { results := [.lit (.bool true)], args := [d1, d2] }
  | _ => none }
def polyFlatRow : OpenClaim := { program := "ytpmgmlmpiofnpaa", sum := "fba123536ec468bf4979c6365c178939ead39d0b7a0c7948ef66dbffa8e5f20d", func := "tuplestead/tuplelaw4.PolyFlat", spec := "polyFlat", unfollowed := true, recurses := true, apart := false }
def PolyFlatSaid : Prop := polyFlatRow.holds Try.pinned (OpenSpec.ofChange polyFlatSpec)

/-- ITS FALSE NEIGHBOUR: 'it returns false'. Refute it at one input. -/
def polyFlatWrong : ChangeSpec := { name := "polyFlat", fn := fun _ => fun
  | [d1, d2] => { results := [.lit (.bool false)], args := [d1, d2] }
  | _ => none }
def PolyFlatWrongFalsely : Prop := polyFlatRow.holds Try.pinned (OpenSpec.ofChange polyFlatWrong)

/-- 'tuplelaw1.PolyThrough': WHATEVER THE INPUT: true; the input reads as it did. -/
def polyThroughSpec : ChangeSpec := { name := "polyThrough", fn := fun _ => fun
  | [d1, d2, d3, d4] => { results := [.lit (.bool true)], args := [d1, d2, d3, d4] }
  | _ => none }
def polyThroughRow : OpenClaim := { program := "ytpmgmlmpiofnpaa", sum := "fba123536ec468bf4979c6365c178939ead39d0b7a0c7948ef66dbffa8e5f20d", func := "tuplestead/tuplelaw1.PolyThrough", spec := "polyThrough", unfollowed := true, recurses := true, apart := false }
def PolyThroughSaid : Prop := polyThroughRow.holds Try.pinned (OpenSpec.ofChange polyThroughSpec)

/-- ITS FALSE NEIGHBOUR: 'it returns false'. Refute it at one input. -/
def polyThroughWrong : ChangeSpec := { name := "polyThrough", fn := fun _ => fun
  | [d1, d2, d3, d4] => { results := [.lit (.bool false)], args := [d1, d2, d3, d4] }
  | _ => none }
def PolyThroughWrongFalsely : Prop := polyThroughRow.holds Try.pinned (OpenSpec.ofChange polyThroughWrong)

/-- 'tuplelaw4.ShareAlone': WHATEVER THE INPUT: true; the input reads as it did. -/
def shareAloneSpec : ChangeSpec := { name := "shareAlone", fn := fun _ => fun
  | [d1, d2] => { results := [.lit (.bool true)], args := [d1, d2] }
  | _ => none }
def shareAloneRow : OpenClaim := { program := "ytpmgmlmpiofnpaa", sum := "fba123536ec468bf4979c6365c178939ead39d0b7a0c7948ef66dbffa8e5f20d", func := "tuplestead/tuplelaw4.ShareAlone", spec := "shareAlone", unfollowed := true, recurses := true, apart := false }
def ShareAloneSaid : Prop := shareAloneRow.holds Try.pinned (OpenSpec.ofChange shareAloneSpec)

/-- ITS FALSE NEIGHBOUR: 'it returns false'. Refute it at one input. -/
def shareAloneWrong : ChangeSpec := { name := "shareAlone", fn := fun _ => fun
  | [d1, d2] => { results := [.lit (.bool false)], args := [d1, d2] }
  | _ => none }
def ShareAloneWrongFalsely : Prop := shareAloneRow.holds Try.pinned (OpenSpec.ofChange shareAloneWrong)

/-- 'tuplelaw1.ShareHides': WHATEVER THE INPUT: true; the input reads as it did. -/
def shareHidesSpec : ChangeSpec := { name := "shareHides", fn := fun _ => fun
  | [d1, d2, d3, d4, d5] => { results := [.lit (.bool true)], args := [d1, d2, d3, d4, d5] }
  | _ => none }
def shareHidesRow : OpenClaim := { program := "ytpmgmlmpiofnpaa", sum := "fba123536ec468bf4979c6365c178939ead39d0b7a0c7948ef66dbffa8e5f20d", func := "tuplestead/tuplelaw1.ShareHides", spec := "shareHides", unfollowed := true, recurses := true, apart := false }
def ShareHidesSaid : Prop := shareHidesRow.holds Try.pinned (OpenSpec.ofChange shareHidesSpec)

/-- ITS FALSE NEIGHBOUR: 'it returns false'. Refute it at one input. -/
def shareHidesWrong : ChangeSpec := { name := "shareHides", fn := fun _ => fun
  | [d1, d2, d3, d4, d5] => { results := [.lit (.bool false)], args := [d1, d2, d3, d4, d5] }
  | _ => none }
def ShareHidesWrongFalsely : Prop := shareHidesRow.holds Try.pinned (OpenSpec.ofChange shareHidesWrong)

/-- 'tuplelaw4.SealNone': WHATEVER THE INPUT: true; the input reads as it did. -/
def sealNoneSpec : ChangeSpec := { name := "sealNone", fn := fun _ => fun
  | [d1, d2] => { results := [.lit (.bool true)], args := [d1, d2] }
  | _ => none }
def sealNoneRow : OpenClaim := { program := "ytpmgmlmpiofnpaa", sum := "fba123536ec468bf4979c6365c178939ead39d0b7a0c7948ef66dbffa8e5f20d", func := "tuplestead/tuplelaw4.SealNone", spec := "sealNone", unfollowed := true, recurses := true, apart := false }
def SealNoneSaid : Prop := sealNoneRow.holds Try.pinned (OpenSpec.ofChange sealNoneSpec)

/-- ITS FALSE NEIGHBOUR: 'it returns false'. Refute it at one input. -/
def sealNoneWrong : ChangeSpec := { name := "sealNone", fn := fun _ => fun
  | [d1, d2] => { results := [.lit (.bool false)], args := [d1, d2] }
  | _ => none }
def SealNoneWrongFalsely : Prop := sealNoneRow.holds Try.pinned (OpenSpec.ofChange sealNoneWrong)

/-- 'tuplelaw2.SealBack': WHATEVER THE INPUT: true; the input reads as it did. -/
def sealBackSpec : ChangeSpec := { name := "sealBack", fn := fun _ => fun
  | [d1, d2, d3, d4] => { results := [.lit (.bool true)], args := [d1, d2, d3, d4] }
  | _ => none }
def sealBackRow : OpenClaim := { program := "ytpmgmlmpiofnpaa", sum := "fba123536ec468bf4979c6365c178939ead39d0b7a0c7948ef66dbffa8e5f20d", func := "tuplestead/tuplelaw2.SealBack", spec := "sealBack", unfollowed := true, recurses := true, apart := false }
def SealBackSaid : Prop := sealBackRow.holds Try.pinned (OpenSpec.ofChange sealBackSpec)

/-- ITS FALSE NEIGHBOUR: 'it returns false'. Refute it at one input. -/
def sealBackWrong : ChangeSpec := { name := "sealBack", fn := fun _ => fun
  | [d1, d2, d3, d4] => { results := [.lit (.bool false)], args := [d1, d2, d3, d4] }
  | _ => none }
def SealBackWrongFalsely : Prop := sealBackRow.holds Try.pinned (OpenSpec.ofChange sealBackWrong)

/- THE SECOND FORM. 'bulk': how many values and letters a reading holds, each counted each time it is reached (what is shared counts as often as it is met; a slice's spare places count too). A statement '..UptoSaid' is the law's where the arguments, and the package variables that the reading takes, are together of bulk at most 1048576: NARROWER than '..Said'. Prove '..Said' where nothing that the law and all that it calls make is longer than what came in: it says more and counts as full. Else prove '..UptoSaid'. A law counts once. -/
mutual
def uptoBulk {H : Type} : DataW H → Nat
  | .lit (.string bytes) => bytes.length + 1
  | .lit _ => 1
  | .nil => 1
  | .ptr d => uptoBulk d + 1
  | .slice elems spare => uptoBulkAll elems + uptoBulkAll spare + 1
  | .agg parts => uptoBulkAll parts + 1
  | .iface _ d => uptoBulk d + 1
  | .map entries => uptoBulkEntries entries + 1
  | .held _ => 1
def uptoBulkAll {H : Type} : List (DataW H) → Nat
  | [] => 0
  | d :: r => uptoBulk d + uptoBulkAll r
def uptoBulkEntries {H : Type} : List (Lit × DataW H) → Nat
  | [] => 0
  | x :: r => uptoBulkEntry x + uptoBulkEntries r
def uptoBulkEntry {H : Type} : Lit × DataW H → Nat
  | (.string bytes, d) => bytes.length + uptoBulk d + 1
  | (_, d) => uptoBulk d + 1
 end
def uptoSmall : (H : Type) → List (DataW H) → Bool := fun _ ds => decide (uptoBulkAll ds ≤ 1048576)
def OpenSpec.upto (s : _root_.Go.ChangeSpec) : _root_.Go.OpenSpec := { _root_.Go.OpenSpec.ofChange s with cond := some uptoSmall }

/-- 'tuplelaw1.Names', WHERE WHAT IT READS IS OF BULK AT MOST 1048576: true; the input reads as it did. -/
def namesUptoRow : OpenClaim := { program := "ytpmgmlmpiofnpaa", sum := "fba123536ec468bf4979c6365c178939ead39d0b7a0c7948ef66dbffa8e5f20d", func := "tuplestead/tuplelaw1.Names", spec := "names", apart := false, narrowed := true }
def NamesUptoSaid : Prop := namesUptoRow.holds Try.pinned (OpenSpec.upto namesSpec)

/-- 'tuplelaw4.VoteAlone', WHERE WHAT IT READS IS OF BULK AT MOST 1048576: true; the input reads as it did. -/
def voteAloneUptoRow : OpenClaim := { program := "ytpmgmlmpiofnpaa", sum := "fba123536ec468bf4979c6365c178939ead39d0b7a0c7948ef66dbffa8e5f20d", func := "tuplestead/tuplelaw4.VoteAlone", spec := "voteAlone", apart := false, narrowed := true }
def VoteAloneUptoSaid : Prop := voteAloneUptoRow.holds Try.pinned (OpenSpec.upto voteAloneSpec)

/-- 'tuplelaw4.ModOne', WHERE WHAT IT READS IS OF BULK AT MOST 1048576: true; the input reads as it did. -/
def modOneUptoRow : OpenClaim := { program := "ytpmgmlmpiofnpaa", sum := "fba123536ec468bf4979c6365c178939ead39d0b7a0c7948ef66dbffa8e5f20d", func := "tuplestead/tuplelaw4.ModOne", spec := "modOne", apart := false, narrowed := true }
def ModOneUptoSaid : Prop := modOneUptoRow.holds Try.pinned (OpenSpec.upto modOneSpec)

/-- 'tuplelaw2.VoteTrue', WHERE WHAT IT READS IS OF BULK AT MOST 1048576: true; the input reads as it did. -/
def voteTrueUptoRow : OpenClaim := { program := "ytpmgmlmpiofnpaa", sum := "fba123536ec468bf4979c6365c178939ead39d0b7a0c7948ef66dbffa8e5f20d", func := "tuplestead/tuplelaw2.VoteTrue", spec := "voteTrue", apart := false, narrowed := true }
def VoteTrueUptoSaid : Prop := voteTrueUptoRow.holds Try.pinned (OpenSpec.upto voteTrueSpec)

/-- 'tuplelaw1.ModField', WHERE WHAT IT READS IS OF BULK AT MOST 1048576: true; the input reads as it did. -/
def modFieldUptoRow : OpenClaim := { program := "ytpmgmlmpiofnpaa", sum := "fba123536ec468bf4979c6365c178939ead39d0b7a0c7948ef66dbffa8e5f20d", func := "tuplestead/tuplelaw1.ModField", spec := "modField", apart := false, narrowed := true }
def ModFieldUptoSaid : Prop := modFieldUptoRow.holds Try.pinned (OpenSpec.upto modFieldSpec)

/-- 'tuplelaw4.ProofNought', WHERE WHAT IT READS IS OF BULK AT MOST 1048576: true; the input reads as it did. -/
def proofNoughtUptoRow : OpenClaim := { program := "ytpmgmlmpiofnpaa", sum := "fba123536ec468bf4979c6365c178939ead39d0b7a0c7948ef66dbffa8e5f20d", func := "tuplestead/tuplelaw4.ProofNought", spec := "proofNought", apart := false, narrowed := true }
def ProofNoughtUptoSaid : Prop := proofNoughtUptoRow.holds Try.pinned (OpenSpec.upto proofNoughtSpec)

/-- 'tuplelaw1.ProofCatches', WHERE WHAT IT READS IS OF BULK AT MOST 1048576: true; the input reads as it did. -/
def proofCatchesUptoRow : OpenClaim := { program := "ytpmgmlmpiofnpaa", sum := "fba123536ec468bf4979c6365c178939ead39d0b7a0c7948ef66dbffa8e5f20d", func := "tuplestead/tuplelaw1.ProofCatches", spec := "proofCatches", unfollowed := true, recurses := true, apart := false, narrowed := true }
def ProofCatchesUptoSaid : Prop := proofCatchesUptoRow.holds Try.pinned (OpenSpec.upto proofCatchesSpec)

/-- 'tuplelaw4.PolyFlat', WHERE WHAT IT READS IS OF BULK AT MOST 1048576: true; the input reads as it did. -/
def polyFlatUptoRow : OpenClaim := { program := "ytpmgmlmpiofnpaa", sum := "fba123536ec468bf4979c6365c178939ead39d0b7a0c7948ef66dbffa8e5f20d", func := "tuplestead/tuplelaw4.PolyFlat", spec := "polyFlat", unfollowed := true, recurses := true, apart := false, narrowed := true }
def PolyFlatUptoSaid : Prop := polyFlatUptoRow.holds Try.pinned (OpenSpec.upto polyFlatSpec)

/-- 'tuplelaw1.PolyThrough', WHERE WHAT IT READS IS OF BULK AT MOST 1048576: true; the input reads as it did. -/
def polyThroughUptoRow : OpenClaim := { program := "ytpmgmlmpiofnpaa", sum := "fba123536ec468bf4979c6365c178939ead39d0b7a0c7948ef66dbffa8e5f20d", func := "tuplestead/tuplelaw1.PolyThrough", spec := "polyThrough", unfollowed := true, recurses := true, apart := false, narrowed := true }
def PolyThroughUptoSaid : Prop := polyThroughUptoRow.holds Try.pinned (OpenSpec.upto polyThroughSpec)

/-- 'tuplelaw4.ShareAlone', WHERE WHAT IT READS IS OF BULK AT MOST 1048576: true; the input reads as it did. -/
def shareAloneUptoRow : OpenClaim := { program := "ytpmgmlmpiofnpaa", sum := "fba123536ec468bf4979c6365c178939ead39d0b7a0c7948ef66dbffa8e5f20d", func := "tuplestead/tuplelaw4.ShareAlone", spec := "shareAlone", unfollowed := true, recurses := true, apart := false, narrowed := true }
def ShareAloneUptoSaid : Prop := shareAloneUptoRow.holds Try.pinned (OpenSpec.upto shareAloneSpec)

/-- 'tuplelaw1.ShareHides', WHERE WHAT IT READS IS OF BULK AT MOST 1048576: true; the input reads as it did. -/
def shareHidesUptoRow : OpenClaim := { program := "ytpmgmlmpiofnpaa", sum := "fba123536ec468bf4979c6365c178939ead39d0b7a0c7948ef66dbffa8e5f20d", func := "tuplestead/tuplelaw1.ShareHides", spec := "shareHides", unfollowed := true, recurses := true, apart := false, narrowed := true }
def ShareHidesUptoSaid : Prop := shareHidesUptoRow.holds Try.pinned (OpenSpec.upto shareHidesSpec)

/-- 'tuplelaw4.SealNone', WHERE WHAT IT READS IS OF BULK AT MOST 1048576: true; the input reads as it did. -/
def sealNoneUptoRow : OpenClaim := { program := "ytpmgmlmpiofnpaa", sum := "fba123536ec468bf4979c6365c178939ead39d0b7a0c7948ef66dbffa8e5f20d", func := "tuplestead/tuplelaw4.SealNone", spec := "sealNone", unfollowed := true, recurses := true, apart := false, narrowed := true }
def SealNoneUptoSaid : Prop := sealNoneUptoRow.holds Try.pinned (OpenSpec.upto sealNoneSpec)

/-- 'tuplelaw2.SealBack', WHERE WHAT IT READS IS OF BULK AT MOST 1048576: true; the input reads as it did. -/
def sealBackUptoRow : OpenClaim := { program := "ytpmgmlmpiofnpaa", sum := "fba123536ec468bf4979c6365c178939ead39d0b7a0c7948ef66dbffa8e5f20d", func := "tuplestead/tuplelaw2.SealBack", spec := "sealBack", unfollowed := true, recurses := true, apart := false, narrowed := true }
def SealBackUptoSaid : Prop := sealBackUptoRow.holds Try.pinned (OpenSpec.upto sealBackSpec)

end Rows
end Go.Proofs.Ytpmgmlmpiofnpaa
