/- The doors of the logs' laws and the sessions': what their listed variables give a walk. -/
import Derived.Test.YtfelefkmbbfdjaaGreatDoorDoorT
import Derived.Test.YtfelefkmbbfdjaaGreatDoorLgAll
import Derived.Stop.LaidErr
import Derived.SizedLaws
import Derived.LaidLaws
import Derived.Lay
namespace Go.Proofs.YtfelefkmbbfdjaaGreatDoor
open Go.ChangeShapes Go.WideShapes Go.RowKit Go.Lib

theorem doorE.gS : Tryz.prog.globalNamed "strconv.ErrSyntax" = some 5 := by kernel_rfl
theorem doorE.gR : Tryz.prog.globalNamed "strconv.ErrRange" = some 6 := by kernel_rfl
theorem doorE.tS : (Tryz.prog.globals[5]?).map (·.type) = some 27 := by kernel_rfl
theorem doorE.tR : (Tryz.prog.globals[6]?).map (·.type) = some 27 := by kernel_rfl
theorem doorE.cE : Tryz.prog.cellsOf 236 = 1 := by kernel_rfl
theorem doorE.cS : Tryz.prog.cellsOf 9 = 1 := by kernel_rfl
theorem doorE.star : "*" ++ "errors.errorString" = "*errors.errorString" := by decide
theorem doorE.row (u : TypeId) (h : Tryz.prog.typeName? 3 u = some "*errors.errorString") : u = 234 :=
  typeName_ptr_named (nm := "errors.errorString") (by rw [doorE.star]; kernel_rfl) (by kernel_rfl) (by decide) u (by rw [doorE.star]; exact h)
theorem ee_of_met {W : World} {r : List (String × DataW Unit)} (h : laidMet Tryz.prog (("strconv.ErrRange", Rows.laid_strconv_ErrRange) :: ("strconv.ErrSyntax", Rows.laid_strconv_ErrSyntax) :: r) W) : EE W := by
  obtain ⟨a, s, hv, _⟩ := laid_sentinel h doorE.gR doorE.tR Tryz.underlying27 doorE.row Tryz.underlying234 Tryz.underlying236 rfl rfl Tryz.underlying9 doorE.cE doorE.cS
  obtain ⟨a2, s2, hv2, _⟩ := laid_sentinel h.tail doorE.gS doorE.tS Tryz.underlying27 doorE.row Tryz.underlying234 Tryz.underlying236 rfl rfl Tryz.underlying9 doorE.cE doorE.cS
  exact ⟨⟨_, _, by simpa using World.var?_cell doorE.gS hv2 0⟩, ⟨_, _, by simpa using World.var?_cell doorE.gR hv 0⟩⟩
theorem tt_of_head {W : World} {r : List (String × DataW Unit)} (h : laidMet Tryz.prog (("internal/strconv.uint64pow10", Rows.laid_internal_strconv_uint64pow10) :: r) W) : TT W :=
  tabIs_of_head (g := 4) (by kernel_rfl) (t := (Tryz.prog.globals[4]!).type) (by kernel_rfl) (e := 175) (n := 20) (by kernel_rfl) Tryz.underlying175 (by kernel_rfl) (by kernel_rfl) h
set_option maxRecDepth 100000 in
theorem as_of_head {W : World} {r : List (String × DataW Unit)} (h : laidMet Tryz.prog (("strings.asciiSpace", Rows.laid_strings_asciiSpace) :: r) W) : AS W :=
  tabIs_of_head (g := 2) (by kernel_rfl) (t := (Tryz.prog.globals[2]!).type) (by kernel_rfl) (e := 5) (n := 256) (by kernel_rfl) Tryz.underlying5 (by kernel_rfl) (by kernel_rfl) h
/-- all three tables that the logs lean on -/
def LT (W : World) : Prop := TT W ∧ EE W ∧ AS W
abbrev laidWA : List (String × DataW Unit) := [("math/bits.deBruijn32tab", Rows.laid_math_bits_deBruijn32tab), ("math/bits.deBruijn64tab", Rows.laid_math_bits_deBruijn64tab), ("internal/strconv.uint64pow10", Rows.laid_internal_strconv_uint64pow10), ("unicode/utf8.acceptRanges", Rows.laid_unicode_utf8_acceptRanges), ("strconv.ErrRange", Rows.laid_strconv_ErrRange), ("strconv.ErrSyntax", Rows.laid_strconv_ErrSyntax), ("unicode.White_Space", Rows.laid_unicode_White_Space), ("strings.asciiSpace", Rows.laid_strings_asciiSpace), ("unicode/utf8.first", Rows.laid_unicode_utf8_first)]
theorem lt_of_met {W : World} (h' : laidMet Tryz.prog laidWA W) : LT W :=
  ⟨tt_of_head h'.tail.tail, ee_of_met h'.tail.tail.tail.tail, as_of_head h'.tail.tail.tail.tail.tail.tail.tail⟩
theorem twa_of_laid {W : World} (h : laidMetH Tryz.prog laidWA W) : LT W := lt_of_met (show laidMet Tryz.prog laidWA W from h)
noncomputable def laidWorldWA (os : Os) : World := World.laidAll Tryz.prog os laidWA
theorem laidWorldWA_met (os : Os) (args : Array Value) : laidMetH Tryz.prog laidWA ((laidWorldWA os).forCall (fun _ _ => 0) ⟨#[], args, []⟩).memory := by
  show laidMet Tryz.prog laidWA _
  exact laidMet_laidAll args (by kernel_rfl) (by kernel_rfl)
theorem laidWorldWA_shaped (os : Os) (args : Array Value) : ((laidWorldWA os).forCall (fun _ _ => 0) ⟨#[], args, []⟩).Shaped Tryz.prog :=
  World.shaped_of_ZipB (by kernel_rfl) (by kernel_rfl)
/-! ### with the handle -/
abbrev laidWH : List (String × DataW Unit) := [("math/bits.deBruijn32tab", Rows.laid_math_bits_deBruijn32tab), ("math/bits.deBruijn64tab", Rows.laid_math_bits_deBruijn64tab), ("internal/strconv.uint64pow10", Rows.laid_internal_strconv_uint64pow10), ("unicode/utf8.acceptRanges", Rows.laid_unicode_utf8_acceptRanges), ("errors.errorType", Rows.laid_errors_errorType), ("strconv.ErrRange", Rows.laid_strconv_ErrRange), ("strconv.ErrSyntax", Rows.laid_strconv_ErrSyntax), ("unicode.White_Space", Rows.laid_unicode_White_Space), ("strings.asciiSpace", Rows.laid_strings_asciiSpace), ("unicode/utf8.first", Rows.laid_unicode_utf8_first)]
theorem twh_of_laid {W : World} (h : laidMetH Tryz.prog laidWH W) : HG W ∧ LT W := by
  have h' : laidMet Tryz.prog laidWA W ∧ handlesMet Tryz.prog laidL W := h
  exact ⟨handle_of_laid (show laidMet Tryz.prog [] W ∧ handlesMet Tryz.prog laidL W from ⟨laidMet_nil _ _, h'.2⟩), lt_of_met h'.1⟩
noncomputable def laidWorldWH (os : Os) : World := (laidWorld os).layVars Tryz.prog laidWA
theorem laidWorldWH_met (os : Os) (args : Array Value) : laidMetH Tryz.prog laidWH ((laidWorldWH os).forCall (fun _ _ => 0) ⟨#[], args, []⟩).memory := by
  refine laidMetH_of_parts ?_ (by kernel_rfl)
  show laidMet Tryz.prog laidWA _
  have e1 : (laidWA.filter fun x => (laidWA.map (·.1)).contains x.1) = laidWA := by kernel_rfl
  have e2 : (laidWA.filter fun x => !(laidWA.map (·.1)).contains x.1) = [] := by kernel_rfl
  have h : laidMet Tryz.prog laidWA (laidWorldWH os) := laidMet_layVars (w0 := laidWorld os) (laidWA.map (·.1)) [] (by rw [e1]; rfl) (by rw [e1]; kernel_rfl) (by rw [e1]; kernel_rfl) (by rw [e2]; exact LaidIn.none)
  exact h.of_heap (by simp [World.memory, World.forCall, Input.heap])
theorem laidWorldWH_shaped (os : Os) (args : Array Value) : ((laidWorldWH os).forCall (fun _ _ => 0) ⟨#[], args, []⟩).Shaped Tryz.prog :=
  World.shaped_of_ZipB (by kernel_rfl) (by kernel_rfl)
end Go.Proofs.YtfelefkmbbfdjaaGreatDoor
