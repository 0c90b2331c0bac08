/- The door where utf8's tables, the type's handle and strconv's errors are listed. -/
import Derived.Test.YtamndgeeibfmhaaGreatDoorDoorT
import Derived.Test.YtamndgeeibfmhaaGreatDoorVRd
import Derived.Stop.LaidErr
import Derived.SizedLaws
namespace Go.Proofs.YtamndgeeibfmhaaGreatDoor
open Go.ChangeShapes Go.WideShapes Go.RowKit Go.Lib

abbrev laidPd : List (String × DataW Unit) := [("math/bits.deBruijn32tab", Rows.laid_math_bits_deBruijn32tab), ("math/bits.deBruijn64tab", Rows.laid_math_bits_deBruijn64tab), ("internal/strconv.uint64pow10", Rows.laid_internal_strconv_uint64pow10), ("unicode/utf8.acceptRanges", Rows.laid_unicode_utf8_acceptRanges), ("strconv.ErrRange", Rows.laid_strconv_ErrRange), ("strconv.ErrSyntax", Rows.laid_strconv_ErrSyntax), ("unicode/utf8.first", Rows.laid_unicode_utf8_first)]
abbrev laidPH : List (String × DataW Unit) := [("math/bits.deBruijn32tab", Rows.laid_math_bits_deBruijn32tab), ("math/bits.deBruijn64tab", Rows.laid_math_bits_deBruijn64tab), ("internal/strconv.uint64pow10", Rows.laid_internal_strconv_uint64pow10), ("unicode/utf8.acceptRanges", Rows.laid_unicode_utf8_acceptRanges), ("errors.errorType", Rows.laid_errors_errorType), ("strconv.ErrRange", Rows.laid_strconv_ErrRange), ("strconv.ErrSyntax", Rows.laid_strconv_ErrSyntax), ("unicode/utf8.first", Rows.laid_unicode_utf8_first)]
theorem doorE.gS : Tryz.prog.globalNamed "strconv.ErrSyntax" = some 4 := by kernel_rfl
theorem doorE.gR : Tryz.prog.globalNamed "strconv.ErrRange" = some 5 := by kernel_rfl
theorem doorE.tS : (Tryz.prog.globals[4]?).map (·.type) = some 26 := by kernel_rfl
theorem doorE.tR : (Tryz.prog.globals[5]?).map (·.type) = some 26 := by kernel_rfl
theorem doorE.cE : Tryz.prog.cellsOf 154 = 1 := by kernel_rfl
theorem doorE.cS : Tryz.prog.cellsOf 9 = 1 := by kernel_rfl
theorem doorE.star : "*" ++ "errors.errorString" = "*errors.errorString" := by decide
theorem doorE.row (u : TypeId) (h : Tryz.prog.typeName? 3 u = some "*errors.errorString") : u = 152 :=
  typeName_ptr_named (nm := "errors.errorString") (by rw [doorE.star]; kernel_rfl) (by kernel_rfl) (by decide) u (by rw [doorE.star]; exact h)
theorem ee_of_met {W : World} {r : List (String × DataW Unit)} (h : laidMet Tryz.prog (("strconv.ErrRange", Rows.laid_strconv_ErrRange) :: ("strconv.ErrSyntax", Rows.laid_strconv_ErrSyntax) :: r) W) : EE W := by
  obtain ⟨a, s, hv, _⟩ := laid_sentinel h doorE.gR doorE.tR Tryz.underlying26 doorE.row Tryz.underlying152 Tryz.underlying154 rfl rfl Tryz.underlying9 doorE.cE doorE.cS
  obtain ⟨a2, s2, hv2, _⟩ := laid_sentinel h.tail doorE.gS doorE.tS Tryz.underlying26 doorE.row Tryz.underlying152 Tryz.underlying154 rfl rfl Tryz.underlying9 doorE.cE doorE.cS
  exact ⟨⟨_, _, by simpa using World.var?_cell doorE.gS hv2 0⟩, ⟨_, _, by simpa using World.var?_cell doorE.gR hv 0⟩⟩
theorem tt_of_head {W : World} {r : List (String × DataW Unit)} (h : laidMet Tryz.prog (("internal/strconv.uint64pow10", Rows.laid_internal_strconv_uint64pow10) :: r) W) : TT W :=
  tabIs_of_head (g := 6) (by kernel_rfl) (t := (Tryz.prog.globals[6]!).type) (by kernel_rfl) (e := 132) (n := 20) (by kernel_rfl) Tryz.underlying132 (by kernel_rfl) (by kernel_rfl) h
theorem tph_of_laid {W : World} (h : laidMetH Tryz.prog laidPH W) : HG W ∧ TT W ∧ EE W := by
  have h' : laidMet Tryz.prog laidPd W ∧ handlesMet Tryz.prog laidL W := h
  exact ⟨handle_of_laid (show laidMet Tryz.prog [] W ∧ handlesMet Tryz.prog laidL W from ⟨laidMet_nil _ _, h'.2⟩), tt_of_head h'.1.tail.tail, ee_of_met h'.1.tail.tail.tail.tail⟩
noncomputable def laidWorldPH (os : Os) : World := (laidWorld os).layVars Tryz.prog laidPd
theorem laidWorldPH_met (os : Os) (args : Array Value) : laidMetH Tryz.prog laidPH ((laidWorldPH os).forCall (fun _ _ => 0) ⟨#[], args, []⟩).memory := by
  refine laidMetH_of_parts ?_ (by kernel_rfl)
  show laidMet Tryz.prog laidPd _
  have e1 : (laidPd.filter fun x => (laidPd.map (·.1)).contains x.1) = laidPd := by kernel_rfl
  have e2 : (laidPd.filter fun x => !(laidPd.map (·.1)).contains x.1) = [] := by kernel_rfl
  have h : laidMet Tryz.prog laidPd (laidWorldPH os) := laidMet_layVars (w0 := laidWorld os) (laidPd.map (·.1)) [] (by rw [e1]; rfl) (by rw [e1]; kernel_rfl) (by rw [e1]; kernel_rfl) (by rw [e2]; exact LaidIn.none)
  exact h.of_heap (by simp [World.memory, World.forCall, Input.heap])
end Go.Proofs.YtamndgeeibfmhaaGreatDoor
