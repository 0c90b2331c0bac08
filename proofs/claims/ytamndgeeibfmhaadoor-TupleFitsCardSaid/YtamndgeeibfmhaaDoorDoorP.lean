/- The door where utf8's tables are listed too. -/
import Derived.Test.YtamndgeeibfmhaaDoorDoorE
namespace Go.Proofs.YtamndgeeibfmhaaDoor
open Go.ChangeShapes Go.WideShapes Go.RowKit Go.Lib

abbrev laidP : List (String × DataW Unit) := [("math/bits.deBruijn32tab", Rows.laid_math_bits_deBruijn32tab), ("math/bits.deBruijn64tab", Rows.laid_math_bits_deBruijn64tab), ("internal/strconv.uint64pow10", Rows.laid_internal_strconv_uint64pow10), ("unicode/utf8.acceptRanges", Rows.laid_unicode_utf8_acceptRanges), ("strconv.ErrRange", Rows.laid_strconv_ErrRange), ("strconv.ErrSyntax", Rows.laid_strconv_ErrSyntax), ("unicode/utf8.first", Rows.laid_unicode_utf8_first)]
theorem tp_of_laid {W : World} (h : laidMetH Tryd.prog laidP W) : TT W ∧ EE W :=
  have h' : laidMet Tryd.prog laidP W := h
  ⟨tt_of_head h'.tail.tail, ee_of_met h'.tail.tail.tail.tail⟩
noncomputable def laidWorldP (os : Os) : World := World.laidAll Tryd.prog os laidP
theorem laidWorldP_met (os : Os) (args : Array Value) : laidMetH Tryd.prog laidP ((laidWorldP os).forCall (fun _ _ => 0) ⟨#[], args, []⟩).memory := by
  show laidMet Tryd.prog laidP _
  exact laidMet_laidAll args (by kernel_rfl) (by kernel_rfl)
end Go.Proofs.YtamndgeeibfmhaaDoor
