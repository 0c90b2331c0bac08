/- The door where the tables of white space are listed too. -/
import Derived.Test.YtpgemofkolmabaaGreatDoorDoorT
import Derived.Stop.LaidErr
import Derived.SizedLaws
import Derived.LaidLaws
import Derived.Lay
namespace Go.Proofs.YtpgemofkolmabaaGreatDoor
open Go.ChangeShapes Go.WideShapes Go.RowKit Go.Lib

abbrev laidW : List (String × DataW Unit) := [("math/bits.deBruijn32tab", Rows.laid_math_bits_deBruijn32tab), ("math/bits.deBruijn64tab", Rows.laid_math_bits_deBruijn64tab), ("internal/strconv.uint64pow10", Rows.laid_internal_strconv_uint64pow10), ("unicode/utf8.acceptRanges", Rows.laid_unicode_utf8_acceptRanges), ("strconv.ErrRange", Rows.laid_strconv_ErrRange), ("strconv.ErrSyntax", Rows.laid_strconv_ErrSyntax), ("unicode.White_Space", Rows.laid_unicode_White_Space), ("strings.asciiSpace", Rows.laid_strings_asciiSpace), ("unicode/utf8.first", Rows.laid_unicode_utf8_first)]
theorem tw_of_laid {W : World} (h : laidMetH Tryz.prog laidW W) : TT W :=
  have h' : laidMet Tryz.prog laidW W := h
  tabIs_of_head (g := 5) (by kernel_rfl) (t := (Tryz.prog.globals[5]!).type) (by kernel_rfl) (e := 236) (n := 20) (by kernel_rfl) Tryz.underlying236 (by kernel_rfl) (by kernel_rfl) h'.tail.tail
noncomputable def laidWorldW (os : Os) : World := World.laidAll Tryz.prog os laidW
theorem laidWorldW_met (os : Os) (args : Array Value) : laidMetH Tryz.prog laidW ((laidWorldW os).forCall (fun _ _ => 0) ⟨#[], args, []⟩).memory := by
  show laidMet Tryz.prog laidW _
  exact laidMet_laidAll args (by kernel_rfl) (by kernel_rfl)
theorem laidWorldW_shaped (os : Os) (args : Array Value) : ((laidWorldW os).forCall (fun _ _ => 0) ⟨#[], args, []⟩).Shaped Tryz.prog :=
  World.shaped_of_ZipB (by kernel_rfl) (by kernel_rfl)
end Go.Proofs.YtpgemofkolmabaaGreatDoor
