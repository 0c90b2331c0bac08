/- The door where tables of the library's are listed (and the type's handle beside them). -/
import Derived.Test.YtfelefkmbbfdjaaGreatDoorDoor
import Derived.Test.YtfelefkmbbfdjaaGreatDoorWord
import Derived.Lib.LaidTab
import Derived.Stop.LaidErr
import Derived.Lay
namespace Go.Proofs.YtfelefkmbbfdjaaGreatDoor
open Go.ChangeShapes Go.WideShapes Go.RowKit Go.Lib

abbrev laidT : List (String × DataW Unit) := [("math/bits.deBruijn32tab", Rows.laid_math_bits_deBruijn32tab), ("math/bits.deBruijn64tab", Rows.laid_math_bits_deBruijn64tab), ("internal/strconv.uint64pow10", Rows.laid_internal_strconv_uint64pow10)]
abbrev laidTH : List (String × DataW Unit) := [("math/bits.deBruijn32tab", Rows.laid_math_bits_deBruijn32tab), ("math/bits.deBruijn64tab", Rows.laid_math_bits_deBruijn64tab), ("internal/strconv.uint64pow10", Rows.laid_internal_strconv_uint64pow10), ("errors.errorType", Rows.laid_errors_errorType)]
theorem tt_of_met {W : World} (h : laidMet Tryz.prog laidT W) : TT W :=
  tabIs_of_head (g := 4) (by kernel_rfl) (t := (Tryz.prog.globals[4]!).type) (by kernel_rfl) (e := 175) (n := 20) (by kernel_rfl) Tryz.underlying175 (by kernel_rfl) (by kernel_rfl) h.tail.tail
theorem tt_of_laid {W : World} (h : laidMetH Tryz.prog laidT W) : TT W := tt_of_met (show laidMet Tryz.prog laidT W from h)
noncomputable def laidWorldT (os : Os) : World := World.laidAll Tryz.prog os laidT
theorem laidWorldT_met (os : Os) (args : Array Value) : laidMetH Tryz.prog laidT ((laidWorldT os).forCall (fun _ _ => 0) ⟨#[], args, []⟩).memory := by
  show laidMet Tryz.prog laidT _
  exact laidMet_laidAll args (by kernel_rfl) (by kernel_rfl)
theorem th_of_laid {W : World} (h : laidMetH Tryz.prog laidTH W) : HG W ∧ TT W := by
  have h' : laidMet Tryz.prog laidT W ∧ handlesMet Tryz.prog laidL W := h
  exact ⟨handle_of_laid (show laidMet Tryz.prog [] W ∧ handlesMet Tryz.prog laidL W from ⟨laidMet_nil _ _, h'.2⟩), tt_of_met h'.1⟩
noncomputable def laidWorldTH (os : Os) : World := (laidWorld os).layVars Tryz.prog laidT
theorem laidWorldTH_met (os : Os) (args : Array Value) : laidMetH Tryz.prog laidTH ((laidWorldTH os).forCall (fun _ _ => 0) ⟨#[], args, []⟩).memory := by
  refine laidMetH_of_parts ?_ (by kernel_rfl)
  show laidMet Tryz.prog laidT _
  have e1 : (laidT.filter fun x => (laidT.map (·.1)).contains x.1) = laidT := by kernel_rfl
  have e2 : (laidT.filter fun x => !(laidT.map (·.1)).contains x.1) = [] := by kernel_rfl
  have h : laidMet Tryz.prog laidT (laidWorldTH os) := laidMet_layVars (w0 := laidWorld os) (laidT.map (·.1)) [] (by rw [e1]; rfl) (by rw [e1]; kernel_rfl) (by rw [e1]; kernel_rfl) (by rw [e2]; exact LaidIn.none)
  exact h.of_heap (by simp [World.memory, World.forCall, Input.heap])
end Go.Proofs.YtfelefkmbbfdjaaGreatDoor
