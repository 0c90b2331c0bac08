/- The door where tables of the library's and strconv's two errors are listed (and the type's handle beside them). -/
import Derived.Test.YtamndgeeibfmhaaDoorDoorT
import Derived.Test.YtamndgeeibfmhaaDoorVRd
import Derived.Stop.LaidErr
import Derived.SizedLaws
namespace Go.Proofs.YtamndgeeibfmhaaDoor
open Go.ChangeShapes Go.WideShapes Go.RowKit Go.Lib

abbrev laidE : List (String × DataW Unit) := [("math/bits.deBruijn32tab", Rows.laid_math_bits_deBruijn32tab), ("math/bits.deBruijn64tab", Rows.laid_math_bits_deBruijn64tab), ("internal/strconv.uint64pow10", Rows.laid_internal_strconv_uint64pow10), ("strconv.ErrRange", Rows.laid_strconv_ErrRange), ("strconv.ErrSyntax", Rows.laid_strconv_ErrSyntax)]
abbrev laidEH : List (String × DataW Unit) := [("math/bits.deBruijn32tab", Rows.laid_math_bits_deBruijn32tab), ("math/bits.deBruijn64tab", Rows.laid_math_bits_deBruijn64tab), ("internal/strconv.uint64pow10", Rows.laid_internal_strconv_uint64pow10), ("errors.errorType", Rows.laid_errors_errorType), ("strconv.ErrRange", Rows.laid_strconv_ErrRange), ("strconv.ErrSyntax", Rows.laid_strconv_ErrSyntax)]
theorem doorE.gS : Tryd.prog.globalNamed "strconv.ErrSyntax" = some 2 := by kernel_rfl
theorem doorE.gR : Tryd.prog.globalNamed "strconv.ErrRange" = some 3 := by kernel_rfl
theorem doorE.tS : (Tryd.prog.globals[2]?).map (·.type) = some 25 := by kernel_rfl
theorem doorE.tR : (Tryd.prog.globals[3]?).map (·.type) = some 25 := by kernel_rfl
theorem doorE.cE : Tryd.prog.cellsOf 196 = 1 := by kernel_rfl
theorem doorE.cS : Tryd.prog.cellsOf 9 = 1 := by kernel_rfl
theorem doorE.star : "*" ++ "errors.errorString" = "*errors.errorString" := by decide
theorem doorE.row (u : TypeId) (h : Tryd.prog.typeName? 3 u = some "*errors.errorString") : u = 194 :=
  typeName_ptr_named (nm := "errors.errorString") (by rw [doorE.star]; kernel_rfl) (by kernel_rfl) (by decide) u (by rw [doorE.star]; exact h)
theorem ee_of_met {W : World} {r : List (String × DataW Unit)} (h : laidMet Tryd.prog (("strconv.ErrRange", Rows.laid_strconv_ErrRange) :: ("strconv.ErrSyntax", Rows.laid_strconv_ErrSyntax) :: r) W) : EE W := by
  obtain ⟨a, s, hv, _⟩ := laid_sentinel h doorE.gR doorE.tR Tryd.underlying25 doorE.row Tryd.underlying194 Tryd.underlying196 rfl rfl Tryd.underlying9 doorE.cE doorE.cS
  obtain ⟨a2, s2, hv2, _⟩ := laid_sentinel h.tail doorE.gS doorE.tS Tryd.underlying25 doorE.row Tryd.underlying194 Tryd.underlying196 rfl rfl Tryd.underlying9 doorE.cE doorE.cS
  exact ⟨⟨_, _, by simpa using World.var?_cell doorE.gS hv2 0⟩, ⟨_, _, by simpa using World.var?_cell doorE.gR hv 0⟩⟩
theorem tt_of_head {W : World} {r : List (String × DataW Unit)} (h : laidMet Tryd.prog (("internal/strconv.uint64pow10", Rows.laid_internal_strconv_uint64pow10) :: r) W) : TT W :=
  tabIs_of_head (g := 6) (by kernel_rfl) (t := (Tryd.prog.globals[6]!).type) (by kernel_rfl) (e := 174) (n := 20) (by kernel_rfl) Tryd.underlying174 (by kernel_rfl) (by kernel_rfl) h
theorem te_of_met {W : World} (h : laidMet Tryd.prog laidE W) : TT W ∧ EE W := ⟨tt_of_head h.tail.tail, ee_of_met h.tail.tail.tail⟩
theorem te_of_laid {W : World} (h : laidMetH Tryd.prog laidE W) : TT W ∧ EE W := te_of_met (show laidMet Tryd.prog laidE W from h)
noncomputable def laidWorldE (os : Os) : World := World.laidAll Tryd.prog os laidE
theorem laidWorldE_met (os : Os) (args : Array Value) : laidMetH Tryd.prog laidE ((laidWorldE os).forCall (fun _ _ => 0) ⟨#[], args, []⟩).memory := by
  show laidMet Tryd.prog laidE _
  exact laidMet_laidAll args (by kernel_rfl) (by kernel_rfl)
theorem teh_of_laid {W : World} (h : laidMetH Tryd.prog laidEH W) : HG W ∧ TT W ∧ EE W := by
  have h' : laidMet Tryd.prog laidE W ∧ handlesMet Tryd.prog laidL W := h
  exact ⟨handle_of_laid (show laidMet Tryd.prog [] W ∧ handlesMet Tryd.prog laidL W from ⟨laidMet_nil _ _, h'.2⟩), te_of_met h'.1⟩
noncomputable def laidWorldEH (os : Os) : World := (laidWorld os).layVars Tryd.prog laidE
theorem laidWorldEH_met (os : Os) (args : Array Value) : laidMetH Tryd.prog laidEH ((laidWorldEH os).forCall (fun _ _ => 0) ⟨#[], args, []⟩).memory := by
  refine laidMetH_of_parts ?_ (by kernel_rfl)
  show laidMet Tryd.prog laidE _
  have e1 : (laidE.filter fun x => (laidE.map (·.1)).contains x.1) = laidE := by kernel_rfl
  have e2 : (laidE.filter fun x => !(laidE.map (·.1)).contains x.1) = [] := by kernel_rfl
  have h : laidMet Tryd.prog laidE (laidWorldEH os) := laidMet_layVars (w0 := laidWorld os) (laidE.map (·.1)) [] (by rw [e1]; rfl) (by rw [e1]; kernel_rfl) (by rw [e1]; kernel_rfl) (by rw [e2]; exact LaidIn.none)
  exact h.of_heap (by simp [World.memory, World.forCall, Input.heap])
section
variable {H : Type} {P : Program} {enc : TypeId × Value → H} {w : World} {base : Nat} {spare : Nat → Bool} {held : Bool}
/-- the reach: no text that comes in is longer -/
theorem string_reach {t : TypeId} {x : ByteArray} {d : DataW H} {p : List MemPlace} (ht : P.underlying t = some .string) (hd : DataW.Trod enc P w base spare held t (.string x) d p)
    {ts : List TypeId} {ds : List (DataW H)} (hw : (DataW.weightsEach P ts ds).all (· ≤ reachBytes) = true) (j : Nat) (h1 : ts[j]? = some t) (h2 : ds[j]? = some d) : x.size ≤ 140737488351232 := by
  obtain ⟨fuel, hf⟩ := hd
  obtain ⟨s, hc, hz, _⟩ := DataW.trod_string ht hf
  simp [Value.cells] at hc
  have hz1 : d = .lit (.string s.data.toList) := congrArg Prod.fst hz
  have := sized_string hw h1 (h2.trans (by rw [hz1]))
  rw [hc]
  show s.data.size ≤ 140737488351232
  rw [← Array.length_toList]
  exact this
end
end Go.Proofs.YtamndgeeibfmhaaDoor
