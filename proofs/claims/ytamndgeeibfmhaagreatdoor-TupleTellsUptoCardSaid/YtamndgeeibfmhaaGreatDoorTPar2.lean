/- tuple.Parse, any text; the reference's Cut and ReadTuple. -/
import Derived.Test.YtamndgeeibfmhaaGreatDoorTPar
import Derived.Test.YtamndgeeibfmhaaGreatDoorRRd2
import Derived.Test.YtamndgeeibfmhaaGreatDoorOStr
namespace Go.Proofs.YtamndgeeibfmhaaGreatDoor
open Go.RowKit Go.Joins
set_option linter.unusedVariables false

theorem tp_empty {s : ByteArray} (h : s.size = 0) : tpE s = 5 ∧ tpR s = [] := by
  have h1 : tpE s = 5 := if_pos h
  exact ⟨h1, by rw [tpR, if_neg (by rw [h1]; decide)]⟩
theorem tparse_nil (w : World) : Calls Tryz.prog 14 #[.string ⟨#[]⟩] w fun e w' => e = .returned (.tuple #[.slice none 0 0, errV 5]) ∧ Below w.heap.size w w' := by
  go_enter Tryz.func14, Tryz.ntmps14
  go_wp2
  exact bodyPost_ret (v := .tuple #[.slice none 0 0, errV 5]) (by simp [results, Tryz.results14, go_sem]) rfl ⟨rfl, (by repeat (first | exact Below.refl _ _ | assumption | refine bal ?_ _ | refine bdn ?_ _ | refine bdr ?_ | refine bcl ?_ (by assumption)))⟩
theorem tparse_any (s : ByteArray) (hs : s.size ≤ 140737488351232) (hl : (pcsB 44 s).length ≤ 4000000) (w : World) (ht : TT w) (he : EE w) :
    Calls Tryz.prog 14 #[.string s] w fun e w' => (∃ (A : Option Addr) (c : Nat), e = .returned (.tuple #[.slice A (tpR s).length c, eV (tpE s)]) ∧ OVals w' w.heap.size A c (tpR s)) ∧ Below w.heap.size w w' := by
  by_cases h0 : 0 < s.size
  · exact callsIn_wide.1 (tparse_in s hs h0 hl w ht he)
  · obtain ⟨e1, e2⟩ := tp_empty (show s.size = 0 by omega)
    obtain rfl := emp_of (show s.size = 0 by omega)
    rw [e1, e2]
    exact (tparse_nil w).mono fun e w' ⟨h1, h2⟩ => ⟨⟨none, 0, h1, OVals.nil⟩, h2⟩
end Go.Proofs.YtamndgeeibfmhaaGreatDoor
