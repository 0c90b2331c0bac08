/- The door: what the listed variable's reading gives a walk; a world that meets it. -/
import Derived.Test.YtfelefkmbbfdjaaGreatDoorRows
import Derived.Test.YtfelefkmbbfdjaaGreatDoorAs
import Derived.ChangeSame
import Derived.ChangeVars
import Derived.JoinedOf
import Derived.RowKit
import Derived.RowKitTokens
import Derived.LaidLaws
import Derived.LaidHandle
import Derived.Stop.Joined
namespace Go.Proofs.YtfelefkmbbfdjaaGreatDoor
open Go.ChangeShapes Go.WideShapes Go.RowKit

abbrev laidL : List (String × DataW Unit) := [("errors.errorType", Rows.laid_errors_errorType)]
def rtName : String := match (Rows.laid_errors_errorType : DataW Unit) with
  | .iface s _ => s
  | _ => ""
theorem door.et : Tryz.prog.globalNamed "errors.errorType" = some 1 := by kernel_rfl
theorem door.rt : (Tryz.prog.cutTypes.find? (·.1 == rtName)).map (·.2) = some 159 := by kernel_rfl
theorem door.size : Tryz.prog.types.size = 268 := by kernel_rfl
theorem door.oneRow : ((List.range 268).filter fun t => Tryz.prog.rowNamed t [101, 114, 114, 111, 114]) = [27] := by kernel_rfl

/-- WHAT THE CONDITION GIVES A WALK: the variable's one cell. -/
theorem handle_of_laid {W : World} (h : laidMetH Tryz.prog laidL W) : HG W := by
  have h' : laidMet Tryz.prog [] W ∧ handlesMet Tryz.prog laidL W := h
  obtain ⟨name, u, ty, e1, e2, e3, e4, e5⟩ := h'.2 _ (List.mem_singleton.2 rfl)
  have en : name = [101, 114, 114, 111, 114] := (Option.some.inj e1).symm
  subst en
  obtain rfl := Option.some.inj (door.rt.symm.trans e2)
  have hm : ty ∈ (List.range 268).filter fun t => Tryz.prog.rowNamed t [101, 114, 114, 111, 114] := List.mem_filter.2 ⟨List.mem_range.2 (by rw [← door.size]; exact e3), e4⟩
  rw [door.oneRow] at hm
  obtain rfl := List.mem_singleton.1 hm
  have hh : typeHandle Tryz.prog 27 = .pointer (some ⟨12, 27, none⟩) := by kernel_rfl
  rw [hh] at e5
  unfold HG
  simpa using World.var?_cell door.et e5 0

/-- A world that meets the condition: the settled one, the variable's cell laid. -/
noncomputable def laidWorld (os : Os) : World :=
  let w0 := World.holding Tryz.prog os ⟨#[], #[], []⟩
  { w0 with heap := w0.heap.modify 1 fun
      | .cells _ t frozen => .cells #[.iface 159 (.agg #[.pointer (some ⟨12, 27, none⟩)])] t frozen
      | o => o }
theorem laidWorld_met (os : Os) (args : Array Value) : laidMetH Tryz.prog laidL ((laidWorld os).forCall (fun _ _ => 0) ⟨#[], args, []⟩).memory :=
  laidMetH_of_parts (laidMet_nil _ _) (by kernel_rfl)
theorem door.own : ownKnob Tryz.prog.godebug = none := by kernel_rfl
theorem door.laidOut : laidOutB Tryz.prog = true := by kernel_rfl
end Go.Proofs.YtfelefkmbbfdjaaGreatDoor
