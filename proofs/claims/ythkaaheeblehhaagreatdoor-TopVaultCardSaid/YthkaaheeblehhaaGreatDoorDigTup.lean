/- digest.Tuple; what PrintTells and PrintSame ask of digests. -/
import Derived.Test.YthkaaheeblehhaaGreatDoorLine
namespace Go.Proofs.YthkaaheeblehhaaGreatDoor
open Go.RowKit Go.Joins
set_option linter.unusedVariables false

/-- a tuple's number -/
def dgt (t : List Va) : Int := hs (lin t) (lin t).size
theorem digtuple_any (A : Option Addr) (c : Nat) (t : List Va) (hm : t.length ≤ maxLen) (hok : okL t) (w : World) (hA : Vals w A t) (ht : TT w) :
    Calls Tryz.prog 23 #[.slice A t.length c] w fun e w' => e = .returned (.tuple #[.int .i64 (if liE t = 0 then dgt t else 0), eV (liE t)]) ∧ Below w.heap.size w w' := by
  have c1 := tprint_any A c t hm hok w hA ht
  by_cases h : liE t = 0
  · obtain ⟨_, h5, hr⟩ := rgt_of h
    have hsz := lin_size hr t.length
    rw [List.take_length] at hsz
    have c2 := fun (W : World) => digof_any (lin t) (by unfold maxLen; omega) W
    rw [show hs (lin t) (lin t).size = dgt t from rfl] at c2
    rw [h, if_pos rfl, eV_zero] at c1
    rw [h, if_pos rfl, eV_zero]
    have C1 := Lib.hid c1; have C2 := Lib.hid c2
    generalize dgt t = z at *
    generalize lin t = tx at *
    clear c1 c2 h h5 hr hA ht hok hm hsz
    go_enter Tryz.func23, Tryz.ntmps23
    go_wp2_with (first | (go_at_call 52; refine C1.out.mono ?_; rintro e w1 ⟨rfl, hb1⟩) | (go_at_call 43; refine (C2.out _).mono ?_; rintro e w2 ⟨rfl, hb2⟩))
    go_ret2
    exact ⟨rfl, bcl hb1 hb2⟩
  · rw [if_neg h, eV_of h] at c1
    rw [if_neg h, eV_of h]
    have C1 := Lib.hid c1
    generalize liE t = E at *
    clear c1 h hA ht hok hm
    go_enter Tryz.func23, Tryz.ntmps23
    go_wp2_with (go_at_call 52; refine C1.out.mono ?_; rintro e w1 ⟨rfl, hb1⟩)
    go_ret2
    exact ⟨rfl, hb1⟩
end Go.Proofs.YthkaaheeblehhaaGreatDoor
