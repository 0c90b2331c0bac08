/- Package crowd: Mark; Do of too many who lie; what wins, in two words. -/
import Derived.Test.YthkaaheeblehhaaGreatDoorCpRef
import Derived.Test.YthkaaheeblehhaaGreatDoorRefWin
import Derived.OwnWalk
namespace Go.Proofs.YthkaaheeblehhaaGreatDoor
open Go.ChangeShapes Go.WideShapes Go.ChangeAt Go.RowKit
set_option linter.unusedVariables false

/-- what wins, and the fault -/
def winS (ss : List ByteArray) (need : Int) : ByteArray := match wn ss need ss.length with
  | some i => gs ss i
  | none => ⟨#[]⟩
def winE (ss : List ByteArray) (need : Int) : Int := match wn ss need ss.length with
  | some _ => 0
  | none => 5
theorem winV_parts (ss : List ByteArray) (need : Int) : winV ss need = .tuple #[.string (winS ss need), eV (winE ss need)] := by
  unfold winV winS winE
  cases wn ss need ss.length with
  | some i => rw [eV_zero]
  | none => rfl
theorem swV_parts (ss : List ByteArray) (need : Int) : swV ss need = .tuple #[.string (winS ss need), .bool (winE ss need == 0)] := by
  unfold swV winS winE
  cases wn ss need ss.length with
  | some i => rfl
  | none => rfl
theorem winE_or (ss : List ByteArray) (need : Int) : winE ss need = 0 ∨ winE ss need = 5 := by
  unfold winE
  cases wn ss need ss.length with
  | some i => exact .inl rfl
  | none => exact .inr rfl
section
variable {w : World} {base p c n : Nat} {A : Option Addr} {D : Nat → Dq} {R : List Ru} {s : Cs}
set_option maxHeartbeats 800000 in
theorem crdo_shape (hC : Crw w base p A c n D R (fun _ => s)) (a : Ak) (TA : Option Addr) (tc : Nat) (LA : Option Addr) (lc : Nat) (lies : List ByteArray) (hl : n < lies.length) :
    Calls Tryz.prog 19 #[.pointer (some ⟨p, 0, none⟩), akv a TA tc, .slice LA lies.length lc] w fun e w' => e = .returned (.tuple #[.string ⟨#[]⟩, errV 3]) ∧ Below w.heap.size w w' := by
  obtain ⟨x, q', d, t⟩ := a
  simp only [akv]
  have p0 : (w.alloc (.cells #[.int .i64 x, .int .i64 q', .int .i64 d, .slice TA t.length tc] 37)).cell? ⟨p, 0, none⟩ = some (.slice A n c) := ((hC.keep (bal1 _ _)).there).cell rfl
  have g1 : (n : Int) < (lies.length : Nat) := by omega
  clear hC
  go_enter Tryz.func19, Tryz.ntmps19
  go_wp2_with fail
  go_ret2
  exact ⟨rfl, bal1 _ _⟩
set_option maxHeartbeats 800000 in
set_option maxRecDepth 100000 in
theorem crmark_any (hC : Crw w base p A c n D R (fun _ => s)) (ht : ∀ W, Below base w W → TT W) (i : Int) (n7 : n ≤ 7) :
    Calls Tryz.prog 20 #[.pointer (some ⟨p, 0, none⟩), .int .i64 i] w fun e w' => e = .returned (if 0 ≤ i ∧ i < n then .tuple #[.int .i64 s.n, .int .i64 (mkV s), .nilIface] else .tuple #[.int .i64 0, .int .i64 0, errV 1]) ∧ Below w.heap.size w w' := by
  have p0 : w.cell? ⟨p, 0, none⟩ = some (.slice A n c) := hC.there.cell rfl
  by_cases h0 : 0 ≤ i
  · obtain ⟨k, rfl⟩ := Int.eq_ofNat_of_zero_le h0
    by_cases h1 : k < n
    · rw [if_pos ⟨h0, by omega⟩]
      obtain ⟨g, rfl, hgz, hc⟩ := hC.at_ h1
      have i1 : (k : Int) < (n : Int) := by omega
      have hcm := cpmark_any (hC.cp k h1) ht
      have CM_ := Lib.hid hcm
      clear hcm hC ht
      go_enter Tryz.func20, Tryz.ntmps20
      go_wp2_with (go_at_call 12; refine CM_.out.mono ?_; rintro e w2 ⟨rfl, hb2⟩)
      go_ret3
      exact ⟨rfl, hb2⟩
    · have i1 : decide ((n : Int) ≤ (k : Int)) = true := by simp; omega
      rw [if_neg (fun h => h1 (by omega))]
      clear hC ht
      go_enter Tryz.func20, Tryz.ntmps20
      go_wp2_with fail
      go_ret3
      exact ⟨rfl, Below.refl _ _⟩
  · rw [if_neg (fun h => h0 h.1)]
    have i1 : decide (i < 0) = true := by simp; omega
    clear hC ht
    go_enter Tryz.func20, Tryz.ntmps20
    go_wp2_with fail
    go_ret3
    exact ⟨rfl, Below.refl _ _⟩
end
end Go.Proofs.YthkaaheeblehhaaGreatDoor
