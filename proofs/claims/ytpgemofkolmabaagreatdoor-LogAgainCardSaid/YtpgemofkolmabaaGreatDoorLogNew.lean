/- Package log: New; package mirror: Again. -/
import Derived.Test.YtpgemofkolmabaaGreatDoorLog1
import Derived.WalkKit
import Derived.WalkLawsBesides
import Derived.WalkSpells
import Derived.RegionTactic
import Derived.Deep.QuietTactic
import Derived.BigQuiet
import Derived.Outline
namespace Go.Proofs.YtpgemofkolmabaaGreatDoor
open Go.ChangeShapes Go.WideShapes Go.ChangeAt Go.RowKit Go.Joins Go.Deep Go.Maps Go.WideMaps
set_option linter.unusedVariables false

set_option maxHeartbeats 1600000 in
set_option maxRecDepth 100000 in
theorem lgnew_ok {w : World} {base : Nat} (hb : base ≤ w.heap.size) (A : Option Addr) (c : Nat) (X : List Rx) (hX : RX w base A X) (hr : rulE (X.map (·.1)) = 0) (ho : okR (X.map (·.1))) :
    Calls Tryz.prog 10 #[.slice A X.length c] w fun e w' => ∃ P p q m, e = .returned (.tuple #[.pointer (some ⟨P, 0, none⟩), .nilIface]) ∧ Lg w' base P p q none m (X.map (·.1)) Cs.zero ⟨#[]⟩ 0 0 (-1) false ∧ Below w.heap.size w w' ∧ w.heap.size ≤ P ∧ w.heap.size ≤ p ∧ w.heap.size ≤ q ∧ w.heap.size ≤ m := by
  obtain ⟨h8, h5⟩ := ru_lens hr
  have hl : (X.map (·.1)).length = X.length := by simp
  have cn := cpnew_ok hb A c X hX hr ho
  have co := fun (W : World) (hW : Below w.heap.size w W) => ruown_any (w := W) (base := base) (Nat.le_trans hb hW.size) A c X (hX.below hb hW) h8 h5
  have CN := Lib.hid cn; have CO := Lib.hid co; have HL := Lib.hid hl
  clear cn co hX hr ho h5 hl
  go_enter Tryz.func10, Tryz.ntmps10
  go_wp2_with (first
    | (go_at_call 31; refine CN.out.mono ?_; rintro e w1 ⟨p, q, m, rfl, hC1, hb1, hp1, hq1, hm1⟩; have HC1 := Lib.hid hC1; have HB1 := Lib.hid hb1; clear hC1 hb1)
    | (go_at_call 39; refine (CO.out _ HB1.out).mono ?_; rintro e w2 ⟨A2, c2, rfl, ho2, hb2⟩; have HB2 := Lib.hid hb2; have HO2 := Lib.hid ho2; clear hb2 ho2))
  go_ret2
  have hb23 := bal1 w2 (.cells #[.slice A2 X.length c2, .pointer (some ⟨p, 0, none⟩), .string ⟨#[]⟩, .int .i64 0, .int .i64 0, .int .i64 (-1), .bool false] 88)
  have hP := AtB.new w2 #[.slice A2 X.length c2, .pointer (some ⟨p, 0, none⟩), .string ⟨#[]⟩, .int .i64 0, .int .i64 0, .int .i64 (-1), .bool false] 88
  have hz1 := HB1.out.size
  have hz2 := HB2.out.size
  refine ⟨w2.heap.size, p, q, m, rfl, ⟨⟨A2, c2, by rw [HL.out]; exact hP, HO2.out.keep (by omega) hb23⟩, (HC1.out.keep HB2.out).keep hb23, by omega⟩, bcl (bcl HB1.out HB2.out) hb23, by omega, hp1, hq1, hm1⟩
set_option maxHeartbeats 800000 in
theorem lgnew_no {w : World} (A : Option Addr) (c : Nat) (l : List Ru) (hm : l.length ≤ maxLen) (hA : Rls w A l) (hr : rulE l ≠ 0) (ho : okR l) :
    Calls Tryz.prog 10 #[.slice A l.length c] w fun e w' => e = .returned (.tuple #[.pointer none, errV (rulE l)]) ∧ Below w.heap.size w w' := by
  have cn := cpnew_no A c l hm hA hr ho
  have CN := Lib.hid cn
  clear cn hA ho hr hm
  generalize rulE l = E at *
  go_enter Tryz.func10, Tryz.ntmps10
  go_wp2_with (go_at_call 31; refine CN.out.mono ?_; rintro e w1 ⟨rfl, hb1⟩)
  go_ret2
  exact ⟨rfl, hb1⟩
section
variable {w w' : World} {base P p q m : Nat} {g : Option Nat} {R : List Ru} {s : Cs} {b : ByteArray} {sf mn : Nat} {lf : Int} {st : Bool}
theorem Lg.cells (h : Lg w base P p q g m R s b sf mn lf st) : w.cell? ⟨P, 1, none⟩ = some (.pointer (some ⟨p, 0, none⟩)) ∧ w.cell? ⟨P, 2, none⟩ = some (.string b) ∧ w.cell? ⟨P, 3, none⟩ = some (.int .i64 sf) ∧ w.cell? ⟨P, 4, none⟩ = some (.int .i64 mn) ∧ w.cell? ⟨P, 5, none⟩ = some (.int .i64 lf) ∧ w.cell? ⟨P, 6, none⟩ = some (.bool st) := by
  obtain ⟨A, c, h1, _⟩ := h.there
  exact ⟨h1.cell rfl, h1.cell rfl, h1.cell rfl, h1.cell rfl, h1.cell rfl, h1.cell rfl⟩
theorem Lg.frozen (h : Lg w base P p q g m R s b sf mn lf st) (i : Nat) : w.frozen? ⟨P, i, none⟩ = false := by
  obtain ⟨A, c, h1, _⟩ := h.there
  exact h1.frozen i
theorem lgbytes_any (h : Lg w base P p q g m R s b sf mn lf st) : Calls Tryz.prog 13 #[.pointer (some ⟨P, 0, none⟩)] w fun e w' => e = .returned (.int .i64 b.size) ∧ w = w' := by
  obtain ⟨_, c2, _⟩ := h.cells
  go_enter Tryz.func13, Tryz.ntmps13
  go_wp2_with fail
  go_ret
  exact ⟨rfl, rfl⟩
end
end Go.Proofs.YtpgemofkolmabaaGreatDoor
