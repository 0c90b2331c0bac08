/- A space and the reference's side by side. -/
import Derived.Test.YthkaaheeblehhaaDoorRSpOps
import Derived.Test.YthkaaheeblehhaaDoorOnce
import Derived.Test.YthkaaheeblehhaaDoorDoor
namespace Go.Proofs.YthkaaheeblehhaaDoor
open Go.ChangeShapes Go.WideShapes Go.ChangeAt Go.RowKit
set_option linter.unusedVariables false

/-- what a Read or a Take gives, and what it leaves -/
def rT (a : List Va) (L : List (List Va)) : List Va := if finE a L = 0 then gg L (plc a L).toNat else []
def rL (a : List Va) (L : List (List Va)) : List (List Va) := if finE a L = 0 then L.eraseIdx (plc a L).toNat else L
theorem fin_at {a : List Va} {L : List (List Va)} (h : finE a L = 0) : ∃ k : Nat, k < L.length ∧ plc a L = (k : Int) ∧ rT a L = gg L k ∧ rL a L = L.eraseIdx k := by
  obtain ⟨k, hk, hp, _⟩ := plc_at (fin_zero h).2
  have ht : (plc a L).toNat = k := by rw [hp]; rfl
  exact ⟨k, hk, hp, by rw [rT, if_pos h, ht], by rw [rL, if_pos h, ht]⟩
theorem vals_nil {w : World} {B : Option Addr} : Vals w B [] := Sl.zero
theorem vin_nil {w : World} {base : Nat} {B : Option Addr} : Vin w base B [] := ⟨vals_nil, fun h => absurd h (by simp)⟩
theorem Chg.chs {p : Nat} {g : Option Nat} {w w' : World} (k : Chg p g w w') : Chs (RM p g) w w' := ⟨k.os, k.tape, k.output, k.size, fun b hb h => k.block b hb (fun e => h (.inl e)) (fun e => h (.inr e.symm))⟩
theorem Spc.farC {w w' : World} {base p : Nat} {g : Option Nat} {L : List (List Va)} {M : Nat → Prop} (h : Spc w base p g L) (k : Chs M w w') (hM : ∀ b, M b → base ≤ b ∧ ¬ Go.Proofs.YthkaaheeblehhaaDoor.kin w b 40 ∧ b ≠ p ∧ g ≠ some b) : Spc w' base p g L := by
  obtain ⟨A, c, h1, h2, h3⟩ := h.there
  have hs : ∀ b, b < w.heap.size → (b < base ∨ Go.Proofs.YthkaaheeblehhaaDoor.kin w b 40 ∨ b = p ∨ g = some b) → w'.heap[b]? = w.heap[b]? := fun b h1 h2 => k.block b h1 fun h3 => by
    obtain ⟨q1, q2, q3, q4⟩ := hM b h3
    rcases h2 with h2 | h2 | h2 | h2
    · omega
    · exact q2 h2
    · exact q3 h2
    · exact q4 h2
  refine ⟨⟨A, c, (hs p h.lt (.inr (.inr (.inl rfl)))).trans h1, h2, h3.stay vals_stay h.hb k.size fun b hb hw => hs b hb ?_⟩, h.hp, Nat.le_trans h.hb k.size, h.len, h.ok⟩
  rcases hw with hw | hw | hw
  · exact .inl hw
  · exact .inr (.inl hw)
  · exact .inr (.inr (.inr (h2.symm.trans hw)))
section
variable {w0 w w' : World} {p p2 : Nat} {g g2 g' g2' : Option Nat} {L L2 L' L2' : List (List Va)}
end
end Go.Proofs.YthkaaheeblehhaaDoor
