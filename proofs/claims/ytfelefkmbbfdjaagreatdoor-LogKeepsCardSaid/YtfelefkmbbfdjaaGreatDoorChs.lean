/- What a call changes: every old block but those that are told is as it was; a block that is known whole. -/
import Derived.Test.YtfelefkmbbfdjaaGreatDoorNest
import Derived.Test.YtfelefkmbbfdjaaGreatDoorBase
import Derived.ChangeMaps
import Derived.Test.YtfelefkmbbfdjaaGreatDoorSpc
namespace Go.Proofs.YtfelefkmbbfdjaaGreatDoor
open Go.ChangeShapes Go.WideShapes Go.ChangeAt Go.RowKit
set_option linter.unusedVariables false

/-! ### what changes -/
/-- every old block but those that M tells is as it was -/
structure Chs (M : Nat → Prop) (w w' : World) : Prop where
  os : w'.os = w.os
  tape : w'.tape = w.tape
  output : w'.output = w.output
  size : w.heap.size ≤ w'.heap.size
  block : ∀ b, b < w.heap.size → ¬ M b → w'.heap[b]? = w.heap[b]?
section
variable {M M' : Nat → Prop} {w w' w'' : World}
theorem Chs.refl (M : Nat → Prop) (w : World) : Chs M w w := ⟨rfl, rfl, rfl, Nat.le_refl _, fun _ _ _ => rfl⟩
theorem Chs.of_below (M : Nat → Prop) (h : Below w.heap.size w w') : Chs M w w' := ⟨h.os, h.tape, h.output, h.size, fun b hb _ => h.block b hb⟩
theorem Chs.trans (h : Chs M w w') (k : Chs M' w' w'') (hM : ∀ b, M' b → M b ∨ w.heap.size ≤ b) : Chs M w w'' :=
  ⟨k.os.trans h.os, k.tape.trans h.tape, k.output.trans h.output, Nat.le_trans h.size k.size, fun b hb h1 => by
    have := h.size
    refine (k.block b (by omega) fun h2 => ?_).trans (h.block b hb h1)
    rcases hM b h2 with h3 | h3
    · exact h1 h3
    · omega⟩
theorem Chs.mono (h : Chs M w w') (hM : ∀ b, M b → M' b) : Chs M' w w' := ⟨h.os, h.tape, h.output, h.size, fun b hb h1 => h.block b hb fun h2 => h1 (hM b h2)⟩
theorem Chs.below {base : Nat} (h : Chs M w w') (hM : ∀ b, M b → base ≤ b) (hb : base ≤ w.heap.size) : Below base w w' :=
  ⟨h.os, h.tape, h.output, h.size, fun b h1 => h.block b (by omega) fun h2 => by have := hM b h2; omega⟩
theorem Chs.of_chg {p : Nat} {g : Option Nat} (h : Chg p g w w') : Chs (fun b => b = p ∨ g = some b) w w' :=
  ⟨h.os, h.tape, h.output, h.size, fun b hb h1 => h.block b hb (fun e => h1 (.inl e)) (fun e => h1 (.inr e.symm))⟩
theorem Chs.grown {row : Option Nat} (h : w.grownBy w' row) : Chs (fun b => row = some b) w w' := ⟨h.os, h.tape, h.output, h.size, fun b hb h1 => h.block b hb fun e => h1 e.symm⟩
theorem Chs.set (w : World) (p : Addr) (u : Value) : Chs (fun b => b = p.block) w (w.setCell p u) :=
  ⟨rfl, rfl, rfl, ((Below.refl 0 w).setCell (p := p) (Nat.zero_le _) u).size, fun b _ h1 => Below.heap_setCell w p u b h1⟩
end
/-- block b is just these cells -/
def AtB (w : World) (b : Nat) (cs : Array Value) (t : TypeId) : Prop := w.heap[b]? = some (.cells cs t)
section
variable {w w' : World} {b : Nat} {cs : Array Value} {t : TypeId}
theorem AtB.lt (h : AtB w b cs t) : b < w.heap.size := (Array.getElem?_eq_some_iff.1 h).1
theorem AtB.cell (h : AtB w b cs t) {i : Nat} {v : Value} (hi : cs[i]? = some v) : w.cell? ⟨b, i, none⟩ = some v := by
  rw [← hi]; exact cell_of_row w b i cs t (0, 0) h
theorem AtB.frozen (h : AtB w b cs t) (i : Nat) : w.frozen? ⟨b, i, none⟩ = false := by unfold AtB at h; simp [World.frozen?, h]
theorem AtB.kin (h : AtB w b cs t) : Go.Proofs.YtfelefkmbbfdjaaGreatDoor.kin w b t := ⟨cs, h⟩
theorem AtB.stay (h : AtB w b cs t) (hb : w'.heap[b]? = w.heap[b]?) : AtB w' b cs t := hb.trans h
theorem AtB.below {B : Nat} (h : AtB w b cs t) (hb : Below B w w') (hB : b < B) : AtB w' b cs t := (hb.block b hB).trans h
theorem AtB.chs {M : Nat → Prop} (h : AtB w b cs t) (k : Chs M w w') (hM : ¬ M b) : AtB w' b cs t := (k.block b h.lt hM).trans h
theorem AtB.alloc (h : AtB w b cs t) (o : Obj) : AtB (w.alloc o) b cs t := (Below.heap_alloc _ _ _ h.lt).trans h
theorem AtB.new (w : World) (cs : Array Value) (t : TypeId) : AtB (w.alloc (.cells cs t)) w.heap.size cs t := heap_alloc_new w _
theorem AtB.set (h : AtB w b cs t) (i : Nat) (u : Value) : AtB (w.setCell ⟨b, i, none⟩ u) b (cs.setIfInBounds i u) t := by
  unfold AtB at h ⊢
  simp [World.setCell, Array.getElem?_modify, h]
theorem AtB.far (h : AtB w b cs t) {p : Addr} (hp : b ≠ p.block) (u : Value) : AtB (w.setCell p u) b cs t := (Below.heap_setCell w p u b hp).trans h
end
end Go.Proofs.YtfelefkmbbfdjaaGreatDoor
