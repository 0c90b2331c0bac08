/- A space in memory: what holds of it, what a change of it leaves as it was; Put, Take, Read, All. -/
import Derived.Test.YtfelefkmbbfdjaaGreatDoorSpace
import Derived.Deep.AppendLies
import Derived.StillTailTactics
namespace Go.Proofs.YtfelefkmbbfdjaaGreatDoor
open Go.ChangeShapes Go.WideShapes Go.ChangeAt Go.RowKit
set_option linter.unusedVariables false

/-- every old block but p's and g's is as it was -/
structure Chg (p : Nat) (g : Option Nat) (w w' : World) : Prop where
  os : w'.os = w.os
  tape : w'.tape = w.tape
  output : w'.output = w.output
  size : w.heap.size ≤ w'.heap.size
  block : ∀ b, b < w.heap.size → b ≠ p → some b ≠ g → w'.heap[b]? = w.heap[b]?
/-- the outer array is the elder one, or a new one -/
def Nw (g g' : Option Nat) (n : Nat) : Prop := g' = g ∨ ∃ b, g' = some b ∧ n ≤ b
section
variable {p : Nat} {g g' g'' : Option Nat} {w w' w'' : World}
theorem Chg.refl (p : Nat) (g : Option Nat) (w : World) : Chg p g w w := ⟨rfl, rfl, rfl, Nat.le_refl _, fun _ _ _ _ => rfl⟩
theorem Chg.of_below (h : Below w.heap.size w w') : Chg p g w w' := ⟨h.os, h.tape, h.output, h.size, fun b hb _ _ => h.block b hb⟩
theorem Nw.refl (g : Option Nat) (n : Nat) : Nw g g n := .inl rfl
theorem Chg.trans (h : Chg p g w w') (k : Chg p g' w' w'') (n : Nw g g' w.heap.size) : Chg p g w w'' :=
  ⟨k.os.trans h.os, k.tape.trans h.tape, k.output.trans h.output, Nat.le_trans h.size k.size, fun b hb h1 h2 => by
    have h3 := h.size
    refine (k.block b (by omega) h1 ?_).trans (h.block b hb h1 h2)
    rcases n with rfl | ⟨c, rfl, hc⟩
    · exact h2
    · intro e; injection e with e; omega⟩
theorem Nw.trans {n m : Nat} (h : Nw g g' n) (k : Nw g' g'' m) (hm : n ≤ m) : Nw g g'' n := by
  rcases k with rfl | ⟨c, rfl, hc⟩
  · exact h
  · exact .inr ⟨c, rfl, by omega⟩
theorem Chg.then_below (h : Chg p g w w') (k : Below w'.heap.size w' w'') : Chg p g w w'' := h.trans (Chg.of_below (g := g) k) (Nw.refl _ _)
theorem Chg.below {base : Nat} (h : Chg p g w w') (hp : base ≤ p) (hg : ∀ b, g = some b → base ≤ b) (hb : base ≤ w.heap.size) : Below base w w' :=
  ⟨h.os, h.tape, h.output, h.size, fun b h1 => h.block b (by omega) (by omega) (fun e => by have := hg b e.symm; omega)⟩
end

section
variable {α : Type} {Q : World → Option Addr → List α → Prop} {t e : TypeId} {w w' : World} {base c : Nat} {A : Option Addr} {L : List (List α)}
theorem OMany.gkin (h : OMany Q t e w base A c L) {g : Nat} (hg : (Value.slice A L.length c).ownBlock = some g) : base ≤ g ∧ kin w g t := by
  obtain ⟨vs, h1, _⟩ := h
  exact own_block_of h1 hg
/-- all that a slice of slices lies in stays -/
theorem OMany.stay (hQ : QStay Q) (h : OMany Q t e w base A c L) (hbs : base ≤ w.heap.size) (hz : w.heap.size ≤ w'.heap.size)
    (hs : ∀ b, b < w.heap.size → (b < base ∨ kin w b e ∨ (Value.slice A L.length c).ownBlock = some b) → w'.heap[b]? = w.heap[b]?) : OMany Q t e w' base A c L := by
  obtain ⟨vs, h1, h2⟩ := h
  refine ⟨vs, ⟨h1.1, ?_⟩, fun i hi => ?_⟩
  · rcases h1.2 with h3 | ⟨g, cap, cur, h3, h4, h5, h6⟩
    · exact .inl h3
    · exact .inr ⟨g, cap, cur, h3, h4, (hs g (Array.getElem?_eq_some_iff.1 h5).1 (.inr (.inr (by rw [h3]; rfl)))).trans h5, h6⟩
  · obtain ⟨B, C, e1, q, k1, k2, k3⟩ := h2 i hi
    have hst : ∀ a, B = some a → w'.heap[a.block]? = w.heap[a.block]? := fun a ha => hs _ (k3.lt hbs ha) (by
      rcases k3 a ha with h | h
      · exact .inl h
      · exact .inr (.inl h))
    exact ⟨B, C, e1, hQ _ _ _ _ hz hst q, k1, k2, k3.stay hst⟩
end

/-- a space at p, its outer array at g, with the tuples L; all that it made lies at base or behind it -/
structure Spc (w : World) (base p : Nat) (g : Option Nat) (L : List (List Va)) : Prop where
  there : ∃ A c, w.heap[p]? = some (.cells #[.slice A L.length c] 113) ∧ (Value.slice A L.length c).ownBlock = g ∧ OMany Vals 32 31 w base A c L
  hp : base ≤ p
  hb : base ≤ w.heap.size
  len : L.length ≤ 20
  ok : ∀ l ∈ L, okL l ∧ tuE l = 0
theorem cell_of_one {w : World} {p : Nat} {v : Value} {t : TypeId} (h : w.heap[p]? = some (.cells #[v] t)) : w.cell? ⟨p, 0, none⟩ = some v ∧ w.frozen? ⟨p, 0, none⟩ = false := by
  constructor
  · simp [World.cell?, h]
  · simp [World.frozen?, h]
theorem kin_ne {w : World} {b c : Nat} {u v : TypeId} (h : kin w b u) (k : kin w c v) (huv : u ≠ v) : b ≠ c := fun e => huv (by subst e; exact h.ne k)
section
variable {w w' : World} {base p p2 : Nat} {g g2 g' : Option Nat} {L L2 : List (List Va)}
theorem Spc.kin (h : Spc w base p g L) : Go.Proofs.YtfelefkmbbfdjaaGreatDoor.kin w p 113 := by obtain ⟨A, c, h1, _⟩ := h.there; exact ⟨_, h1⟩
theorem Spc.lt (h : Spc w base p g L) : p < w.heap.size := h.kin.lt
theorem Spc.gkin (h : Spc w base p g L) {b : Nat} (hg : g = some b) : base ≤ b ∧ Go.Proofs.YtfelefkmbbfdjaaGreatDoor.kin w b 32 := by
  obtain ⟨A, c, _, h2, h3⟩ := h.there; exact h3.gkin (h2.trans hg)
/-- one space stays while another one is changed -/
theorem Spc.far (h : Spc w base p g L) (k : Chg p2 g2 w w') (hp : p ≠ p2) (hk : Go.Proofs.YtfelefkmbbfdjaaGreatDoor.kin w p2 113) (hp2 : base ≤ p2) (hg : ∀ b, g2 = some b → base ≤ b ∧ Go.Proofs.YtfelefkmbbfdjaaGreatDoor.kin w b 32 ∧ g ≠ some b) : Spc w' base p g L := by
  obtain ⟨A, c, h1, h2, h3⟩ := h.there
  refine ⟨⟨A, c, ?_, h2, h3.stay vals_stay h.hb k.size fun b hb hw => k.block b hb ?_ ?_⟩, h.hp, Nat.le_trans h.hb k.size, h.len, h.ok⟩
  · refine (k.block p h.lt hp fun e => ?_).trans h1
    exact kin_ne h.kin (hg p e.symm).2.1 (by decide) rfl
  · rintro rfl
    rcases hw with hw | hw | hw
    · omega
    · exact kin_ne hw hk (by decide) rfl
    · exact kin_ne (h3.gkin hw).2 hk (by decide) rfl
  · intro e
    obtain ⟨q1, q2, q3⟩ := hg b e.symm
    rcases hw with hw | hw | hw
    · omega
    · exact kin_ne hw q2 (by decide) rfl
    · exact q3 (h2.symm.trans hw)
theorem Spc.keep (h : Spc w base p g L) (hb : Below w.heap.size w w') : Spc w' base p g L := by
  obtain ⟨A, c, h1, h2, h3⟩ := h.there
  exact ⟨⟨A, c, (hb.block p h.lt).trans h1, h2, h3.keep vals_stay h.hb hb⟩, h.hp, Nat.le_trans h.hb hb.size, h.len, h.ok⟩
theorem Spc.drew (h : Spc w base p g L) : Spc w.drew base p g L := h.keep (bdr (Below.refl _ _))
theorem Spc.below (h : Spc w base p g L) (k : Chg p g w w') : Below base w w' := k.below h.hp (fun b e => (h.gkin e).1) h.hb
theorem Spc.new (w : World) {base : Nat} (hb : base ≤ w.heap.size) : Spc (w.alloc (.cells #[.slice none 0 0] 113)) base w.heap.size none [] :=
  ⟨⟨none, 0, heap_alloc_new w _, rfl, OMany.nil⟩, hb, le_al hb _, by simp, fun l h => by simp at h⟩
end
end Go.Proofs.YtfelefkmbbfdjaaGreatDoor
