/- Two copies side by side. -/
import Derived.Test.YthkaaheeblehhaaDoorCpDo
import Derived.Test.YthkaaheeblehhaaDoorCpNew
import Derived.Test.YthkaaheeblehhaaDoorCpMark
namespace Go.Proofs.YthkaaheeblehhaaDoor
open Go.ChangeShapes Go.WideShapes Go.ChangeAt Go.RowKit Go.Maps Go.WideMaps
set_option linter.unusedVariables false

/-- none of what is changed is one of this copy's -/
theorem Cpy.apart {w w' : World} {base p q m : Nat} {g : Option Nat} {R : List Ru} {s : Cs} {M : Nat → Prop} (h : Cpy w base p q g m R s) (k : Chs M w w') (hM : ∀ b, M b → base ≤ b ∧ ¬ kin w b 40 ∧ ¬ kin w b 42) (hd : ∀ b, M b → ¬ CM p q g m b) : Cpy w' base p q g m R s :=
  h.far k fun b hb => ⟨(hM b hb).1, (hM b hb).2.1, (hM b hb).2.2, hd b hb⟩
theorem Cpy.mine {w : World} {base p q m : Nat} {g : Option Nat} {R : List Ru} {s : Cs} (h : Cpy w base p q g m R s) : ∀ b, CM p q g m b → base ≤ b ∧ ¬ kin w b 40 ∧ ¬ kin w b 42 := fun b hb => ⟨h.own b hb, (h.kinds b hb).1, (h.kinds b hb).2⟩
structure C2 (w0 w : World) (p q : Nat) (g : Option Nat) (m : Nat) (R : List Ru) (s : Cs) (p2 q2 : Nat) (g2 : Option Nat) (m2 : Nat) (R2 : List Ru) (s2 : Cs) : Prop where
  b : Below w0.heap.size w0 w
  c : Cpy w w0.heap.size p q g m R s
  c2 : Cpy w w0.heap.size p2 q2 g2 m2 R2 s2
  d : ∀ b, CM p q g m b → ¬ CM p2 q2 g2 m2 b
section
variable {w0 w w' : World} {p q m p2 q2 m2 : Nat} {g g' g2 : Option Nat} {R R2 : List Ru} {s s' s2 : Cs}
theorem C2.keep (j : C2 w0 w p q g m R s p2 q2 g2 m2 R2 s2) (k : Below w.heap.size w w') : C2 w0 w' p q g m R s p2 q2 g2 m2 R2 s2 :=
  ⟨bcl j.b k, j.c.keep k, j.c2.keep k, j.d⟩
theorem C2.swap (j : C2 w0 w p q g m R s p2 q2 g2 m2 R2 s2) : C2 w0 w p2 q2 g2 m2 R2 s2 p q g m R s :=
  ⟨j.b, j.c2, j.c, fun b h k => j.d b k h⟩
/-- the first one has done something -/
theorem C2.step (j : C2 w0 w p q g m R s p2 q2 g2 m2 R2 s2) (hc : Cpy w' w0.heap.size p q g' m R s') (k : Chs (CM p q g m) w w') (n : Nw g g' w.heap.size) : C2 w0 w' p q g' m R s' p2 q2 g2 m2 R2 s2 := by
  refine ⟨j.b.trans (k.below j.c.own j.c.hb), hc, j.c2.apart k j.c.mine j.d, fun b hb h2 => ?_⟩
  rcases nw_cm n (Nat.le_refl _) hb with h | h
  · exact j.d b h h2
  · have := j.c2.lts b h2; omega
/-- a new one beside an elder one -/
theorem C2.make (hb : Below w0.heap.size w0 w) (h : Cpy w w0.heap.size p q g m R s) (hc : Cpy w' w0.heap.size p2 q2 none m2 R2 s2) (k : Below w.heap.size w w') (h1 : w.heap.size ≤ p2) (h2 : w.heap.size ≤ q2) (h3 : w.heap.size ≤ m2) : C2 w0 w' p q g m R s p2 q2 none m2 R2 s2 := by
  refine ⟨bcl hb k, h.keep k, hc, fun b hb h4 => ?_⟩
  have := h.lts b hb
  rcases h4 with h4 | h4 | h4 | h4
  · omega
  · omega
  · cases h4
  · omega
end
end Go.Proofs.YthkaaheeblehhaaDoor
