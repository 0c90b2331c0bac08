/- A copy, or a crowd, and the reference's copy beside it. -/
import Derived.Test.YthkaaheeblehhaaGreatDoorRcAll
import Derived.Test.YthkaaheeblehhaaGreatDoorCrAll
import Derived.Test.YthkaaheeblehhaaGreatDoorDoor
namespace Go.Proofs.YthkaaheeblehhaaGreatDoor
open Go.ChangeShapes Go.WideShapes Go.ChangeAt Go.RowKit
set_option linter.unusedVariables false

theorem RCp.mine {w : World} {base p q : Nat} {g h : Option Nat} {R : List Ru} {s : Cs} (j : RCp w base p q g h R s) : ∀ b, RCM p q g h b → base ≤ b ∧ ¬ kin w b 113 ∧ ¬ kin w b 80 := fun b hb =>
  ⟨j.own b hb, j.nk (by decide) (by decide) (by decide) (by decide) b hb, j.nk (by decide) (by decide) (by decide) (by decide) b hb⟩
/-- a map is none of the reference's blocks -/
theorem RCp.nmap {w : World} {base p q m : Nat} {g h : Option Nat} {R : List Ru} {s : Cs} (j : RCp w base p q g h R s) (hm : ∃ es clock, w.heap[m]? = some (.map es clock)) : ¬ RCM p q g h m := fun hb => by
  rcases hb with rfl | rfl | hb | hb
  · exact not_kin_of_map hm j.pkin
  · exact not_kin_of_map hm j.spc.kin
  · exact not_kin_of_map hm (j.spc.gkin hb).2
  · exact not_kin_of_map hm (j.hkin hb).2
theorem rcm_new {p q : Nat} {g g' h h' : Option Nat} {n : Nat} (n1 : Nwb g g' n) (n2 : Nwb h h' n) {b : Nat} (hb : RCM p q g' h' b) : RCM p q g h b ∨ n ≤ b := by
  rcases hb with h1 | h1 | h1 | h1
  · exact .inl (.inl h1)
  · exact .inl (.inr (.inl h1))
  · exact (n1 b h1).imp (fun h => .inr (.inr (.inl h))) id
  · exact (n2 b h1).imp (fun h => .inr (.inr (.inr h))) id
/-- a copy and the reference's -/
structure CJ (w0 w : World) (p q : Nat) (g : Option Nat) (m : Nat) (R : List Ru) (s : Cs) (p2 q2 : Nat) (g2 h2 : Option Nat) (s2 : Cs) : Prop where
  h0 : HG w0
  b : Below w0.heap.size w0 w
  c : Cpy w w0.heap.size p q g m R s
  r : RCp w w0.heap.size p2 q2 g2 h2 R s2
  d : ∀ b, CM p q g m b → ¬ RCM p2 q2 g2 h2 b
section
variable {w0 w w' : World} {p q m p2 q2 : Nat} {g g' g2 h2 g2' h2' : Option Nat} {R : List Ru} {s s' s2 s2' : Cs}
theorem CJ.hg (j : CJ w0 w p q g m R s p2 q2 g2 h2 s2) : HG w := j.h0.below j.b
theorem CJ.keep (j : CJ w0 w p q g m R s p2 q2 g2 h2 s2) (k : Below w.heap.size w w') : CJ w0 w' p q g m R s p2 q2 g2 h2 s2 := ⟨j.h0, bcl j.b k, j.c.keep k, j.r.keep k, j.d⟩
theorem CJ.copy (j : CJ w0 w p q g m R s p2 q2 g2 h2 s2) (hc : Cpy w' w0.heap.size p q g' m R s') (k : Chs (CM p q g m) w w') (hn : Nw g g' w.heap.size) : CJ w0 w' p q g' m R s' p2 q2 g2 h2 s2 :=
  ⟨j.h0, j.b.trans (k.below j.c.own j.c.hb), hc, j.r.far k fun b hb => ⟨(j.c.mine b hb).1, (j.c.mine b hb).2.1, j.d b hb⟩, fun b hb h => by
    rcases nw_cm hn (Nat.le_refl _) hb with h1 | h1
    · exact j.d b h1 h
    · have := j.r.lts b h; omega⟩
theorem CJ.ref (j : CJ w0 w p q g m R s p2 q2 g2 h2 s2) (hr : RCp w' w0.heap.size p2 q2 g2' h2' R s2') (k : Chs (RCM p2 q2 g2 h2) w w') (n1 : Nwb g2 g2' w.heap.size) (n2 : Nwb h2 h2' w.heap.size) : CJ w0 w' p q g m R s p2 q2 g2' h2' s2' :=
  ⟨j.h0, j.b.trans (k.below j.r.own j.r.hb), j.c.apart k j.r.mine fun b hb h => j.d b h hb, hr, fun b hb h => by
    rcases rcm_new n1 n2 h with h1 | h1
    · exact j.d b hb h1
    · have := j.c.lts b hb; omega⟩
end
/-- a crowd and the reference's copy -/
structure KJ (w0 w : World) (p : Nat) (A : Option Addr) (c n : Nat) (D : Nat → Dq) (R : List Ru) (s : Cs) (p2 q2 : Nat) (g2 h2 : Option Nat) (s2 : Cs) : Prop where
  h0 : HG w0
  b : Below w0.heap.size w0 w
  c : Crw w w0.heap.size p A c n D R (fun _ => s)
  r : RCp w w0.heap.size p2 q2 g2 h2 R s2
  d : ∀ b, CrM D n b → ¬ RCM p2 q2 g2 h2 b
section
variable {w0 w w' : World} {p c n p2 q2 : Nat} {A : Option Addr} {D D' : Nat → Dq} {g2 h2 g2' h2' : Option Nat} {R : List Ru} {s s' s2 s2' : Cs}
theorem KJ.hg (j : KJ w0 w p A c n D R s p2 q2 g2 h2 s2) : HG w := j.h0.below j.b
theorem KJ.keep (j : KJ w0 w p A c n D R s p2 q2 g2 h2 s2) (k : Below w.heap.size w w') : KJ w0 w' p A c n D R s p2 q2 g2 h2 s2 := ⟨j.h0, bcl j.b k, j.c.keep k, j.r.keep k, j.d⟩
theorem KJ.crowd (j : KJ w0 w p A c n D R s p2 q2 g2 h2 s2) (hc : Crw w' w0.heap.size p A c n D' R (fun _ => s')) (k : Chs (CrM D n) w w') (hn : ∀ b, CrM D' n b → CrM D n b ∨ w.heap.size ≤ b) : KJ w0 w' p A c n D' R s' p2 q2 g2 h2 s2 :=
  ⟨j.h0, j.b.trans (k.below (fun b hb => (j.c.mine b hb).1) j.c.hb), hc, j.r.far k fun b hb => ⟨(j.c.mine b hb).1, (j.c.mine b hb).2.1, j.d b hb⟩, fun b hb h => by
    rcases hn b hb with h1 | h1
    · exact j.d b h1 h
    · have := j.r.lts b h; omega⟩
theorem KJ.ref (j : KJ w0 w p A c n D R s p2 q2 g2 h2 s2) (hr : RCp w' w0.heap.size p2 q2 g2' h2' R s2') (k : Chs (RCM p2 q2 g2 h2) w w') (n1 : Nwb g2 g2' w.heap.size) (n2 : Nwb h2 h2' w.heap.size) : KJ w0 w' p A c n D R s p2 q2 g2' h2' s2' :=
  ⟨j.h0, j.b.trans (k.below j.r.own j.r.hb), j.c.far k j.r.mine (fun b hb h => j.d b h hb) fun b hb => ⟨fun e => j.r.nk (t := 108) (by decide) (by decide) (by decide) (by decide) b hb (by rw [e]; exact j.c.there.kin), fun e => j.r.nk (t := 25) (by decide) (by decide) (by decide) (by decide) b hb (own_block_of j.c.arr e).2⟩, hr, fun b hb h => by
    rcases rcm_new n1 n2 h with h1 | h1
    · exact j.d b hb h1
    · have := j.c.lts b hb; omega⟩
/-- the law's own texts have changed -/
theorem KJ.texts {M : Nat → Prop} (j : KJ w0 w p A c n D R s p2 q2 g2 h2 s2) (k : Chs M w w') (hM : ∀ b, M b → w0.heap.size ≤ b ∧ kin w b 9) : KJ w0 w' p A c n D R s p2 q2 g2 h2 s2 :=
  ⟨j.h0, j.b.trans (k.below (fun b hb => (hM b hb).1) j.c.hb), j.c.other k hM (by decide) (by decide) (by decide) (by decide) (by decide) (by decide) (by decide),
    j.r.far k fun b hb => ⟨(hM b hb).1, fun e => absurd (kin.ne (hM b hb).2 e) (by decide), fun e => j.r.nk (by decide) (by decide) (by decide) (by decide) b e (hM b hb).2⟩, j.d⟩
end
end Go.Proofs.YthkaaheeblehhaaGreatDoor
