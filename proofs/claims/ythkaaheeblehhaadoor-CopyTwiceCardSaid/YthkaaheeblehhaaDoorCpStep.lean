/- Package mirror: what is behind a deed that was done. -/
import Derived.Test.YthkaaheeblehhaaDoorCpAct
namespace Go.Proofs.YthkaaheeblehhaaDoor
open Go.ChangeShapes Go.WideShapes Go.ChangeAt Go.RowKit Go.Maps Go.WideMaps
set_option linter.unusedVariables false

open Classical in
theorem Cpy.done {w3 w4 w6 : World} {base p q m mm : Nat} {g : Option Nat} {R : List Ru} {s : Cs} {x q' : Int} {ans : ByteArray} {f : Lit → Value} {hs' : Lit → Bool}
    (h : Cpy w3 base p q g m R s) (hw4 : w4 = w3.setCell ⟨p, 3, none⟩ (.int .i64 ((s.n : Int) + 1))) (hf : ∀ a, f (.int .i64 a) = dnv (s.F a))
    (hv6 : VMap w6 3 m (s.n + 1) mm (dnv (0, ⟨#[]⟩)) hs' (fun l => if l = .int .i64 x then dnv (q', ans) else f l)) (hg6 : w4.drew.grownBy w6 (some m))
    (hok : Cok ⟨s.L, fun y => if y = x then (q', ans) else s.F y, s.n + 1⟩) :
    Cpy w6 base p q g m R ⟨s.L, fun y => if y = x then (q', ans) else s.F y, s.n + 1⟩ ∧ Chs (CM p q g m) w3 w6 := by
  obtain ⟨A, c, h1, h2⟩ := h.there
  have hmp : p ≠ m := fun e => not_kin_of_map h.map.isMap (by rw [← e]; exact h.pkin)
  have c34 : Chs (fun b => b = p) w3 w4 := by rw [hw4]; exact Chs.set w3 ⟨p, 3, none⟩ _
  have P4 : AtB w4 p #[.slice A R.length c, .pointer (some ⟨q, 0, none⟩), .map (some m), .int .i64 ((s.n : Int) + 1)] 95 := by rw [hw4]; exact h1.set 3 _
  have c46 : Chs (fun b => b = m) w4 w6 := (Chs.of_below (fun b => b = m) (bdr (Below.refl w4.heap.size w4))).trans (Chs.grown hg6) (fun b hb => .inl (Option.some.inj hb).symm)
  have c36 : Chs (fun b => b = p ∨ b = m) w3 w6 := (c34.mono fun b hb => .inl hb).trans c46 (fun b hb => .inl (.inr hb))
  have P6 := P4.chs c46 hmp
  have hk : ∀ b, (b = p ∨ b = m) → CM p q g m b := fun b hb => hb.elim .inl fun e => .inr (.inr (.inr e))
  have hqm : ∀ b, (b = p ∨ b = m) → b ≠ q ∧ g ≠ some b := fun b hb => by
    rcases hb with rfl | rfl
    · exact ⟨fun e => absurd (kin.ne h.pkin (by rw [e]; exact h.spc.kin)) (by decide), fun e => absurd (kin.ne h.pkin (h.spc.gkin e).2) (by decide)⟩
    · exact ⟨fun e => not_kin_of_map h.map.isMap (by rw [e]; exact h.spc.kin), fun e => not_kin_of_map h.map.isMap (h.spc.gkin e).2⟩
  refine ⟨⟨⟨A, c, ?_, h2.stay h.hb c36.size fun b hb hx => c36.block b hb fun e => ?_⟩, h.spc.farC c36 fun b hb => ⟨h.own b (hk b hb), (h.kinds b (hk b hb)).1, (hqm b hb).1, (hqm b hb).2⟩, ⟨_, _, _, hv6, fun a => ?_⟩, h.hp, h.hm, h.rul, h.okr, hok⟩, c36.mono hk⟩
  · have : (((s.n + 1 : Nat)) : Int) = (s.n : Int) + 1 := by omega
    rw [this]; exact P6
  · rcases hx with hx | hx | hx
    · have := h.own b (hk b e); omega
    · exact (h.kinds b (hk b e)).1 hx
    · exact (h.kinds b (hk b e)).2 hx
  · by_cases e : a = x
    · subst e; simp
    · have : ¬ (Lit.int .i64 a = Lit.int .i64 x) := fun h => e (by injection h)
      simp only [if_neg this, if_neg e]; exact hf a
end Go.Proofs.YthkaaheeblehhaaDoor
