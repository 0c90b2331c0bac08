/- Copies in memory: what holds of one, and what leaves it as it was. -/
import Derived.Test.YthkaaheeblehhaaDoorCpPure
import Derived.Test.YthkaaheeblehhaaDoorRuOwn
import Derived.Test.YthkaaheeblehhaaDoorSpKeep
import Derived.Test.YthkaaheeblehhaaDoorQueOps
import Derived.Test.YthkaaheeblehhaaDoorOnce
namespace Go.Proofs.YthkaaheeblehhaaDoor
open Go.ChangeShapes Go.WideShapes Go.ChangeAt Go.RowKit Go.Maps Go.WideMaps
set_option linter.unusedVariables false

/-! ### rules of a copy's own -/
theorem Win.rxs {w : World} {base c : Nat} {A : Option Addr} {X : List Rx} (h : Win w base 42 4 (.slice A X.length c) X.length (rxCells X)) (hx : ∀ x ∈ X, Rxin w base x) : RX w base A X := by
  refine ⟨fun h0 => ?_, hx⟩
  obtain ⟨g, off, c', e, _, hc⟩ := h.at_ h0
  have hb := (h.block (g := g) (by rw [e]; rfl)).2.lt
  injection e with e1
  exact ⟨g, off, e1, hb, hc⟩
def ROwn (w : World) (base : Nat) (A : Option Addr) (c : Nat) (R : List Ru) : Prop :=
  R = [] ∨ ∃ X : List Rx, X.map (·.1) = R ∧ Win w base 42 4 (.slice A X.length c) X.length (rxCells X) ∧ ∀ x ∈ X, Rxin w base x
section
variable {w w' : World} {base c : Nat} {A : Option Addr} {R : List Ru}
theorem ROwn.rls (h : ROwn w base A c R) : Rls w A R := by
  rcases h with rfl | ⟨X, rfl, h1, h2⟩
  · exact Rls.nil
  · exact (h1.rxs h2).rls
theorem ROwn.stay (h : ROwn w base A c R) (hb : base ≤ w.heap.size) (hz : w.heap.size ≤ w'.heap.size) (hs : ∀ b, b < w.heap.size → (b < base ∨ kin w b 40 ∨ kin w b 42) → w'.heap[b]? = w.heap[b]?) : ROwn w' base A c R := by
  rcases h with rfl | ⟨X, rfl, h1, h2⟩
  · exact .inl rfl
  · refine .inr ⟨X, rfl, h1.stay fun g hg => hs g (h1.block hg).2.lt (.inr (.inr (h1.block hg).2)), fun x hx => ?_⟩
    obtain ⟨q1, q2, q3⟩ := h2 x hx
    refine ⟨?_, q2, q3⟩
    rcases Nat.eq_zero_or_pos x.1.a.length with h0 | h0
    · exact ⟨by unfold Vals; rw [h0]; exact Sl.zero, fun h => by omega⟩
    · have hst : ∀ a, x.2.1 = some a → w'.heap[a.block]? = w.heap[a.block]? := fun a ha => hs _ ((q1.2 h0).lt hb ha) (by
        rcases q1.2 h0 a ha with h | h
        · exact .inl h
        · exact .inr (.inl h))
      exact ⟨vals_stay _ _ _ _ hz hst q1.1, fun _ => (q1.2 h0).stay hst⟩
end
/-! ### what was done last, by whom -/
def dnv (x : Int × ByteArray) : Value := .agg #[.int .i64 x.1, .string x.2]
def DMap (w : World) (B n : Nat) (F : Int → Int × ByteArray) : Prop := ∃ m hs f, VMap w 3 B n m (dnv (0, ⟨#[]⟩)) hs f ∧ ∀ a, f (.int .i64 a) = dnv (F a)
theorem zeroDone (w : World) : (zeroValue 98).run Tryd.prog w = .ok (dnv (0, ⟨#[]⟩)) w := by kernel_rfl
section
variable {w w' : World} {B n : Nat} {F : Int → Int × ByteArray}
theorem DMap.stay (h : DMap w B n F) (hb : w'.heap[B]? = w.heap[B]?) : DMap w' B n F := by
  obtain ⟨m, hs, f, h1, h2⟩ := h; exact ⟨m, hs, f, h1.stay hb, h2⟩
theorem DMap.lt (h : DMap w B n F) : B < w.heap.size := by obtain ⟨m, hs, f, h1, h2⟩ := h; exact h1.lt
theorem DMap.isMap (h : DMap w B n F) : ∃ es clock, w.heap[B]? = some (.map es clock) := by obtain ⟨m, hs, f, h1, h2⟩ := h; exact h1.isMap
end
/-- a copy at p: its space at q (whose array is g), its map at m -/
structure Cpy (w : World) (base p q : Nat) (g : Option Nat) (m : Nat) (R : List Ru) (s : Cs) : Prop where
  there : ∃ A c, AtB w p #[.slice A R.length c, .pointer (some ⟨q, 0, none⟩), .map (some m), .int .i64 s.n] 95 ∧ ROwn w base A c R
  spc : Spc w base q g s.L
  map : DMap w m s.n s.F
  hp : base ≤ p
  hm : base ≤ m
  rul : rulE R = 0
  okr : okR R
  ok : Cok s
def CM (p q : Nat) (g : Option Nat) (m : Nat) (b : Nat) : Prop := b = p ∨ b = q ∨ g = some b ∨ b = m
section
variable {w w' : World} {base p q m : Nat} {g : Option Nat} {R : List Ru} {s : Cs}
theorem Cpy.hb (h : Cpy w base p q g m R s) : base ≤ w.heap.size := h.spc.hb
theorem Cpy.pkin (h : Cpy w base p q g m R s) : kin w p 95 := by obtain ⟨A, c, h1, _⟩ := h.there; exact h1.kin
theorem Cpy.own (h : Cpy w base p q g m R s) : ∀ b, CM p q g m b → base ≤ b := fun b hb => by
  rcases hb with rfl | rfl | hb | rfl
  · exact h.hp
  · exact h.spc.hp
  · exact (h.spc.gkin hb).1
  · exact h.hm
/-- none of a copy's own blocks has values or rules -/
theorem Cpy.kinds (h : Cpy w base p q g m R s) : ∀ b, CM p q g m b → ¬ kin w b 40 ∧ ¬ kin w b 42 := fun b hb => by
  rcases hb with rfl | rfl | hb | rfl
  · exact ⟨fun k => absurd (kin.ne k h.pkin) (by decide), fun k => absurd (kin.ne k h.pkin) (by decide)⟩
  · exact ⟨fun k => absurd (kin.ne k h.spc.kin) (by decide), fun k => absurd (kin.ne k h.spc.kin) (by decide)⟩
  · exact ⟨fun k => absurd (kin.ne k (h.spc.gkin hb).2) (by decide), fun k => absurd (kin.ne k (h.spc.gkin hb).2) (by decide)⟩
  · exact ⟨fun k => not_kin_of_map h.map.isMap k, fun k => not_kin_of_map h.map.isMap k⟩
theorem Cpy.lts (h : Cpy w base p q g m R s) : ∀ b, CM p q g m b → b < w.heap.size := fun b hb => by
  rcases hb with rfl | rfl | hb | rfl
  · exact h.pkin.lt
  · exact h.spc.lt
  · exact (h.spc.gkin hb).2.lt
  · exact h.map.lt
/-- a copy stays where none of its blocks is changed -/
theorem Cpy.far {M : Nat → Prop} (h : Cpy w base p q g m R s) (k : Chs M w w') (hM : ∀ b, M b → base ≤ b ∧ ¬ kin w b 40 ∧ ¬ kin w b 42 ∧ ¬ CM p q g m b) : Cpy w' base p q g m R s := by
  obtain ⟨A, c, h1, h2⟩ := h.there
  refine ⟨⟨A, c, h1.chs k fun e => (hM p e).2.2.2 (.inl rfl), h2.stay h.hb k.size fun b hb hx => k.block b hb fun e => ?_⟩, h.spc.farC k fun b hb => ⟨(hM b hb).1, (hM b hb).2.1, fun e => (hM b hb).2.2.2 (.inr (.inl e)), fun e => (hM b hb).2.2.2 (.inr (.inr (.inl e)))⟩,
    h.map.stay (k.block m h.map.lt fun e => (hM m e).2.2.2 (.inr (.inr (.inr rfl)))), h.hp, h.hm, h.rul, h.okr, h.ok⟩
  obtain ⟨q1, q2, q3, _⟩ := hM b e
  rcases hx with hx | hx | hx
  · omega
  · exact q2 hx
  · exact q3 hx
theorem Cpy.keep (h : Cpy w base p q g m R s) (hb : Below w.heap.size w w') : Cpy w' base p q g m R s := h.far (Chs.of_below (fun _ => False) hb) (fun _ h => h.elim)
/-- the space has changed -/
theorem Cpy.space {g' : Option Nat} {L : List (List Va)} (h : Cpy w base p q g m R s) (k : Chg q g w w') (hs : Spc w' base q g' L) : Cpy w' base p q g' m R ⟨L, s.F, s.n⟩ := by
  obtain ⟨A, c, h1, h2⟩ := h.there
  have hk : ∀ b, (b = q ∨ g = some b) → ¬ kin w b 40 ∧ ¬ kin w b 42 ∧ b ≠ p ∧ b ≠ m := fun b hb => by
    rcases hb with rfl | hb
    · refine ⟨(h.kinds _ (.inr (.inl rfl))).1, (h.kinds _ (.inr (.inl rfl))).2, fun e => absurd (kin.ne h.spc.kin (by rw [e]; exact h.pkin)) (by decide), fun e => not_kin_of_map h.map.isMap (by rw [← e]; exact h.spc.kin)⟩
    · have hg := (h.spc.gkin hb).2
      refine ⟨(h.kinds _ (.inr (.inr (.inl hb)))).1, (h.kinds _ (.inr (.inr (.inl hb)))).2, fun e => absurd (kin.ne hg (by rw [e]; exact h.pkin)) (by decide), fun e => not_kin_of_map h.map.isMap (by rw [← e]; exact hg)⟩
  have kc := Chs.of_chg k
  refine ⟨⟨A, c, h1.chs kc fun e => (hk p e).2.2.1 rfl, h2.stay h.hb k.size fun b hb hx => kc.block b hb fun e => ?_⟩, hs, h.map.stay (kc.block m h.map.lt fun e => (hk m e).2.2.2 rfl), h.hp, h.hm, h.rul, h.okr, ⟨hs.len, hs.ok, h.ok.f0, h.ok.fs⟩⟩
  rcases hx with hx | hx | hx
  · have := k.below h.spc.hp (fun b e => (h.spc.gkin e).1) h.spc.hb
    rcases e with rfl | e
    · have := h.spc.hp; omega
    · have := (h.spc.gkin e).1; omega
  · exact (hk b e).1 hx
  · exact (hk b e).2.1 hx
end
end Go.Proofs.YthkaaheeblehhaaDoor
