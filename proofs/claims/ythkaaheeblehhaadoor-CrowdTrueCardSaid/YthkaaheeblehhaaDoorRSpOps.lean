/- The reference's space in memory: Put, Get. -/
import Derived.Test.YthkaaheeblehhaaDoorRSpace
import Derived.Test.YthkaaheeblehhaaDoorOnce
import Derived.Deep.RegionLaw
namespace Go.Proofs.YthkaaheeblehhaaDoor
open Go.ChangeShapes Go.WideShapes Go.ChangeAt Go.RowKit
set_option linter.unusedVariables false

section
variable {w w' : World} {base p : Nat} {g : Option Nat} {L : List (List Va)}
/-- the outer array is the elder one, or a new one, or none -/
def Nwb (g g' : Option Nat) (n : Nat) : Prop := ∀ b, g' = some b → g = some b ∨ n ≤ b
theorem Nwb.refl (g : Option Nat) (n : Nat) : Nwb g g n := fun b h => .inl h
/-- what the reference's space may change -/
def RM (p : Nat) (g : Option Nat) (b : Nat) : Prop := b = p ∨ g = some b
end
theorem wpList_append_many_at {α : Type} {Q' : World → Option Addr → List α → Prop} (hQ : QStay Q') {w : World} {ops : Array Oper} {rest : List Oper} {o : Oper} {a : Act} {Q : Exit → Act → World → Prop} (hgd : o.guard = none) (s x : Operand) (tt t e : TypeId)
    (ho : o.op = .call { callee := .builtin .append, args := #[s, x], argTypes := #[tt, tt] }) (ht : Tryd.prog.underlying tt = some (.slice t)) (hi : (Tryd.prog.info? t).map (fun i => (i.zero, i.size, i.bytes)) = some (some (.slice none 0 0), 1, 24)) (hte : t ≠ e)
    (base : Nat) (A : Option Addr) (c : Nat) (L : List (List α)) (hs : a.eval s = .slice A L.length c) (hown : OMany Q' t e w base A c L)
    (g : Nat) (B : Option Addr) (l : List α) (C : Nat) (hx : a.eval x = .slice (some ⟨g, 0, none⟩) 1 1) (h0 : w.cell? ⟨g, 0, none⟩ = some (.slice B l.length C)) (hq : Q' w B l) (hc1 : l.length ≤ C) (hc2 : C ≤ maxLen) (hI : Inn w base e B) (hn : L.length ≤ 1000000) (hbase : base ≤ w.heap.size)
    (h : ∀ b c' w', OMany Q' t e w' base (some ⟨b, 0, none⟩) c' (L ++ [l]) → w.grownBy w' (Value.slice A L.length c).ownBlock → ((Value.slice A L.length c).ownBlock = some b ∨ b = w.heap.size) → wpList Tryd.prog ops Q rest (a.put o.dst (.slice (some ⟨b, 0, none⟩) (L.length + 1) c')) w') : wpList Tryd.prog ops Q (o :: rest) a w :=
  wpList_plain hgd fun K hK => by
    have := step_append_many (ops := ops) (K := K) (Q := Q) (E := True) hQ hgd s x tt t e ho ht hi hte base A c L hs hown g B l C hx h0 hq hc1 hc2 hI hn hbase (fun b c' w' h1 h2 h3 _ => hK _ _ (h b c' w' h1 h2 h3))
    rwa [if_pos (by simp [Region.wanted, hgd])] at this
/-- slices of slices: the outer array lies at b1 or behind, what is in it is of before b2, or of e -/
def OM2 {α : Type} (Q : World → Option Addr → List α → Prop) (t e : TypeId) (w : World) (b1 b2 : Nat) (A : Option Addr) (c : Nat) (L : List (List α)) : Prop :=
  ∃ vs : List Value, w.ownsRow b1 t 1 (.slice A L.length c) L.length vs ∧ ∀ i, i < L.length → ∃ B C, vs[i]? = some (.slice B (gg L i).length C) ∧ Q w B (gg L i) ∧ (gg L i).length ≤ C ∧ C ≤ maxLen ∧ Inn w b2 e B
/-- a window of slices that is only read -/
def MW {α : Type} (Q : World → Option Addr → List α → Prop) (e : TypeId) (w : World) (b2 : Nat) (A : Option Addr) (L : List (List α)) : Prop :=
  ∃ vs : List Value, vs.length = L.length ∧ (0 < L.length → ∃ b off, A = some ⟨b, off, none⟩ ∧ ∀ j u, vs[j]? = some u → w.cell? ⟨b, off + j, none⟩ = some u) ∧ ∀ i, i < L.length → ∃ B C, vs[i]? = some (.slice B (gg L i).length C) ∧ Q w B (gg L i) ∧ (gg L i).length ≤ C ∧ C ≤ maxLen ∧ Inn w b2 e B
theorem Inn.up {w : World} {b1 b2 : Nat} {e : TypeId} {B : Option Addr} (h : Inn w b2 e B) (hb : b2 ≤ b1) : Inn w b1 e B := fun a ha => (h a ha).elim (fun h => .inl (by omega)) .inr
theorem wpList_append_manys {α : Type} {Q' : World → Option Addr → List α → Prop} (hQ : QStay Q') {w : World} {ops : Array Oper} {rest : List Oper} {o : Oper} {a : Act} {Q : Exit → Act → World → Prop} (hgd : o.guard = none) (s x : Operand) (tt t e : TypeId)
    (ho : o.op = .call { callee := .builtin .append, args := #[s, x], argTypes := #[tt, tt] }) (ht : Tryd.prog.underlying tt = some (.slice t)) (hi : (Tryd.prog.info? t).map (fun i => (i.zero, i.size, i.bytes)) = some (some (.slice none 0 0), 1, 24)) (hte : t ≠ e)
    (b1 b2 : Nat) (h21 : b2 ≤ b1) (A : Option Addr) (c : Nat) (L : List (List α)) (hs : a.eval s = .slice A L.length c) (hown : OM2 Q' t e w b1 b2 A c L)
    (A2 : Option Addr) (c2 : Nat) (L2 : List (List α)) (hx : a.eval x = .slice A2 L2.length c2) (hW : MW Q' e w b2 A2 L2) (hn : L.length + L2.length ≤ 1000000) (hbase : b1 ≤ w.heap.size)
    (h : ∀ A' c' w', OM2 Q' t e w' b1 b2 A' c' (L ++ L2) → Below b1 w w' → wpList Tryd.prog ops Q rest (a.put o.dst (.slice A' (L.length + L2.length) c')) w') : wpList Tryd.prog ops Q (o :: rest) a w := by
  obtain ⟨vs, h1, h2⟩ := hown
  obtain ⟨us, k1, k2, k3⟩ := hW
  have hvl : vs.length = L.length := by have := h1.1; simpa using this
  refine wpList_append_all hgd s x _ ho b1 t _ 1 24 ht hi rfl (by decide) A c L.length vs hs h1 A2 L2.length c2 us hx (by rw [k1, Nat.mul_one]) k2 (fun u hu => ?_) (by unfold maxLen; omega) (by omega) hbase ?_
  · obtain ⟨i, hi', rfl⟩ := List.getElem_of_mem hu
    obtain ⟨B, C, e1, _⟩ := k3 i (by omega)
    rw [List.getElem?_eq_getElem hi'] at e1
    rw [Option.some.inj e1]; rfl
  · intro A' c' w' h3 h4
    refine h A' c' w' ⟨_, by rw [List.length_append]; exact h3, fun i hi => ?_⟩ (own_below h4 h1 hbase)
    rw [List.length_append] at hi
    rcases Nat.lt_or_ge i L.length with hl | hl
    · obtain ⟨B, C, e1, q, m1, m2, m3⟩ := h2 i hl
      have hst := inn_grown hte hbase h1 h4 (m3.up h21)
      have hg : gg (L ++ L2) i = gg L i := by simp only [gg, List.getD_eq_getElem?_getD]; rw [List.getElem?_append_left hl]
      rw [hg, List.getElem?_append_left (by omega)]
      exact ⟨B, C, e1, hQ _ _ _ _ h4.size hst q, m1, m2, m3.stay hst⟩
    · obtain ⟨B, C, e1, q, m1, m2, m3⟩ := k3 (i - L.length) (by omega)
      have hst := inn_grown hte hbase h1 h4 (m3.up h21)
      have hg : gg (L ++ L2) i = gg L2 (i - L.length) := by simp only [gg, List.getD_eq_getElem?_getD]; rw [List.getElem?_append_right hl]
      rw [hg, List.getElem?_append_right (by omega), hvl]
      exact ⟨B, C, e1, hQ _ _ _ _ h4.size hst q, m1, m2, m3.stay hst⟩
/-- the same with the lengths named -/
theorem wpList_append_manysN {α : Type} {Q' : World → Option Addr → List α → Prop} (hQ : QStay Q') {w : World} {ops : Array Oper} {rest : List Oper} {o : Oper} {a : Act} {Q : Exit → Act → World → Prop} (hgd : o.guard = none) (s x : Operand) (tt t e : TypeId)
    (ho : o.op = .call { callee := .builtin .append, args := #[s, x], argTypes := #[tt, tt] }) (ht : Tryd.prog.underlying tt = some (.slice t)) (hi : (Tryd.prog.info? t).map (fun i => (i.zero, i.size, i.bytes)) = some (some (.slice none 0 0), 1, 24)) (hte : t ≠ e)
    (b1 b2 : Nat) (h21 : b2 ≤ b1) (A : Option Addr) (c : Nat) (L : List (List α)) (m1 : Nat) (hm1 : L.length = m1) (hs : a.eval s = .slice A m1 c) (hown : OM2 Q' t e w b1 b2 A c L)
    (A2 : Option Addr) (c2 : Nat) (L2 : List (List α)) (m2 : Nat) (hm2 : L2.length = m2) (hx : a.eval x = .slice A2 m2 c2) (hW : MW Q' e w b2 A2 L2) (hn : m1 + m2 ≤ 1000000) (hbase : b1 ≤ w.heap.size) (R : List (List α)) (hR : L ++ L2 = R) (m : Nat) (hm : R.length = m)
    (h : ∀ A' c' w', OM2 Q' t e w' b1 b2 A' c' R → Below b1 w w' → wpList Tryd.prog ops Q rest (a.put o.dst (.slice A' m c')) w') : wpList Tryd.prog ops Q (o :: rest) a w := by
  subst hR hm1 hm2 hm
  refine wpList_append_manys hQ hgd s x tt t e ho ht hi hte b1 b2 h21 A c L hs hown A2 c2 L2 hx hW hn hbase ?_
  intro A' c' w' k1 k2
  have := h A' c' w' k1 k2
  rwa [List.length_append] at this
theorem OM2.many {α : Type} {Q : World → Option Addr → List α → Prop} {t e : TypeId} {w : World} {b1 b2 c : Nat} {A : Option Addr} {L : List (List α)} (h : OM2 Q t e w b1 b2 A c L) (hb : b2 ≤ b1) : OMany Q t e w b2 A c L := by
  obtain ⟨vs, h1, h2⟩ := h
  exact ⟨vs, own_mono h1 hb, h2⟩
theorem OMany.two {α : Type} {Q : World → Option Addr → List α → Prop} {t e : TypeId} {w : World} {base c : Nat} {A : Option Addr} {L : List (List α)} (h : OMany Q t e w base A c L) : ∃ vs : List Value, vs.length = L.length ∧ w.ownsRow base t 1 (.slice A L.length c) L.length vs ∧ ∀ i, i < L.length → ∃ B C, vs[i]? = some (.slice B (gg L i).length C) ∧ Q w B (gg L i) ∧ (gg L i).length ≤ C ∧ C ≤ maxLen ∧ Inn w base e B := by
  obtain ⟨vs, h1, h2⟩ := h
  exact ⟨vs, by have := h1.1; simpa using this, h1, h2⟩
theorem OM2.up {α : Type} {Q : World → Option Addr → List α → Prop} {t e : TypeId} {w : World} {b1 b2 c : Nat} {A : Option Addr} {L : List (List α)} (h : OM2 Q t e w b1 b2 A c L) (hb : b2 ≤ b1) : OMany Q t e w b1 A c L := by
  obtain ⟨vs, h1, h2⟩ := h
  refine ⟨vs, h1, fun i hi => ?_⟩
  obtain ⟨B, C, e1, q, m1, m2, m3⟩ := h2 i hi
  exact ⟨B, C, e1, q, m1, m2, m3.up hb⟩
theorem gg_take {α : Type} {L : List (List α)} {k i : Nat} (h : i < k) : gg (L.take k) i = gg L i := by simp only [gg, List.getD_eq_getElem?_getD, List.getElem?_take]; rw [if_pos h]
theorem gg_drop {α : Type} {L : List (List α)} {k i : Nat} : gg (L.drop k) i = gg L (k + i) := by simp only [gg, List.getD_eq_getElem?_getD, List.getElem?_drop]
/-- the first k of what is owned -/
theorem OMany.first {α : Type} {Q : World → Option Addr → List α → Prop} {t e : TypeId} {w : World} {base c : Nat} {A : Option Addr} {L : List (List α)} (h : OMany Q t e w base A c L) (k : Nat) (hk : k ≤ L.length) : MW Q e w base A (L.take k) := by
  obtain ⟨vs, hl, h1, h2⟩ := h.two
  have htl : (L.take k).length = k := by rw [List.length_take]; omega
  refine ⟨vs.take k, by rw [List.length_take, htl]; omega, fun h0 => ?_, fun i hi => ?_⟩
  · obtain ⟨g, cap, hv, _, hlt⟩ := h1.form (by omega)
    injection hv with hA
    refine ⟨g, 0, hA, fun j u hj => ?_⟩
    rw [List.getElem?_take] at hj
    split at hj
    · have := h1.cells (g := g) (by rw [hA]; rfl) j u hj
      rwa [Addr.add_lit] at this
    · cases hj
  · rw [htl] at hi
    obtain ⟨B, C, e1, q⟩ := h2 i (by omega)
    rw [gg_take hi, List.getElem?_take, if_pos hi]
    exact ⟨B, C, e1, q⟩
/-- what is behind the first k of what is owned -/
theorem OMany.behind {α : Type} {Q : World → Option Addr → List α → Prop} {t e : TypeId} {w : World} {base c g : Nat} {L : List (List α)} (h : OMany Q t e w base (some ⟨g, 0, none⟩) c L) (k : Nat) : MW Q e w base (some ⟨g, k, none⟩) (L.drop k) := by
  obtain ⟨vs, hl, h1, h2⟩ := h.two
  refine ⟨vs.drop k, by rw [List.length_drop, List.length_drop, hl], fun h0 => ⟨g, k, rfl, fun j u hj => ?_⟩, fun i hi => ?_⟩
  · rw [List.getElem?_drop] at hj
    have := h1.cells (g := g) rfl (k + j) u hj
    rwa [Addr.add_lit, Nat.zero_add] at this
  · rw [List.length_drop] at hi
    obtain ⟨B, C, e1, q⟩ := h2 (k + i) (by omega)
    rw [gg_drop, List.getElem?_drop]
    exact ⟨B, C, e1, q⟩
theorem MW.none {α : Type} {Q : World → Option Addr → List α → Prop} {e : TypeId} {w : World} {b2 : Nat} {A : Option Addr} : MW Q e w b2 A ([] : List (List α)) := ⟨[], rfl, fun h => absurd h (by simp), fun i hi => absurd hi (by simp)⟩
theorem OM2.nil {α : Type} {Q : World → Option Addr → List α → Prop} {t e : TypeId} {w : World} {b1 b2 : Nat} : OM2 Q t e w b1 b2 none 0 [] := ⟨[], ⟨rfl, .inl ⟨rfl, rfl⟩⟩, fun i hi => absurd hi (by simp)⟩
theorem erase_eq {α : Type} (L : List α) (k : Nat) : L.take k ++ L.drop (k + 1) = L.eraseIdx k := (List.eraseIdx_eq_take_drop_succ L k).symm
end Go.Proofs.YthkaaheeblehhaaDoor
