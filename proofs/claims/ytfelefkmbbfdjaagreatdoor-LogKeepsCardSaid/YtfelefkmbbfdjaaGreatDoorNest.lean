/- Slices of slices that a call makes for itself; what append of one slice does to them. -/
import Derived.Test.YtfelefkmbbfdjaaGreatDoorOwnB
namespace Go.Proofs.YtfelefkmbbfdjaaGreatDoor
open Go.RowKit Go.ChangeShapes Go.WideShapes Go.Deep
set_option linter.unusedVariables false

/-- block b has cells of type e -/
def kin (w : World) (b : Nat) (e : TypeId) : Prop := ∃ cur, w.heap[b]? = some (.cells cur e)
theorem kin.lt {w : World} {b : Nat} {e : TypeId} (h : kin w b e) : b < w.heap.size := by
  obtain ⟨cur, h⟩ := h; exact (Array.getElem?_eq_some_iff.1 h).1
/-- an inner slice lies below base, or in a block of its own kind -/
def Inn (w : World) (base : Nat) (e : TypeId) (B : Option Addr) : Prop := ∀ a, B = some a → a.block < base ∨ kin w a.block e
theorem Inn.lt {w : World} {base : Nat} {e : TypeId} {B : Option Addr} (h : Inn w base e B) (hb : base ≤ w.heap.size) {a : Addr} (ha : B = some a) : a.block < w.heap.size := by
  rcases h a ha with h | h
  · omega
  · exact h.lt
theorem Inn.stay {w w' : World} {base : Nat} {e : TypeId} {B : Option Addr} (h : Inn w base e B) (hs : ∀ a, B = some a → w'.heap[a.block]? = w.heap[a.block]?) : Inn w' base e B := fun a ha => by
  rcases h a ha with h | ⟨cur, h⟩
  · exact .inl h
  · exact .inr ⟨cur, (hs a ha).trans h⟩
theorem Inn.mono {w : World} {base base' : Nat} {e : TypeId} {B : Option Addr} (h : Inn w base e B) (hs : ∀ a, B = some a → base' ≤ a.block → kin w a.block e) : Inn w base' e B := fun a ha => by
  rcases Nat.lt_or_ge a.block base' with h1 | h1
  · exact .inl h1
  · exact .inr (hs a ha h1)
theorem Inn.none {w : World} {base : Nat} {e : TypeId} : Inn w base e none := fun a h => by cases h
theorem Inn.own {w : World} {base b2 : Nat} {e : TypeId} {k n c : Nat} {A : Option Addr} {xs : List Value} (h : w.ownsRow base e k (.slice A n c) n xs) : Inn w b2 e A := fun a ha => by
  rcases h.2 with ⟨h2, _⟩ | ⟨g, cap, cur, h3, _, h5, _⟩
  · injection h2 with h2; rw [h2] at ha; cases ha
  · injection h3 with h3; rw [h3] at ha; cases ha; exact .inr ⟨cur, h5⟩

/-- what Q says of a slice stays while its block stays -/
def QStay {α : Type} (Q : World → Option Addr → List α → Prop) : Prop := ∀ (w w' : World) (B : Option Addr) (l : List α), w.heap.size ≤ w'.heap.size → (∀ a, B = some a → w'.heap[a.block]? = w.heap[a.block]?) → Q w B l → Q w' B l
theorem Sl.stay {w w' : World} {k n : Nat} {A : Option Addr} {c : Nat → Nat → Value} (hz : w.heap.size ≤ w'.heap.size) (hs : ∀ a, A = some a → w'.heap[a.block]? = w.heap[a.block]?) (h : Sl w k A n c) : Sl w' k A n c := fun hn => by
  obtain ⟨b, off, e, hb, hi⟩ := h hn
  exact ⟨b, off, e, by omega, fun i h1 j h2 => (World.cell?_of_block (a := ⟨b, off + i * k + j, none⟩) (show w'.heap[b]? = w.heap[b]? from hs _ e)).trans (hi i h1 j h2)⟩
theorem ints_stay : QStay Ints := fun w w' B l hz hs h => Sl.stay hz hs h
theorem shares_stay : QStay Shares := fun w w' B l hz hs h => Sl.stay hz hs h
theorem strs_stay : QStay Strs := fun w w' B l hz hs h => Sl.stay hz hs h

def OMany {α : Type} (Q : World → Option Addr → List α → Prop) (t e : TypeId) (w : World) (base : Nat) (A : Option Addr) (c : Nat) (L : List (List α)) : Prop :=
  ∃ vs : List Value, w.ownsRow base t 1 (.slice A L.length c) L.length vs ∧ ∀ i, i < L.length → ∃ B C, vs[i]? = some (.slice B (gg L i).length C) ∧ Q w B (gg L i) ∧ (gg L i).length ≤ C ∧ C ≤ maxLen ∧ Inn w base e B
section
variable {α : Type} {Q : World → Option Addr → List α → Prop} {t e : TypeId} {w w' : World} {base c : Nat} {A : Option Addr} {L : List (List α)}
theorem OMany.nil : OMany Q t e w base none 0 [] := ⟨[], ⟨rfl, .inl ⟨rfl, rfl⟩⟩, fun i h => absurd h (by simp)⟩
theorem OMany.cap (h : OMany Q t e w base A c L) : L.length ≤ c ∧ c ≤ maxLen := by
  obtain ⟨vs, h1, _⟩ := h; exact own_cap h1
theorem OMany.keep (hQ : QStay Q) (h : OMany Q t e w base A c L) (hbs : base ≤ w.heap.size) (hb : Below w.heap.size w w') : OMany Q t e w' base A c L := by
  obtain ⟨vs, h1, h2⟩ := h
  refine ⟨vs, own_keep h1 hb, fun i hi => ?_⟩
  obtain ⟨B, C, e1, q, k1, k2, k3⟩ := h2 i hi
  have hs : ∀ a, B = some a → w'.heap[a.block]? = w.heap[a.block]? := fun a ha => hb.block _ (k3.lt hbs ha)
  exact ⟨B, C, e1, hQ _ _ _ _ hb.size hs q, k1, k2, k3.stay hs⟩
theorem OMany.many (h : OMany Q t e w base A c L) : Many Q w A L := by
  obtain ⟨vs, h1, h2⟩ := h
  have h3 : ∀ i, i < L.length → ∃ z : Option Addr × Nat, vs[i]? = some (.slice z.1 (gg L i).length z.2) ∧ Q w z.1 (gg L i) ∧ (gg L i).length ≤ z.2 ∧ z.2 ≤ maxLen := fun i hi => by
    obtain ⟨B, C, e1, q, k1, k2, k3⟩ := h2 i hi
    exact ⟨(B, C), e1, q, k1, k2⟩
  obtain ⟨Z, hZ⟩ := choose_lt h3
  refine ⟨fun i => (Z i).1, fun i => (Z i).2, Sl.of_own h1 fun i hi j hj => ?_, fun i hi => (hZ i hi).2⟩
  obtain rfl : j = 0 := by omega
  simpa using (hZ i hi).1
theorem own_block_of {v : Value} {k n : Nat} {xs : List Value} (h : w.ownsRow base t k v n xs) {g : Nat} (hg : v.ownBlock = some g) : base ≤ g ∧ kin w g t := by
  rcases h.2 with ⟨rfl, _⟩ | ⟨g', cap, cur, rfl, h4, h5, _⟩
  · simp [Value.ownBlock] at hg
  · simp only [Value.ownBlock, Option.some.injEq] at hg; subst hg; exact ⟨h4, cur, h5⟩
theorem kin.ne {b : Nat} {u v : TypeId} (h : kin w b u) (k : kin w b v) : u = v := by
  obtain ⟨c1, h⟩ := h; obtain ⟨c2, k⟩ := k
  rw [h] at k; injection k with k; injection k
/-- behind an append to the outer slice an inner one is as it was -/
theorem inn_grown (hte : t ≠ e) (hbs : base ≤ w.heap.size) {v : Value} {k n : Nat} {xs : List Value} (h : w.ownsRow base t k v n xs) (hg : w.grownBy w' v.ownBlock) {B : Option Addr} (hI : Inn w base e B) : ∀ a, B = some a → w'.heap[a.block]? = w.heap[a.block]? := fun a ha => by
  refine hg.block _ (hI.lt hbs ha) fun he => ?_
  obtain ⟨h1, h2⟩ := own_block_of h he.symm
  rcases hI a ha with h3 | h3
  · omega
  · exact hte (h2.ne h3)
theorem gg_append_lt {L : List (List α)} {l : List α} {i : Nat} (h : i < L.length) : gg (L ++ [l]) i = gg L i := by simp only [gg, List.getD_eq_getElem?_getD]; rw [List.getElem?_append_left h]
theorem gg_append_eq {L : List (List α)} {l : List α} : gg (L ++ [l]) L.length = l := by simp [gg, List.getD_eq_getElem?_getD]
end

theorem wpList_append_many {α : Type} {Q' : World → Option Addr → List α → Prop} (hQ : QStay Q') {w : World} {ops : Array Oper} {rest : List Oper} {o : Oper} {a : Act} {Q : Exit → Act → World → Prop} (hgd : o.guard = none) (s x : Operand) (tt t e : TypeId)
    (ho : o.op = .call { callee := .builtin .append, args := #[s, x], argTypes := #[tt, tt] }) (ht : Tryz.prog.underlying tt = some (.slice t)) (hi : (Tryz.prog.info? t).map (fun i => (i.zero, i.size, i.bytes)) = some (some (.slice none 0 0), 1, 24)) (hte : t ≠ e)
    (base : Nat) (A : Option Addr) (c : Nat) (L : List (List α)) (hs : a.eval s = .slice A L.length c) (hown : OMany Q' t e w base A c L)
    (g : Nat) (B : Option Addr) (l : List α) (C : Nat) (hx : a.eval x = .slice (some ⟨g, 0, none⟩) 1 1) (h0 : w.cell? ⟨g, 0, none⟩ = some (.slice B l.length C)) (hq : Q' w B l) (hc1 : l.length ≤ C) (hc2 : C ≤ maxLen) (hI : Inn w base e B) (hn : L.length ≤ 1000000) (hbase : base ≤ w.heap.size)
    (h : ∀ A' c' w', OMany Q' t e w' base A' c' (L ++ [l]) → Below base w w' → wpList Tryz.prog ops Q rest (a.put o.dst (.slice A' (L.length + 1) c')) w') : wpList Tryz.prog ops Q (o :: rest) a w := by
  obtain ⟨vs, h1, h2⟩ := hown
  refine wpList_append_one hgd s x _ ho base t _ 1 24 ht hi rfl (by decide) (by decide) A c L.length _ hs h1 g [.slice B l.length C] hx rfl ?_ (by simp [Value.oneCell']) hn hbase ?_
  · intro j u hj
    match j, hj with
    | 0, hj => simp at hj; subst hj; exact h0
  · intro A' c' w' h3 h4
    have hvl : vs.length = L.length := by have := h1.1; simpa using this
    refine h A' c' w' ⟨_, by rw [List.length_append]; exact h3, fun i hi => ?_⟩ (own_below h4 h1 hbase)
    rw [List.length_append, List.length_singleton] at hi
    rcases Nat.lt_or_ge i L.length with hl | hl
    · obtain ⟨B', C', e1, q, k1, k2, k3⟩ := h2 i hl
      have hst := inn_grown hte hbase h1 h4 k3
      refine ⟨B', C', ?_, ?_, ?_, k2, k3.stay hst⟩
      · rw [gg_append_lt hl, List.getElem?_append_left (by omega)]; exact e1
      · rw [gg_append_lt hl]; exact hQ _ _ _ _ h4.size hst q
      · rw [gg_append_lt hl]; exact k1
    · obtain rfl : i = L.length := by omega
      have hst := inn_grown hte hbase h1 h4 hI
      rw [gg_append_eq]
      refine ⟨B, C, ?_, hQ _ _ _ _ h4.size hst hq, hc1, hc2, hI.stay hst⟩
      rw [List.getElem?_append_right (by omega), hvl, Nat.sub_self]; rfl
end Go.Proofs.YtfelefkmbbfdjaaGreatDoor
