/- Slices of ints and of shares that a call makes for itself, as lists; what append does to them. -/
import Derived.Test.YtpgemofkolmabaaGreatDoorOwnB
namespace Go.Proofs.YtpgemofkolmabaaGreatDoor
open Go.RowKit
set_option linter.unusedVariables false

/-! ### ints -/
def OInts (w : World) (base : Nat) (A : Option Addr) (c : Nat) (l : List Int) : Prop := w.ownsRow base 3 1 (.slice A l.length c) l.length (l.map (Value.int .i64))
theorem infoI : (Tryz.prog.info? 3).map (fun i => (i.zero, i.size, i.bytes)) = some (some (.int .i64 0), 1, 8) := by kernel_rfl
section
variable {w w' : World} {base c : Nat} {A : Option Addr} {l : List Int}
theorem OInts.nil : OInts w base none 0 [] := ⟨rfl, .inl ⟨rfl, rfl⟩⟩
theorem OInts.ints (h : OInts w base A c l) : Ints w A l := Sl.of_own h fun i hi j hj => by
  obtain rfl : j = 0 := by omega
  simp [gi, hi]
theorem OInts.cap (h : OInts w base A c l) : l.length ≤ c ∧ c ≤ maxLen := own_cap h
theorem OInts.keep (h : OInts w base A c l) (hb : Below w.heap.size w w') : OInts w' base A c l := own_keep h hb
end
theorem wpList_append_int {w : World} {ops : Array Oper} {rest : List Oper} {o : Oper} {a : Act} {Q : Exit → Act → World → Prop} (hgd : o.guard = none) (s x : Operand)
    (ho : o.op = .call { callee := .builtin .append, args := #[s, x], argTypes := #[58, 58] }) (base : Nat) (A : Option Addr) (c : Nat) (l : List Int) (hs : a.eval s = .slice A l.length c) (hown : OInts w base A c l)
    (g : Nat) (p : Int) (hx : a.eval x = .slice (some ⟨g, 0, none⟩) 1 1) (h0 : w.cell? ⟨g, 0, none⟩ = some (.int .i64 p)) (hn : l.length ≤ 1000000) (hbase : base ≤ w.heap.size)
    (h : ∀ A' c' w', OInts w' base A' c' (l ++ [p]) → Below base w w' → wpList Tryz.prog ops Q rest (a.put o.dst (.slice A' (l.length + 1) c')) w') : wpList Tryz.prog ops Q (o :: rest) a w := by
  refine wpList_append_one hgd s x _ ho base 3 _ 1 8 Tryz.underlying58 infoI rfl (by decide) (by decide) A c l.length _ hs hown g [.int .i64 p] hx rfl ?_ (by simp [Value.oneCell']) hn hbase ?_
  · intro j u hj
    match j, hj with
    | 0, hj => simp at hj; subst hj; exact h0
  · intro A' c' w' h2 h3
    refine h A' c' w' ?_ (own_below h3 hown hbase)
    unfold OInts; rw [List.length_append, List.map_append]; exact h2

theorem wpList_append_ints {w : World} {ops : Array Oper} {rest : List Oper} {o : Oper} {a : Act} {Q : Exit → Act → World → Prop} (hgd : o.guard = none) (s x : Operand)
    (ho : o.op = .call { callee := .builtin .append, args := #[s, x], argTypes := #[58, 58] }) (base : Nat) (A : Option Addr) (c : Nat) (l : List Int) (hs : a.eval s = .slice A l.length c) (hown : OInts w base A c l)
    (A2 : Option Addr) (c2 : Nat) (m : List Int) (hx : a.eval x = .slice A2 m.length c2) (hm : Ints w A2 m) (hn : l.length + m.length ≤ 1000000) (hbase : base ≤ w.heap.size)
    (h : ∀ A' c' w', OInts w' base A' c' (l ++ m) → Below base w w' → wpList Tryz.prog ops Q rest (a.put o.dst (.slice A' (l.length + m.length) c')) w') : wpList Tryz.prog ops Q (o :: rest) a w := by
  refine wpList_append_all hgd s x _ ho base 3 _ 1 8 Tryz.underlying58 infoI rfl (by decide) A c l.length _ hs hown A2 m.length c2 (m.map (Value.int .i64)) hx (by simp) ?_ ?_ (by unfold maxLen; omega) (by omega) hbase ?_
  · intro h0
    obtain ⟨b, off, e, _, hc⟩ := hm h0
    refine ⟨b, off, e, fun j u hj => ?_⟩
    have hjl : j < m.length := by
      rcases Nat.lt_or_ge j m.length with h1 | h1
      · exact h1
      · rw [List.getElem?_eq_none (by simpa using h1)] at hj; cases hj
    have := hc j hjl 0 (by omega)
    rw [Nat.mul_one, Nat.add_zero] at this
    rw [this]
    simp [hjl] at hj
    rw [← hj]; simp [gi, hjl]
  · intro u hu
    obtain ⟨z, _, rfl⟩ := List.mem_map.1 hu
    rfl
  · intro A' c' w' h2 h3
    refine h A' c' w' ?_ (own_below h3 hown hbase)
    unfold OInts; rw [List.length_append, List.map_append]; exact h2

/-! ### shares -/
def shCells (l : List Sh) : List Value := l.flatMap fun s => [.int .i64 s.1, .int .i64 s.2]
theorem shCells_append (l m : List Sh) : shCells (l ++ m) = shCells l ++ shCells m := by simp [shCells]
theorem shCells_length (m : List Sh) : (shCells m).length = m.length * 2 := by
  induction m with
  | nil => rfl
  | cons s m ih =>
    have e : shCells (s :: m) = .int .i64 s.1 :: .int .i64 s.2 :: shCells m := by simp [shCells]
    rw [e]; simp [ih]; omega
theorem shCells_at (l : List Sh) (i : Nat) (hi : i < l.length) : (shCells l)[i * 2]? = some (.int .i64 (ga l i)) ∧ (shCells l)[i * 2 + 1]? = some (.int .i64 (gb l i)) := by
  induction l generalizing i with
  | nil => simp at hi
  | cons s l ih =>
    cases i with
    | zero => simp [shCells, ga, gb]
    | succ i =>
      have := ih i (by simpa using hi)
      have e : shCells (s :: l) = .int .i64 s.1 :: .int .i64 s.2 :: shCells l := by simp [shCells]
      have g1 : ga (s :: l) (i + 1) = ga l i := by simp [ga]
      have g2 : gb (s :: l) (i + 1) = gb l i := by simp [gb]
      rw [e, g1, g2, show (i + 1) * 2 = i * 2 + 1 + 1 by omega]
      simpa using this
def OShares (w : World) (base : Nat) (A : Option Addr) (c : Nat) (l : List Sh) : Prop := w.ownsRow base 113 2 (.slice A l.length c) l.length (shCells l)
theorem infoSh : (Tryz.prog.info? 113).map (fun i => (i.zero, i.size, i.bytes)) = some (some (.agg #[.int .i64 0, .int .i64 0]), 2, 16) := by kernel_rfl
section
variable {w w' : World} {base c : Nat} {A : Option Addr} {l : List Sh}
theorem OShares.nil : OShares w base none 0 [] := ⟨rfl, .inl ⟨rfl, rfl⟩⟩
theorem OShares.shares (h : OShares w base A c l) : Shares w A l := Sl.of_own h fun i hi j hj => by
  have := shCells_at l i hi
  rcases (show j = 0 ∨ j = 1 by omega) with rfl | rfl
  · simpa [shc] using this.1
  · simpa [shc] using this.2
theorem OShares.cap (h : OShares w base A c l) : l.length ≤ c ∧ c ≤ maxLen := own_cap h
theorem OShares.keep (h : OShares w base A c l) (hb : Below w.heap.size w w') : OShares w' base A c l := own_keep h hb
end
theorem wpList_append_share {w : World} {ops : Array Oper} {rest : List Oper} {o : Oper} {a : Act} {Q : Exit → Act → World → Prop} (hgd : o.guard = none) (s x : Operand)
    (ho : o.op = .call { callee := .builtin .append, args := #[s, x], argTypes := #[110, 110] }) (base : Nat) (A : Option Addr) (c : Nat) (l : List Sh) (hs : a.eval s = .slice A l.length c) (hown : OShares w base A c l)
    (g : Nat) (p q : Int) (hx : a.eval x = .slice (some ⟨g, 0, none⟩) 1 1) (h0 : w.cell? ⟨g, 0, none⟩ = some (.int .i64 p)) (h1 : w.cell? ⟨g, 1, none⟩ = some (.int .i64 q)) (hn : l.length ≤ 1000000) (hbase : base ≤ w.heap.size)
    (h : ∀ A' c' w', OShares w' base A' c' (l ++ [(p, q)]) → Below base w w' → wpList Tryz.prog ops Q rest (a.put o.dst (.slice A' (l.length + 1) c')) w') : wpList Tryz.prog ops Q (o :: rest) a w := by
  refine wpList_append_one hgd s x _ ho base 113 _ 2 16 Tryz.underlying110 infoSh rfl (by decide) (by decide) A c l.length _ hs hown g [.int .i64 p, .int .i64 q] hx rfl ?_ (by simp [Value.oneCell']) hn hbase ?_
  · intro j u hj
    match j, hj with
    | 0, hj => simp at hj; subst hj; exact h0
    | 1, hj => simp at hj; subst hj; exact h1
  · intro A' c' w' h2 h3
    refine h A' c' w' ?_ (own_below h3 hown hbase)
    unfold OShares; rw [List.length_append, shCells_append]; exact h2
theorem wpList_append_shares {w : World} {ops : Array Oper} {rest : List Oper} {o : Oper} {a : Act} {Q : Exit → Act → World → Prop} (hgd : o.guard = none) (s x : Operand)
    (ho : o.op = .call { callee := .builtin .append, args := #[s, x], argTypes := #[110, 110] }) (base : Nat) (A : Option Addr) (c : Nat) (l : List Sh) (hs : a.eval s = .slice A l.length c) (hown : OShares w base A c l)
    (A2 : Option Addr) (c2 : Nat) (m : List Sh) (hx : a.eval x = .slice A2 m.length c2) (hm : Shares w A2 m) (hn : l.length + m.length ≤ 1000000) (hbase : base ≤ w.heap.size)
    (h : ∀ A' c' w', OShares w' base A' c' (l ++ m) → Below base w w' → wpList Tryz.prog ops Q rest (a.put o.dst (.slice A' (l.length + m.length) c')) w') : wpList Tryz.prog ops Q (o :: rest) a w := by
  have hlen : (shCells m).length = m.length * 2 := shCells_length m
  refine wpList_append_all hgd s x _ ho base 113 _ 2 16 Tryz.underlying110 infoSh rfl (by decide) A c l.length _ hs hown A2 m.length c2 (shCells m) hx hlen ?_ ?_ (by unfold maxLen; omega) (by omega) hbase ?_
  · intro h0
    obtain ⟨b, off, e, _, hc⟩ := hm h0
    refine ⟨b, off, e, fun j u hj => ?_⟩
    have hjl : j < m.length * 2 := by
      rcases Nat.lt_or_ge j (m.length * 2) with h1 | h1
      · exact h1
      · rw [List.getElem?_eq_none (by omega)] at hj; cases hj
    have h2 := shCells_at m (j / 2) (by omega)
    rcases Nat.mod_two_eq_zero_or_one j with h3 | h3
    · have := hc (j / 2) (by omega) 0 (by omega)
      have e2 : j / 2 * 2 = j := by omega
      rw [Nat.add_zero, e2] at this
      rw [e2] at h2
      rw [this, ← hj, h2.1]; rfl
    · have := hc (j / 2) (by omega) 1 (by omega)
      have e2 : j / 2 * 2 + 1 = j := by omega
      rw [Nat.add_assoc, e2] at this
      rw [e2] at h2
      rw [this, ← hj, h2.2]; rfl
  · intro u hu
    simp only [shCells, List.mem_flatMap] at hu
    obtain ⟨s, _, hs⟩ := hu
    simp at hs
    rcases hs with rfl | rfl <;> rfl
  · intro A' c' w' h2 h3
    refine h A' c' w' ?_ (own_below h3 hown hbase)
    unfold OShares; rw [List.length_append, shCells_append]; exact h2
theorem own_lit_share (w : World) (p q : Int) {g : Nat} (hg : g = w.heap.size) {base : Nat} (hb : base ≤ w.heap.size) : OShares (w.alloc (.cells #[.int .i64 p, .int .i64 q] 113)) base (some ⟨g, 0, none⟩) 1 [(p, q)] := by
  subst hg
  exact ⟨rfl, .inr ⟨w.heap.size, 1, #[.int .i64 p, .int .i64 q], rfl, hb, heap_alloc_new w _, Nat.le_refl _, by decide, rfl, rfl⟩⟩
end Go.Proofs.YtpgemofkolmabaaGreatDoor
