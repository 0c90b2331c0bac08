/- Slices of values that a call makes for itself; what append does to them. -/
import Derived.Test.YtfelefkmbbfdjaaGreatDoorOwnB
import Derived.Test.YtfelefkmbbfdjaaGreatDoorVMem
namespace Go.Proofs.YtfelefkmbbfdjaaGreatDoor
open Go.RowKit
set_option linter.unusedVariables false

def vaCells (l : List Va) : List Value := l.flatMap fun v => [.int .i64 v.k, .int .i64 v.n, .string v.s]
theorem vaCells_append (l m : List Va) : vaCells (l ++ m) = vaCells l ++ vaCells m := by simp [vaCells]
theorem vaCells_cons (v : Va) (l : List Va) : vaCells (v :: l) = .int .i64 v.k :: .int .i64 v.n :: .string v.s :: vaCells l := by simp [vaCells]
theorem vaCells_length (l : List Va) : (vaCells l).length = l.length * 3 := by
  induction l with
  | nil => rfl
  | cons v l ih => rw [vaCells_cons]; simp [ih]; omega
theorem vaCells_at (l : List Va) (i j : Nat) (hi : i < l.length) (hj : j < 3) : (vaCells l)[i * 3 + j]? = some (vac l i j) := by
  induction l generalizing i with
  | nil => simp at hi
  | cons v l ih =>
    rw [vaCells_cons]
    cases i with
    | zero =>
      rcases (show j = 0 ∨ j = 1 ∨ j = 2 by omega) with rfl | rfl | rfl <;> simp [vac, va]
    | succ i =>
      have h1 : vac (v :: l) (i + 1) j = vac l i j := by simp [vac, va]
      rw [h1, show (i + 1) * 3 + j = i * 3 + j + 1 + 1 + 1 by omega]
      simpa using ih i (by simpa using hi)
/-- values, written out, in a new block -/
theorem lit_vals (w : World) (l : List Va) (t : TypeId) {g : Nat} (hg : g = w.heap.size) : Vals (w.alloc (.cells (vaCells l).toArray t)) (some ⟨g, 0, none⟩) l := fun _ => by
  subst hg
  refine ⟨w.heap.size, 0, rfl, by simp, fun i hi j hj => ?_⟩
  have h := World.cell?_alloc_mark w (vaCells l).toArray t (0, 0) (0 + i * 3 + j)
  rw [h, Nat.zero_add, List.getElem?_toArray]
  exact vaCells_at l i j hi hj

def OVals (w : World) (base : Nat) (A : Option Addr) (c : Nat) (l : List Va) : Prop := w.ownsRow base 31 3 (.slice A l.length c) l.length (vaCells l)
theorem infoV : (Tryz.prog.info? 31).map (fun i => (i.zero, i.size, i.bytes)) = some (some (.agg #[.int .i64 0, .int .i64 0, .string ⟨#[]⟩]), 3, 32) := by kernel_rfl
section
variable {w w' : World} {base c : Nat} {A : Option Addr} {l : List Va}
theorem OVals.nil : OVals w base none 0 [] := ⟨rfl, .inl ⟨rfl, rfl⟩⟩
theorem OVals.vals (h : OVals w base A c l) : Vals w A l := Sl.of_own h fun i hi j hj => vaCells_at l i j hi hj
theorem OVals.cap (h : OVals w base A c l) : l.length ≤ c ∧ c ≤ maxLen := own_cap h
theorem OVals.keep (h : OVals w base A c l) (hb : Below w.heap.size w w') : OVals w' base A c l := own_keep h hb
theorem OVals.empty (w : World) {g : Nat} (hg : g = w.heap.size) {base : Nat} (hb : base ≤ w.heap.size) : OVals (w.alloc (.cells #[] 31)) base (some ⟨g, 0, none⟩) 0 [] := by
  subst hg
  exact ⟨rfl, .inr ⟨w.heap.size, 0, #[], rfl, hb, heap_alloc_new w _, Nat.le_refl _, by decide, rfl, rfl⟩⟩
end
theorem one_cell_va {l : List Va} : ∀ u ∈ vaCells l, u.oneCell' = true := by
  intro u hu
  simp only [vaCells, List.mem_flatMap] at hu
  obtain ⟨s, _, hs⟩ := hu
  simp at hs
  rcases hs with rfl | rfl | rfl <;> rfl
theorem wpList_append_val {w : World} {ops : Array Oper} {rest : List Oper} {o : Oper} {a : Act} {Q : Exit → Act → World → Prop} (hgd : o.guard = none) (s x : Operand)
    (ho : o.op = .call { callee := .builtin .append, args := #[s, x], argTypes := #[32, 32] }) (base : Nat) (A : Option Addr) (c : Nat) (l : List Va) (hs : a.eval s = .slice A l.length c) (hown : OVals w base A c l)
    (g : Nat) (k n : Int) (t : ByteArray) (hx : a.eval x = .slice (some ⟨g, 0, none⟩) 1 1) (h0 : w.cell? ⟨g, 0, none⟩ = some (.int .i64 k)) (h1 : w.cell? ⟨g, 1, none⟩ = some (.int .i64 n)) (h2 : w.cell? ⟨g, 2, none⟩ = some (.string t))
    (hn : l.length ≤ 1000000) (hbase : base ≤ w.heap.size)
    (h : ∀ A' c' w', OVals w' base A' c' (l ++ [⟨k, n, t⟩]) → Below base w w' → wpList Tryz.prog ops Q rest (a.put o.dst (.slice A' (l.length + 1) c')) w') : wpList Tryz.prog ops Q (o :: rest) a w := by
  refine wpList_append_one hgd s x _ ho base 31 _ 3 32 Tryz.underlying32 infoV rfl (by decide) (by decide) A c l.length _ hs hown g [.int .i64 k, .int .i64 n, .string t] hx rfl ?_ (by simp [Value.oneCell']) hn hbase ?_
  · intro j u hj
    match j, hj with
    | 0, hj => simp at hj; subst hj; exact h0
    | 1, hj => simp at hj; subst hj; exact h1
    | 2, hj => simp at hj; subst hj; exact h2
  · intro A' c' w' h3 h4
    refine h A' c' w' ?_ (own_below h4 hown hbase)
    unfold OVals; rw [List.length_append, vaCells_append]; exact h3
theorem wpList_append_vals {w : World} {ops : Array Oper} {rest : List Oper} {o : Oper} {a : Act} {Q : Exit → Act → World → Prop} (hgd : o.guard = none) (s x : Operand)
    (ho : o.op = .call { callee := .builtin .append, args := #[s, x], argTypes := #[32, 32] }) (base : Nat) (A : Option Addr) (c : Nat) (l : List Va) (hs : a.eval s = .slice A l.length c) (hown : OVals w base A c l)
    (A2 : Option Addr) (c2 : Nat) (m : List Va) (hx : a.eval x = .slice A2 m.length c2) (hm : Vals w A2 m) (hn : (l.length + m.length) * 32 ≤ 140737488355328) (hbase : base ≤ w.heap.size)
    (h : ∀ A' c' w', OVals w' base A' c' (l ++ m) → Below base w w' → wpList Tryz.prog ops Q rest (a.put o.dst (.slice A' (l.length + m.length) c')) w') : wpList Tryz.prog ops Q (o :: rest) a w := by
  have hlen : (vaCells m).length = m.length * 3 := vaCells_length m
  refine wpList_append_all hgd s x _ ho base 31 _ 3 32 Tryz.underlying32 infoV rfl (by decide) A c l.length _ hs hown A2 m.length c2 (vaCells m) hx hlen ?_ one_cell_va (by unfold maxLen; omega) hn hbase ?_
  · intro h0
    obtain ⟨b, off, e, _, hc⟩ := hm h0
    refine ⟨b, off, e, fun j u hj => ?_⟩
    have hjl : j < m.length * 3 := by
      rcases Nat.lt_or_ge j (m.length * 3) with h1 | h1
      · exact h1
      · rw [List.getElem?_eq_none (by omega)] at hj; cases hj
    have h2 := vaCells_at m (j / 3) (j % 3) (by omega) (by omega)
    have e2 : j / 3 * 3 + j % 3 = j := by omega
    have := hc (j / 3) (by omega) (j % 3) (by omega)
    rw [Nat.add_assoc, e2] at this
    rw [e2, hj] at h2
    rw [this, h2]
  · intro A' c' w' h2 h3
    refine h A' c' w' ?_ (own_below h3 hown hbase)
    unfold OVals; rw [List.length_append, vaCells_append]; exact h2
end Go.Proofs.YtfelefkmbbfdjaaGreatDoor
