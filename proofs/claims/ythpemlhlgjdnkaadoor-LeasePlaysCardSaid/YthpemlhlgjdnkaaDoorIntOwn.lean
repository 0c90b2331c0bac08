/- Slices of ints that a call makes, of any length within the reach. -/
import Derived.Test.YthpemlhlgjdnkaaDoorOwnB
import Derived.Test.YthpemlhlgjdnkaaDoorNest
namespace Go.Proofs.YthpemlhlgjdnkaaDoor
open Go.RowKit
set_option linter.unusedVariables false

theorem infoInt : (Tryd.prog.info? 3).map (fun i => (i.zero, i.size, i.bytes)) = some (some (.int .i64 0), 1, 8) := by kernel_rfl
def OIs (w : World) (base : Nat) (A : Option Addr) (c : Nat) (l : List Int) : Prop := w.ownsRow base 3 1 (.slice A l.length c) l.length (l.map (Value.int .i64))
section
variable {w w' : World} {base c : Nat} {A : Option Addr} {l : List Int}
theorem OIs.nil : OIs w base none 0 [] := ⟨rfl, .inl ⟨rfl, rfl⟩⟩
theorem OIs.ints (h : OIs w base A c l) : Ints w A l := Sl.of_own h fun i hi j hj => by
  obtain rfl : j = 0 := by omega
  simp [gi, hi]
theorem OIs.cap (h : OIs w base A c l) : l.length ≤ c ∧ c ≤ maxLen := own_cap h
theorem OIs.keep (h : OIs w base A c l) (hb : Below w.heap.size w w') : OIs w' base A c l := own_keep h hb
end
theorem wpList_append_i {w : World} {ops : Array Oper} {rest : List Oper} {o : Oper} {a : Act} {Q : Exit → Act → World → Prop} (hgd : o.guard = none) (s x : Operand)
    (ho : o.op = .call { callee := .builtin .append, args := #[s, x], argTypes := #[42, 42] }) (base : Nat) (A : Option Addr) (c : Nat) (l : List Int) (hs : a.eval s = .slice A l.length c) (hown : OIs w base A c l)
    (g : Nat) (n : Int) (hx : a.eval x = .slice (some ⟨g, 0, none⟩) 1 1) (h0 : w.cell? ⟨g, 0, none⟩ = some (.int .i64 n)) (hn : (l.length + 1) * 8 ≤ 140737488355328) (hbase : base ≤ w.heap.size)
    (h : ∀ A' c' w', OIs w' base A' c' (l ++ [n]) → Below base w w' → wpList Tryd.prog ops Q rest (a.put o.dst (.slice A' (l.length + 1) c')) w') : wpList Tryd.prog ops Q (o :: rest) a w := by
  refine wpList_append_all hgd s x _ ho base 3 _ 1 8 Tryd.underlying42 infoInt rfl (by decide) A c l.length _ hs hown (some ⟨g, 0, none⟩) 1 1 [.int .i64 n] hx rfl ?_ (by simp [Value.oneCell']) (by unfold maxLen; omega) hn hbase ?_
  · intro _
    refine ⟨g, 0, rfl, fun j u hj => ?_⟩
    match j, hj with
    | 0, hj => simp at hj; subst hj; exact h0
  · intro A' c' w' h2 h3
    refine h A' c' w' ?_ (own_below h3 hown hbase)
    unfold OIs; rw [List.length_append, List.map_append]; exact h2
end Go.Proofs.YthpemlhlgjdnkaaDoor
