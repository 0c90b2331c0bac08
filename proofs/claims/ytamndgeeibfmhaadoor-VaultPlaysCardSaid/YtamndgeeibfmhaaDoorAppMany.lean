/- Append of one slice to slices of slices that the call made, as a step of a region. -/
import Derived.Test.YtamndgeeibfmhaaDoorNest
import Derived.Deep.RegionLaw
namespace Go.Proofs.YtamndgeeibfmhaaDoor
open Go.RowKit Go.ChangeShapes Go.WideShapes Go.Deep
set_option linter.unusedVariables false

theorem step_app_many {α : Type} {Q' : World → Option Addr → List α → Prop} (hQ : QStay Q') {w : World} {ops : Array Oper} {o : Oper} {a : Act} {K : Act → World → Prop} {Q : Exit → Act → World → Prop} {E : Prop} (hgd : o.guard = none) (s x : Operand) (tt t e : TypeId)
    (ho : o.op = .call { callee := .builtin .append, args := #[s, x], argTypes := #[tt, tt] }) (ht : Tryd.prog.underlying tt = some (.slice t)) (hi : (Tryd.prog.info? t).map (fun i => (i.zero, i.size, i.bytes)) = some (some (.slice none 0 0), 1, 24)) (hte : t ≠ e)
    (base : Nat) (A : Option Addr) (c : Nat) (L : List (List α)) (hs : a.eval s = .slice A L.length c) (hown : OMany Q' t e w base A c L)
    (g : Nat) (B : Option Addr) (l : List α) (C : Nat) (hx : a.eval x = .slice (some ⟨g, 0, none⟩) 1 1) (h0 : w.cell? ⟨g, 0, none⟩ = some (.slice B l.length C)) (hq : Q' w B l) (hc1 : l.length ≤ C) (hc2 : C ≤ maxLen) (hI : Inn w base e B) (hn : L.length ≤ 1000000) (hbase : base ≤ w.heap.size)
    (h : ∀ b c' w', OMany Q' t e w' base (some ⟨b, 0, none⟩) c' (L ++ [l]) → w.grownBy w' (Value.slice A L.length c).ownBlock → ((Value.slice A L.length c).ownBlock = some b ∨ b = w.heap.size) → b < w'.heap.size → K (a.put o.dst (.slice (some ⟨b, 0, none⟩) (L.length + 1) c')) w') :
    if Region.wanted o (yielded ops a.tmps) = true then Oper.wp Tryd.prog o a w K Q else E := by
  obtain ⟨vs, h1, h2⟩ := hown
  obtain ⟨i0, hi0, hz0, hz1, hz2⟩ := info_parts hi
  have hb : (L.length + 1) * 24 ≤ 140737488355328 := by omega
  refine step_append_lies w hgd s x tt ho base t i0 (.slice none 0 0) 1 24 ht hi0 hz0 hz1 hz2 rfl (by decide) _ L.length vs hs h1 ⟨g, 0, none⟩ 1 1 [.slice B l.length C] hx rfl ?_ (by simp [Value.oneCell']) (by decide) (by unfold maxLen; omega) hb hbase w.heap.size rfl ?_
  · intro j u hj
    match j, hj with
    | 0, hj => simp at hj; subst hj; simpa [Addr.add] using h0
  · intro b c' w' h3 h4 h5 h6
    have hvl : vs.length = L.length := by have := h1.1; simpa using this
    refine h b c' w' ⟨_, by rw [List.length_append]; exact h3, fun i hi => ?_⟩ h4 h5 h6
    rw [List.length_append, List.length_singleton] at hi
    rcases Nat.lt_or_ge i L.length with hl | hl
    · obtain ⟨B', C', e1, q, k1, k2, k3⟩ := h2 i hl
      have hst := inn_grown hte hbase h1 h4 k3
      refine ⟨B', C', ?_, ?_, ?_, k2, k3.stay hst⟩
      · rw [gg_append_lt hl, List.getElem?_append_left (by omega)]; exact e1
      · rw [gg_append_lt hl]; exact hQ _ _ _ _ h4.size hst q
      · rw [gg_append_lt hl]; exact k1
    · obtain rfl : i = L.length := by omega
      have hst := inn_grown hte hbase h1 h4 hI
      rw [gg_append_eq]
      refine ⟨B, C, ?_, hQ _ _ _ _ h4.size hst hq, hc1, hc2, hI.stay hst⟩
      rw [List.getElem?_append_right (by omega), hvl, Nat.sub_self]; rfl
end Go.Proofs.YtamndgeeibfmhaaDoor
