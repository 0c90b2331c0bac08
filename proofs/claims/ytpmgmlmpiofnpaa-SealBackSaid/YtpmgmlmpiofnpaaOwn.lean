/- Slices that a call makes for itself, as lists; what append does to them. -/
import Derived.Test.YtpmgmlmpiofnpaaChecked
import Derived.Test.YtpmgmlmpiofnpaaMem
import Derived.WalkKit
import Derived.Lib.Hide
import Derived.OwnWalk
import Derived.Laws.AppendOwn
import Derived.Laws.AppendOwnNone
import Derived.WideShapes
namespace Go.Proofs.Ytpmgmlmpiofnpaa
open Go.RowKit
set_option linter.unusedVariables false

section
variable {w w' : World} {base : Nat} {t : TypeId} {k n c : Nat} {A : Option Addr} {xs : List Value}
theorem own_keep (h : w.ownsRow base t k (.slice A n c) n xs) (hb : Below w.heap.size w w') : w'.ownsRow base t k (.slice A n c) n xs := by
  refine ⟨h.1, ?_⟩
  rcases h.2 with h2 | ⟨g, cap, cur, h3, h4, h5, h6⟩
  · exact .inl h2
  · refine .inr ⟨g, cap, cur, h3, h4, ?_, h6⟩
    rw [hb.block g (Array.getElem?_eq_some_iff.1 h5).1]; exact h5
theorem own_mono {base' : Nat} (h : w.ownsRow base t k (.slice A n c) n xs) (hb : base' ≤ base) : w.ownsRow base' t k (.slice A n c) n xs := by
  refine ⟨h.1, ?_⟩
  rcases h.2 with h2 | ⟨g, cap, cur, h3, h4, h5, h6⟩
  · exact .inl h2
  · exact .inr ⟨g, cap, cur, h3, by omega, h5, h6⟩
theorem own_cap (h : w.ownsRow base t k (.slice A n c) n xs) : n ≤ c ∧ c ≤ maxLen := by
  rcases h.2 with ⟨h2, h3⟩ | ⟨g, cap, cur, h3, h4, h5, h6, h7, _⟩
  · injection h2 with _ h2 h4; subst h2; subst h4; exact ⟨Nat.le_refl _, by simp⟩
  · injection h3 with _ _ h8; subst h8; exact ⟨h6, h7⟩
theorem own_form {v : Value} (h : w.ownsRow base t k v n xs) : ∃ A c, v = .slice A n c := by
  rcases h.2 with ⟨h2, h3⟩ | ⟨g, cap, cur, h3, _⟩
  · exact ⟨none, 0, by rw [h2, h3]⟩
  · exact ⟨_, _, h3⟩
theorem own_below {b : World} {v : Value} (hg : w.grownBy b v.ownBlock) (ho : w.ownsRow base t k v n xs) (hbase : base ≤ w.heap.size) : Below base w b :=
  (Below.refl base w).grown hg hbase fun j hj => by
    rcases ho.2 with ⟨rfl, _⟩ | ⟨g, cap, cur, rfl, hg, _⟩
    · simp [Value.ownBlock] at hj
    · simp only [Value.ownBlock, Option.some.injEq] at hj; omega
end

theorem cell_new1 (w : World) (v : Value) (t : TypeId) : (w.alloc (.cells #[v] t)).cell? ⟨w.heap.size, 0, none⟩ = some v := by simp
theorem cell_new2a (w : World) (u v : Value) (t : TypeId) : (w.alloc (.cells #[u, v] t)).cell? ⟨w.heap.size, 0, none⟩ = some u := by simp
theorem cell_new2b (w : World) (u v : Value) (t : TypeId) : (w.alloc (.cells #[u, v] t)).cell? ⟨w.heap.size, 1, none⟩ = some v := by simp
theorem le_al {n : Nat} {w : World} (h : n ≤ w.heap.size) (o : Obj) : n ≤ (w.alloc o).heap.size := by simp; omega
theorem bal1 (w : World) (o : Obj) : Below w.heap.size w (w.alloc o) := (Below.refl _ _).alloc (Nat.le_refl _) _

/-- append of one element, to a slice of the call's own -/
theorem wpList_append_one {w : World} {ops : Array Oper} {rest : List Oper} {o : Oper} {a : Act} {Q : Exit → Act → World → Prop} (hgd : o.guard = none) (s x : Operand) (t : TypeId)
    (ho : o.op = .call { callee := .builtin .append, args := #[s, x], argTypes := #[t, t] })
    (base : Nat) (e : TypeId) (z : Value) (size bytes : Nat) (ht : Try.prog.underlying t = some (.slice e)) (hi : (Try.prog.info? e).map (fun i => (i.zero, i.size, i.bytes)) = some (some z, size, bytes))
    (hzs : z.cells.size = size) (hsz : 0 < size) (hby : bytes ≤ 1000000)
    (A : Option Addr) (c n : Nat) (xs : List Value) (hs : a.eval s = .slice A n c) (hown : w.ownsRow base e size (.slice A n c) n xs)
    (g : Nat) (news : List Value) (hx : a.eval x = .slice (some ⟨g, 0, none⟩) 1 1) (hl : news.length = size) (hnews : ∀ j u, news[j]? = some u → w.cell? ⟨g, j, none⟩ = some u) (h1 : ∀ u ∈ news, u.oneCell' = true)
    (hn : n ≤ 1000000) (hbase : base ≤ w.heap.size)
    (h : ∀ A' c' w', w'.ownsRow base e size (.slice A' (n + 1) c') (n + 1) (xs ++ news) → w.grownBy w' (Value.slice A n c).ownBlock → wpList Try.prog ops Q rest (a.put o.dst (.slice A' (n + 1) c')) w') : wpList Try.prog ops Q (o :: rest) a w := by
  obtain ⟨i0, hi0, hz0, hz1, hz2⟩ := info_parts hi
  have hb : (n + 1) * bytes ≤ 1000001 * 1000000 := Nat.mul_le_mul (by omega) hby
  refine wpList_append_own w hgd s x t ho base e i0 z size bytes ht hi0 hz0 hz1 hz2 hzs hsz _ n xs hs hown ⟨g, 0, none⟩ 1 1 news hx (by rw [hl, Nat.one_mul]) (fun j u hj => by
    have := hnews j u hj
    unfold Addr.add; split
    · rename_i h0; subst h0; exact this
    · simpa using this) h1 (by unfold maxLen; omega) (by omega) hbase ?_
  intro v' w' h2 h3 _
  obtain ⟨A', c', rfl⟩ := own_form h2
  exact h A' c' w' h2 h3

theorem run_append_of_nil (w : World) (base : Nat) (t ty e : TypeId) (i : TypeInfo) (size : Nat) (ht : Try.prog.underlying t = some (.slice e)) (hi : Try.prog.info? e = some i)
    (v : Value) (n : Nat) (xs : List Value) (hown : w.ownsRow base e size v n xs) (c : Nat) : (Builtin.append_ #[t, t] ty #[v, .slice none 0 c]).run Try.prog w = .ok v w := by
  rcases hown.2 with ⟨rfl, rfl⟩ | ⟨g, cap, cur, rfl, _, _, hnc, _⟩
  · simp [Builtin.append_, run_underlying ht, sizeOf, typeInfo, hi, Builtin.lenOf, Builtin.firstCells]
  · simp [Builtin.append_, run_underlying ht, sizeOf, typeInfo, hi, Builtin.lenOf, Builtin.firstCells, hnc, storeCells]

/-- append of all that a slice holds, to a slice of the call's own -/
theorem wpList_append_all {w : World} {ops : Array Oper} {rest : List Oper} {o : Oper} {a : Act} {Q : Exit → Act → World → Prop} (hgd : o.guard = none) (s x : Operand) (t : TypeId)
    (ho : o.op = .call { callee := .builtin .append, args := #[s, x], argTypes := #[t, t] })
    (base : Nat) (e : TypeId) (z : Value) (size bytes : Nat) (ht : Try.prog.underlying t = some (.slice e)) (hi : (Try.prog.info? e).map (fun i => (i.zero, i.size, i.bytes)) = some (some z, size, bytes))
    (hzs : z.cells.size = size) (hsz : 0 < size)
    (A : Option Addr) (c n : Nat) (xs : List Value) (hs : a.eval s = .slice A n c) (hown : w.ownsRow base e size (.slice A n c) n xs)
    (A2 : Option Addr) (m c2 : Nat) (news : List Value) (hx : a.eval x = .slice A2 m c2) (hl : news.length = m * size) (hnews : 0 < m → ∃ b off, A2 = some ⟨b, off, none⟩ ∧ ∀ j u, news[j]? = some u → w.cell? ⟨b, off + j, none⟩ = some u) (h1 : ∀ u ∈ news, u.oneCell' = true)
    (hn : n + m ≤ maxLen) (hb : (n + m) * bytes ≤ 140737488355328) (hbase : base ≤ w.heap.size)
    (h : ∀ A' c' w', w'.ownsRow base e size (.slice A' (n + m) c') (n + m) (xs ++ news) → w.grownBy w' (Value.slice A n c).ownBlock → wpList Try.prog ops Q rest (a.put o.dst (.slice A' (n + m) c')) w') : wpList Try.prog ops Q (o :: rest) a w := by
  obtain ⟨i0, hi0, hz0, hz1, hz2⟩ := info_parts hi
  cases A2 with
  | none =>
    have hm : m = 0 := by
      rcases Nat.eq_zero_or_pos m with h0 | h0
      · exact h0
      · obtain ⟨b, off, e, _⟩ := hnews h0; cases e
    subst hm
    have hnn : news = [] := List.eq_nil_of_length_eq_zero (by rw [hl]; simp)
    subst hnn
    refine wpList_plain hgd fun K hK => ?_
    have hrun := run_append_of_nil w base t o.type e i0 size ht hi0 _ n xs hown c2
    unfold Oper.wp
    simp [execOp, ho, resolve, invoke, builtin, hs, hx, hrun, Result.andThen]
    refine hK _ _ (h A c w ?_ (World.grownBy.refl w _))
    rw [List.append_nil]; exact hown
  | some ad =>
    refine wpList_append_own w hgd s x t ho base e i0 z size bytes ht hi0 hz0 hz1 hz2 hzs hsz _ n xs hs hown ad m c2 news hx hl (fun j u hj => by
      rcases Nat.eq_zero_or_pos m with h0 | h0
      · subst h0
        have hnn : news = [] := List.eq_nil_of_length_eq_zero (by rw [hl]; simp)
        subst hnn; simp at hj
      · obtain ⟨b, off, e, hc⟩ := hnews h0
        injection e with e
        subst e
        rw [Go.WideShapes.add_plain]
        exact hc j u hj) h1 hn hb hbase ?_
    intro v' w' h2 h3 _
    obtain ⟨A', c', rfl⟩ := own_form h2
    exact h A' c' w' h2 h3

/-! ### ints -/
def OInts (w : World) (base : Nat) (A : Option Addr) (c : Nat) (l : List Int) : Prop := w.ownsRow base 3 1 (.slice A l.length c) l.length (l.map (Value.int .i64))
theorem infoI : (Try.prog.info? 3).map (fun i => (i.zero, i.size, i.bytes)) = some (some (.int .i64 0), 1, 8) := by kernel_rfl
section
variable {w w' : World} {base c : Nat} {A : Option Addr} {l : List Int}
theorem OInts.nil : OInts w base none 0 [] := ⟨rfl, .inl ⟨rfl, rfl⟩⟩
theorem OInts.ints (h : OInts w base A c l) : Ints w A l := Sl.of_own h fun i hi j hj => by
  obtain rfl : j = 0 := by omega
  simp [gi, hi]
theorem OInts.cap (h : OInts w base A c l) : l.length ≤ c ∧ c ≤ maxLen := own_cap h
theorem OInts.keep (h : OInts w base A c l) (hb : Below w.heap.size w w') : OInts w' base A c l := own_keep h hb
end
theorem wpList_append_int {w : World} {ops : Array Oper} {rest : List Oper} {o : Oper} {a : Act} {Q : Exit → Act → World → Prop} (hgd : o.guard = none) (s x : Operand)
    (ho : o.op = .call { callee := .builtin .append, args := #[s, x], argTypes := #[36, 36] }) (base : Nat) (A : Option Addr) (c : Nat) (l : List Int) (hs : a.eval s = .slice A l.length c) (hown : OInts w base A c l)
    (g : Nat) (p : Int) (hx : a.eval x = .slice (some ⟨g, 0, none⟩) 1 1) (h0 : w.cell? ⟨g, 0, none⟩ = some (.int .i64 p)) (hn : l.length ≤ 1000000) (hbase : base ≤ w.heap.size)
    (h : ∀ A' c' w', OInts w' base A' c' (l ++ [p]) → Below base w w' → wpList Try.prog ops Q rest (a.put o.dst (.slice A' (l.length + 1) c')) w') : wpList Try.prog ops Q (o :: rest) a w := by
  refine wpList_append_one hgd s x _ ho base 3 _ 1 8 Try.underlying36 infoI rfl (by decide) (by decide) A c l.length _ hs hown g [.int .i64 p] hx rfl ?_ (by simp [Value.oneCell']) hn hbase ?_
  · intro j u hj
    match j, hj with
    | 0, hj => simp at hj; subst hj; exact h0
  · intro A' c' w' h2 h3
    refine h A' c' w' ?_ (own_below h3 hown hbase)
    unfold OInts; rw [List.length_append, List.map_append]; exact h2

theorem wpList_append_ints {w : World} {ops : Array Oper} {rest : List Oper} {o : Oper} {a : Act} {Q : Exit → Act → World → Prop} (hgd : o.guard = none) (s x : Operand)
    (ho : o.op = .call { callee := .builtin .append, args := #[s, x], argTypes := #[36, 36] }) (base : Nat) (A : Option Addr) (c : Nat) (l : List Int) (hs : a.eval s = .slice A l.length c) (hown : OInts w base A c l)
    (A2 : Option Addr) (c2 : Nat) (m : List Int) (hx : a.eval x = .slice A2 m.length c2) (hm : Ints w A2 m) (hn : l.length + m.length ≤ 1000000) (hbase : base ≤ w.heap.size)
    (h : ∀ A' c' w', OInts w' base A' c' (l ++ m) → Below base w w' → wpList Try.prog ops Q rest (a.put o.dst (.slice A' (l.length + m.length) c')) w') : wpList Try.prog ops Q (o :: rest) a w := by
  refine wpList_append_all hgd s x _ ho base 3 _ 1 8 Try.underlying36 infoI rfl (by decide) A c l.length _ hs hown A2 m.length c2 (m.map (Value.int .i64)) hx (by simp) ?_ ?_ (by unfold maxLen; omega) (by omega) hbase ?_
  · intro h0
    obtain ⟨b, off, e, _, hc⟩ := hm h0
    refine ⟨b, off, e, fun j u hj => ?_⟩
    have hjl : j < m.length := by
      rcases Nat.lt_or_ge j m.length with h1 | h1
      · exact h1
      · rw [List.getElem?_eq_none (by simpa using h1)] at hj; cases hj
    have := hc j hjl 0 (by omega)
    rw [Nat.mul_one, Nat.add_zero] at this
    rw [this]
    simp [hjl] at hj
    rw [← hj]; simp [gi, hjl]
  · intro u hu
    obtain ⟨z, _, rfl⟩ := List.mem_map.1 hu
    rfl
  · intro A' c' w' h2 h3
    refine h A' c' w' ?_ (own_below h3 hown hbase)
    unfold OInts; rw [List.length_append, List.map_append]; exact h2

/-! ### shares -/
def shCells (l : List Sh) : List Value := l.flatMap fun s => [.int .i64 s.1, .int .i64 s.2]
theorem shCells_append (l m : List Sh) : shCells (l ++ m) = shCells l ++ shCells m := by simp [shCells]
theorem shCells_length (m : List Sh) : (shCells m).length = m.length * 2 := by
  induction m with
  | nil => rfl
  | cons s m ih =>
    have e : shCells (s :: m) = .int .i64 s.1 :: .int .i64 s.2 :: shCells m := by simp [shCells]
    rw [e]; simp [ih]; omega
theorem shCells_at (l : List Sh) (i : Nat) (hi : i < l.length) : (shCells l)[i * 2]? = some (.int .i64 (ga l i)) ∧ (shCells l)[i * 2 + 1]? = some (.int .i64 (gb l i)) := by
  induction l generalizing i with
  | nil => simp at hi
  | cons s l ih =>
    cases i with
    | zero => simp [shCells, ga, gb]
    | succ i =>
      have := ih i (by simpa using hi)
      have e : shCells (s :: l) = .int .i64 s.1 :: .int .i64 s.2 :: shCells l := by simp [shCells]
      have g1 : ga (s :: l) (i + 1) = ga l i := by simp [ga]
      have g2 : gb (s :: l) (i + 1) = gb l i := by simp [gb]
      rw [e, g1, g2, show (i + 1) * 2 = i * 2 + 1 + 1 by omega]
      simpa using this
def OShares (w : World) (base : Nat) (A : Option Addr) (c : Nat) (l : List Sh) : Prop := w.ownsRow base 45 2 (.slice A l.length c) l.length (shCells l)
theorem infoSh : (Try.prog.info? 45).map (fun i => (i.zero, i.size, i.bytes)) = some (some (.agg #[.int .i64 0, .int .i64 0]), 2, 16) := by kernel_rfl
section
variable {w w' : World} {base c : Nat} {A : Option Addr} {l : List Sh}
theorem OShares.nil : OShares w base none 0 [] := ⟨rfl, .inl ⟨rfl, rfl⟩⟩
theorem OShares.shares (h : OShares w base A c l) : Shares w A l := Sl.of_own h fun i hi j hj => by
  have := shCells_at l i hi
  rcases (show j = 0 ∨ j = 1 by omega) with rfl | rfl
  · simpa [shc] using this.1
  · simpa [shc] using this.2
theorem OShares.cap (h : OShares w base A c l) : l.length ≤ c ∧ c ≤ maxLen := own_cap h
theorem OShares.keep (h : OShares w base A c l) (hb : Below w.heap.size w w') : OShares w' base A c l := own_keep h hb
end
theorem wpList_append_share {w : World} {ops : Array Oper} {rest : List Oper} {o : Oper} {a : Act} {Q : Exit → Act → World → Prop} (hgd : o.guard = none) (s x : Operand)
    (ho : o.op = .call { callee := .builtin .append, args := #[s, x], argTypes := #[49, 49] }) (base : Nat) (A : Option Addr) (c : Nat) (l : List Sh) (hs : a.eval s = .slice A l.length c) (hown : OShares w base A c l)
    (g : Nat) (p q : Int) (hx : a.eval x = .slice (some ⟨g, 0, none⟩) 1 1) (h0 : w.cell? ⟨g, 0, none⟩ = some (.int .i64 p)) (h1 : w.cell? ⟨g, 1, none⟩ = some (.int .i64 q)) (hn : l.length ≤ 1000000) (hbase : base ≤ w.heap.size)
    (h : ∀ A' c' w', OShares w' base A' c' (l ++ [(p, q)]) → Below base w w' → wpList Try.prog ops Q rest (a.put o.dst (.slice A' (l.length + 1) c')) w') : wpList Try.prog ops Q (o :: rest) a w := by
  refine wpList_append_one hgd s x _ ho base 45 _ 2 16 Try.underlying49 infoSh rfl (by decide) (by decide) A c l.length _ hs hown g [.int .i64 p, .int .i64 q] hx rfl ?_ (by simp [Value.oneCell']) hn hbase ?_
  · intro j u hj
    match j, hj with
    | 0, hj => simp at hj; subst hj; exact h0
    | 1, hj => simp at hj; subst hj; exact h1
  · intro A' c' w' h2 h3
    refine h A' c' w' ?_ (own_below h3 hown hbase)
    unfold OShares; rw [List.length_append, shCells_append]; exact h2
theorem wpList_append_shares {w : World} {ops : Array Oper} {rest : List Oper} {o : Oper} {a : Act} {Q : Exit → Act → World → Prop} (hgd : o.guard = none) (s x : Operand)
    (ho : o.op = .call { callee := .builtin .append, args := #[s, x], argTypes := #[49, 49] }) (base : Nat) (A : Option Addr) (c : Nat) (l : List Sh) (hs : a.eval s = .slice A l.length c) (hown : OShares w base A c l)
    (A2 : Option Addr) (c2 : Nat) (m : List Sh) (hx : a.eval x = .slice A2 m.length c2) (hm : Shares w A2 m) (hn : l.length + m.length ≤ 1000000) (hbase : base ≤ w.heap.size)
    (h : ∀ A' c' w', OShares w' base A' c' (l ++ m) → Below base w w' → wpList Try.prog ops Q rest (a.put o.dst (.slice A' (l.length + m.length) c')) w') : wpList Try.prog ops Q (o :: rest) a w := by
  have hlen : (shCells m).length = m.length * 2 := shCells_length m
  refine wpList_append_all hgd s x _ ho base 45 _ 2 16 Try.underlying49 infoSh rfl (by decide) A c l.length _ hs hown A2 m.length c2 (shCells m) hx hlen ?_ ?_ (by unfold maxLen; omega) (by omega) hbase ?_
  · intro h0
    obtain ⟨b, off, e, _, hc⟩ := hm h0
    refine ⟨b, off, e, fun j u hj => ?_⟩
    have hjl : j < m.length * 2 := by
      rcases Nat.lt_or_ge j (m.length * 2) with h1 | h1
      · exact h1
      · rw [List.getElem?_eq_none (by omega)] at hj; cases hj
    have h2 := shCells_at m (j / 2) (by omega)
    rcases Nat.mod_two_eq_zero_or_one j with h3 | h3
    · have := hc (j / 2) (by omega) 0 (by omega)
      have e2 : j / 2 * 2 = j := by omega
      rw [Nat.add_zero, e2] at this
      rw [e2] at h2
      rw [this, ← hj, h2.1]; rfl
    · have := hc (j / 2) (by omega) 1 (by omega)
      have e2 : j / 2 * 2 + 1 = j := by omega
      rw [Nat.add_assoc, e2] at this
      rw [e2] at h2
      rw [this, ← hj, h2.2]; rfl
  · intro u hu
    simp only [shCells, List.mem_flatMap] at hu
    obtain ⟨s, _, hs⟩ := hu
    simp at hs
    rcases hs with rfl | rfl <;> rfl
  · intro A' c' w' h2 h3
    refine h A' c' w' ?_ (own_below h3 hown hbase)
    unfold OShares; rw [List.length_append, shCells_append]; exact h2
theorem own_lit_share (w : World) (p q : Int) {g : Nat} (hg : g = w.heap.size) {base : Nat} (hb : base ≤ w.heap.size) : OShares (w.alloc (.cells #[.int .i64 p, .int .i64 q] 45)) base (some ⟨g, 0, none⟩) 1 [(p, q)] := by
  subst hg
  exact ⟨rfl, .inr ⟨w.heap.size, 1, #[.int .i64 p, .int .i64 q], rfl, hb, heap_alloc_new w _, Nat.le_refl _, by decide, rfl, rfl⟩⟩
end Go.Proofs.Ytpmgmlmpiofnpaa
