/- Slices of texts that a call makes; append to them; strings.Join of them. -/
import Derived.Test.YtfelefkmbbfdjaaGreatDoorNest
import Derived.Test.YtfelefkmbbfdjaaGreatDoorChs
import Derived.Test.YtfelefkmbbfdjaaGreatDoorShelf
import Derived.Lib.Join
namespace Go.Proofs.YtfelefkmbbfdjaaGreatDoor
open Go.RowKit Go.ChangeShapes Go.WideShapes Go.Deep
set_option linter.unusedVariables false

theorem own_stayS {w w' : World} {base : Nat} {t : TypeId} {k n : Nat} {v : Value} {xs : List Value} (h : w.ownsRow base t k v n xs) (hs : ∀ g, v.ownBlock = some g → w'.heap[g]? = w.heap[g]?) : w'.ownsRow base t k v n xs := by
  refine ⟨h.1, ?_⟩
  rcases h.2 with h2 | ⟨g, cap, cur, h3, h4, h5, h6⟩
  · exact .inl h2
  · exact .inr ⟨g, cap, cur, h3, h4, (hs g (by rw [h3]; rfl)).trans h5, h6⟩
/-- texts that a call keeps -/
def OStrs (w : World) (base : Nat) (A : Option Addr) (c : Nat) (l : List ByteArray) : Prop := w.ownsRow base 9 1 (.slice A l.length c) l.length (l.map Value.string)
theorem infoStr : (Tryz.prog.info? 9).map (fun i => (i.zero, i.size, i.bytes)) = some (some (.string ⟨#[]⟩), 1, 16) := by kernel_rfl
section
variable {w w' : World} {base c : Nat} {A : Option Addr} {l : List ByteArray}
theorem OStrs.nil : OStrs w base none 0 [] := ⟨rfl, .inl ⟨rfl, rfl⟩⟩
theorem OStrs.strs (h : OStrs w base A c l) : Strs w A l := Sl.of_own h fun i hi j hj => by
  obtain rfl : j = 0 := by omega
  simp [gs, hi]
theorem OStrs.cap (h : OStrs w base A c l) : l.length ≤ c ∧ c ≤ maxLen := own_cap h
theorem OStrs.keep (h : OStrs w base A c l) (hb : Below w.heap.size w w') : OStrs w' base A c l := own_keep h hb
theorem OStrs.block (h : OStrs w base A c l) {g : Nat} (hg : (Value.slice A l.length c).ownBlock = some g) : base ≤ g ∧ kin w g 9 := own_block_of h hg
theorem OStrs.chs {M : Nat → Prop} (h : OStrs w base A c l) (k : Chs M w w') (hM : ∀ b, M b → (Value.slice A l.length c).ownBlock ≠ some b) : OStrs w' base A c l :=
  own_stayS h fun g hg => k.block g (h.block hg).2.lt fun hm => hM g hm hg
end
theorem wpList_append_strG {w : World} {ops : Array Oper} {rest : List Oper} {o : Oper} {a : Act} {Q : Exit → Act → World → Prop} (hgd : o.guard = none) (s x : Operand)
    (ho : o.op = .call { callee := .builtin .append, args := #[s, x], argTypes := #[96, 96] }) (base : Nat) (A : Option Addr) (c : Nat) (l : List ByteArray) (m : Nat) (hm : l.length = m) (hs : a.eval s = .slice A m c) (hown : OStrs w base A c l)
    (g : Nat) (p : ByteArray) (hx : a.eval x = .slice (some ⟨g, 0, none⟩) 1 1) (h0 : w.cell? ⟨g, 0, none⟩ = some (.string p)) (hn : l.length ≤ 1000000) (hbase : base ≤ w.heap.size)
    (h : ∀ A' c' w', OStrs w' base A' c' (l ++ [p]) → w.grownBy w' (Value.slice A l.length c).ownBlock → wpList Tryz.prog ops Q rest (a.put o.dst (.slice A' (m + 1) c')) w') : wpList Tryz.prog ops Q (o :: rest) a w := by
  subst hm
  refine wpList_append_one hgd s x _ ho base 9 _ 1 16 Tryz.underlying96 infoStr rfl (by decide) (by decide) A c l.length _ hs hown g [.string p] hx rfl ?_ (by simp [Value.oneCell']) hn hbase ?_
  · intro j u hj
    match j, hj with
    | 0, hj => simp at hj; subst hj; exact h0
  · intro A' c' w' h2 h3
    refine h A' c' w' ?_ h3
    unfold OStrs; rw [List.length_append, List.map_append]; exact h2
/-- texts joined by one between them -/
def jn (l : List ByteArray) (sep : ByteArray) : ByteArray := ⟨(Lib.join (l.map (·.data.toList)) sep.data.toList).toArray⟩
theorem join_any (A : Option Addr) (c : Nat) (l : List ByteArray) (sep : ByteArray) (w : World) (hA : Strs w A l) (hc : l.length ≤ c) (hm : l.length ≤ 1000000) (hlen : (jn l sep).size ≤ 1000000) :
    Calls Tryz.prog 46 #[.slice A l.length c, .string sep] w fun e w' => e = .returned (.string (jn l sep)) ∧ Below w.heap.size w w' := by
  rcases Nat.eq_zero_or_pos l.length with h0 | h0
  · obtain rfl := List.eq_nil_of_length_eq_zero h0
    exact (Tryz.strings_Join_none A c sep w).mono fun e w' ⟨h1, h2⟩ => ⟨h1, h2 ▸ Below.refl _ _⟩
  · obtain ⟨b, off, rfl, hb, hh⟩ := hA h0
    refine Tryz.strings_Join b off c l sep w (fun j x hx => ?_) hb (by omega) hc (by simpa [jn, ByteArray.size] using (by omega : (jn l sep).size ≤ 140737488355328))
    have hj : j < l.length := (List.getElem?_eq_some_iff.1 hx).1
    have := hh j hj 0 (by omega)
    simp only [Nat.mul_one, Nat.add_zero] at this
    rw [this]
    simp [gs, List.getD_eq_getElem?_getD, hx]
end Go.Proofs.YtfelefkmbbfdjaaGreatDoor
