/- Slices of rules that a call makes; what append does to them; which rule goes of several put together. -/
import Derived.Test.YtfelefkmbbfdjaaGreatDoorRule
import Derived.Test.YtfelefkmbbfdjaaGreatDoorOwnB
import Derived.Test.YtfelefkmbbfdjaaGreatDoorQueue
import Derived.Test.YtfelefkmbbfdjaaGreatDoorOnce
namespace Go.Proofs.YtfelefkmbbfdjaaGreatDoor
open Go.ChangeShapes Go.WideShapes Go.ChangeAt Go.RowKit
set_option linter.unusedVariables false

abbrev Rx := Ru × Option Addr × Nat
def rxv (x : Rx) : List Value := [.int .i64 x.1.d, .int .i64 x.1.o, .slice x.2.1 x.1.a.length x.2.2, .bool x.1.m]
def rxCells (X : List Rx) : List Value := X.flatMap rxv
theorem rxCells_append (X Y : List Rx) : rxCells (X ++ Y) = rxCells X ++ rxCells Y := by simp [rxCells]
theorem rxCells_cons (x : Rx) (X : List Rx) : rxCells (x :: X) = .int .i64 x.1.d :: .int .i64 x.1.o :: .slice x.2.1 x.1.a.length x.2.2 :: .bool x.1.m :: rxCells X := by simp [rxCells, rxv]
theorem rxCells_length (X : List Rx) : (rxCells X).length = X.length * 4 := by
  induction X with
  | nil => rfl
  | cons x X ih => rw [rxCells_cons]; simp [ih]; omega
def rx (X : List Rx) (i : Nat) : Rx := X.getD i (Ru.zero, none, 0)
theorem rx_mem {X : List Rx} {i : Nat} (h : i < X.length) : rx X i ∈ X := by
  simp only [rx, List.getD_eq_getElem?_getD, List.getElem?_eq_getElem h, Option.getD_some]; exact List.getElem_mem h
theorem ru_map {X : List Rx} {i : Nat} (h : i < X.length) : ru (X.map (·.1)) i = (rx X i).1 := by
  simp [ru, rx, List.getD_eq_getElem?_getD, List.getElem?_eq_getElem h]
theorem rxCells_at (X : List Rx) (i j : Nat) (hi : i < X.length) (hj : j < 4) : (rxCells X)[i * 4 + j]? = some (ruc (X.map (·.1)) (fun i => (rx X i).2.1) (fun i => (rx X i).2.2) i j) := by
  have key : ∀ (X : List Rx) (i : Nat), i < X.length → (rxCells X)[i * 4 + j]? = (rxv (rx X i))[j]? := by
    intro X
    induction X with
    | nil => intro i hi; simp at hi
    | cons x X ih =>
      intro i hi
      cases i with
      | zero =>
        rw [rxCells_cons]
        rcases (show j = 0 ∨ j = 1 ∨ j = 2 ∨ j = 3 by omega) with rfl | rfl | rfl | rfl <;> simp [rx, rxv]
      | succ i =>
        have h1 : rx (x :: X) (i + 1) = rx X i := by simp [rx]
        rw [h1, rxCells_cons, show (i + 1) * 4 + j = i * 4 + j + 1 + 1 + 1 + 1 by omega]
        simpa using ih i (by simpa using hi)
  rw [key X i hi]
  have hm := ru_map hi
  rcases (show j = 0 ∨ j = 1 ∨ j = 2 ∨ j = 3 by omega) with rfl | rfl | rfl | rfl <;> simp [rxv, ruc, hm]
/-- what a rule has in memory -/
def Rxin (w : World) (base : Nat) (x : Rx) : Prop := Vin w base x.2.1 x.1.a ∧ x.1.a.length ≤ x.2.2 ∧ x.2.2 ≤ maxLen
/-- a slice of rules that is only read -/
def RX (w : World) (base : Nat) (A : Option Addr) (X : List Rx) : Prop :=
  (0 < X.length → ∃ b off, A = some ⟨b, off, none⟩ ∧ b < w.heap.size ∧ ∀ j u, (rxCells X)[j]? = some u → w.cell? ⟨b, off + j, none⟩ = some u) ∧ ∀ x ∈ X, Rxin w base x
theorem RX.of_arg {w : World} {base : Nat} {A : Option Addr} {l : List Ru} (h : Rls w A l) (hb : w.heap.size ≤ base) : ∃ X : List Rx, X.map (·.1) = l ∧ RX w base A X := by
  obtain ⟨B, C, h1, h2⟩ := h
  have hl : ((List.range l.length).map fun i => ((ru l i, B i, C i) : Rx)).length = l.length := by simp
  have hx : ∀ i, i < l.length → rx ((List.range l.length).map fun i => ((ru l i, B i, C i) : Rx)) i = (ru l i, B i, C i) := fun i hi => by simp [rx, hi]
  have hm : ((List.range l.length).map fun i => ((ru l i, B i, C i) : Rx)).map (·.1) = l := by
    refine List.ext_getElem (by simp) fun i h3 h4 => ?_
    simp [ru, h4]
  refine ⟨(List.range l.length).map fun i => (ru l i, B i, C i), hm, fun h0 => ?_, fun x hx' => ?_⟩
  · rw [hl] at h0
    obtain ⟨b, off, e, hb', hc⟩ := h1 h0
    refine ⟨b, off, e, hb', fun j u hj => ?_⟩
    have hjl : j < l.length * 4 := by
      rcases Nat.lt_or_ge j (l.length * 4) with h | h
      · exact h
      · rw [List.getElem?_eq_none (by rw [rxCells_length, hl]; exact h)] at hj; cases hj
    have e2 : j / 4 * 4 + j % 4 = j := by omega
    have h3 := rxCells_at ((List.range l.length).map fun i => (ru l i, B i, C i)) (j / 4) (j % 4) (by rw [hl]; omega) (by omega)
    rw [e2, hj, hm] at h3
    have := hc (j / 4) (by omega) (j % 4) (by omega)
    rw [Nat.add_assoc, e2] at this
    rw [this, Option.some.inj h3]
    have hd : j / 4 < l.length := by omega
    simp only [ruc, hx _ hd]
  · obtain ⟨i, hi, rfl⟩ := List.mem_map.1 hx'
    have hi' : i < l.length := by simpa using hi
    obtain ⟨q1, q2, q3⟩ := h2 i hi'
    exact ⟨Vin.of_arg q1 hb, q2, q3⟩
theorem RX.rls {w : World} {base : Nat} {A : Option Addr} {X : List Rx} (h : RX w base A X) : Rls w A (X.map (·.1)) := by
  refine ⟨fun i => (rx X i).2.1, fun i => (rx X i).2.2, fun h0 => ?_, fun i hi => ?_⟩
  · rw [List.length_map] at h0
    obtain ⟨b, off, e, hb, hc⟩ := h.1 h0
    refine ⟨b, off, e, hb, fun i hi j hj => ?_⟩
    rw [List.length_map] at hi
    rw [Nat.add_assoc]
    exact hc _ _ (rxCells_at X i j hi hj)
  · rw [List.length_map] at hi
    obtain ⟨q1, q2, q3⟩ := h.2 _ (rx_mem hi)
    rw [ru_map hi]
    exact ⟨q1.1, q2, q3⟩
theorem Vin.chsV {M : Nat → Prop} {w w' : World} {base : Nat} {A : Option Addr} {a : List Va} (h : Vin w base A a) (hb : base ≤ w.heap.size) (k : Chs M w w') (hM : ∀ b, M b → base ≤ b ∧ ¬ kin w b 31) : Vin w' base A a := by
  rcases Nat.eq_zero_or_pos a.length with h0 | h0
  · exact ⟨by unfold Vals; rw [h0]; exact Sl.zero, fun h => by omega⟩
  · obtain ⟨h1, h2⟩ := Vin.chs h.1 (h.2 h0) hb k hM
    exact ⟨h1, fun _ => h2⟩
theorem Rxin.chs {M : Nat → Prop} {w w' : World} {base : Nat} {x : Rx} (h : Rxin w base x) (hb : base ≤ w.heap.size) (k : Chs M w w') (hM : ∀ b, M b → base ≤ b ∧ ¬ kin w b 31) : Rxin w' base x :=
  ⟨h.1.chsV hb k hM, h.2⟩
theorem Rxin.below {w w' : World} {base : Nat} {x : Rx} (h : Rxin w base x) (hb : base ≤ w.heap.size) (k : Below w.heap.size w w') : Rxin w' base x :=
  h.chs hb (Chs.of_below (fun _ => False) k) (fun _ h => h.elim)
theorem RX.below {w w' : World} {base : Nat} {A : Option Addr} {X : List Rx} (h : RX w base A X) (hb : base ≤ w.heap.size) (k : Below w.heap.size w w') : RX w' base A X := by
  refine ⟨fun h0 => ?_, fun x hx => (h.2 x hx).below hb k⟩
  obtain ⟨b, off, e, hlt, hc⟩ := h.1 h0
  exact ⟨b, off, e, Nat.lt_of_lt_of_le hlt k.size, fun j u hj => (k.cell (p := ⟨b, off + j, none⟩) hlt).trans (hc j u hj)⟩
/-- a slice of rules of the call's own -/
def ORX (w : World) (base : Nat) (A : Option Addr) (c : Nat) (X : List Rx) : Prop := w.ownsRow base 34 4 (.slice A X.length c) X.length (rxCells X) ∧ ∀ x ∈ X, Rxin w base x
theorem infoRule : (Tryz.prog.info? 34).map (fun i => (i.zero, i.size, i.bytes)) = some (some (.agg #[.int .i64 0, .int .i64 0, .slice none 0 0, .bool false]), 4, 48) := by kernel_rfl
theorem ORX.nil {w : World} {base : Nat} : ORX w base none 0 [] := ⟨⟨rfl, .inl ⟨rfl, rfl⟩⟩, fun x h => by simp at h⟩
theorem ORX.keep {w w' : World} {base c : Nat} {A : Option Addr} {X : List Rx} (h : ORX w base A c X) (hb : base ≤ w.heap.size) (k : Below w.heap.size w w') : ORX w' base A c X := ⟨own_keep h.1 k, fun x hx => (h.2 x hx).below hb k⟩
theorem ORX.rx {w : World} {base c : Nat} {A : Option Addr} {X : List Rx} (h : ORX w base A c X) : RX w base A X := by
  refine ⟨fun h0 => ?_, h.2⟩
  obtain ⟨g, cap, hv, _, hlt⟩ := h.1.form h0
  have hA : A = some ⟨g, 0, none⟩ := by injection hv
  subst hA
  refine ⟨g, 0, rfl, hlt, fun j u hj => ?_⟩
  have := h.1.cells (g := g) rfl j u hj
  rwa [Addr.add_lit] at this
theorem one_cell_rx {X : List Rx} : ∀ u ∈ rxCells X, u.oneCell' = true := by
  intro u hu
  simp only [rxCells, List.mem_flatMap] at hu
  obtain ⟨s, _, hs⟩ := hu
  simp [rxv] at hs
  rcases hs with rfl | rfl | rfl | rfl <;> rfl
theorem wpList_append_rules {w : World} {ops : Array Oper} {rest : List Oper} {o : Oper} {a : Act} {Q : Exit → Act → World → Prop} (hgd : o.guard = none) (s x : Operand)
    (ho : o.op = .call { callee := .builtin .append, args := #[s, x], argTypes := #[22, 22] }) (base : Nat) (A : Option Addr) (c : Nat) (X : List Rx) (hs : a.eval s = .slice A X.length c) (hown : ORX w base A c X)
    (A2 : Option Addr) (c2 : Nat) (Y : List Rx) (hx : a.eval x = .slice A2 Y.length c2) (hY : RX w base A2 Y) (hn : (X.length + Y.length) * 48 ≤ 140737488355328) (hbase : base ≤ w.heap.size)
    (h : ∀ A' c' w', ORX w' base A' c' (X ++ Y) → Below base w w' → wpList Tryz.prog ops Q rest (a.put o.dst (.slice A' (X.length + Y.length) c')) w') : wpList Tryz.prog ops Q (o :: rest) a w := by
  refine wpList_append_all hgd s x _ ho base 34 _ 4 48 Tryz.underlying22 infoRule rfl (by decide) A c X.length _ hs hown.1 A2 Y.length c2 (rxCells Y) hx (rxCells_length Y) ?_ one_cell_rx (by unfold maxLen; omega) hn hbase ?_
  · intro h0
    obtain ⟨b, off, e, _, hc⟩ := hY.1 h0
    exact ⟨b, off, e, hc⟩
  · intro A' c' w' h2 h3
    have hM : ∀ b, (Value.slice A X.length c).ownBlock = some b → base ≤ b ∧ ¬ kin w b 31 := fun b hb => by
      obtain ⟨q1, q2⟩ := own_block_of hown.1 hb
      exact ⟨q1, fun hk => absurd (kin.ne hk q2) (by decide)⟩
    refine h A' c' w' ⟨?_, fun z hz => ?_⟩ (own_below h3 hown.1 hbase)
    · rw [List.length_append, rxCells_append]; exact h2
    · rcases List.mem_append.1 hz with hz | hz
      · exact (hown.2 z hz).chs hbase (Chs.grown h3) hM
      · exact (hY.2 z hz).chs hbase (Chs.grown h3) hM
/-- one rule, written out, in a new block -/
theorem lit_rule (w : World) {base : Nat} (hb : base ≤ w.heap.size) (r : Ru) (B : Option Addr) (C : Nat) (h : Vin w base B r.a) (hc : r.a.length ≤ C) (hC : C ≤ maxLen) {g : Nat} (hg : g = w.heap.size) :
    ORX (w.alloc (.cells #[.int .i64 r.d, .int .i64 r.o, .slice B r.a.length C, .bool r.m] 34)) base (some ⟨g, 0, none⟩) 1 [(r, B, C)] := by
  subst hg
  refine ⟨⟨rfl, .inr ⟨w.heap.size, 1, _, rfl, hb, heap_alloc_new w _, Nat.le_refl _, by decide, rfl, rfl⟩⟩, fun x hx => ?_⟩
  rw [List.mem_singleton] at hx
  subst hx
  exact ⟨h.below (bal1 w _) (Nat.le_refl _) hb, hc, hC⟩

/-! ### which rule goes -/
theorem ru_append_lt {l m : List Ru} {i : Nat} (h : i < l.length) : ru (l ++ m) i = ru l i := by simp only [ru, List.getD_eq_getElem?_getD]; rw [List.getElem?_append_left h]
theorem plcR_append {l m : List Ru} {who deed : Int} {t : List Va} (h : ¬ plcR l who deed t < 0) : plcR (l ++ m) who deed t = plcR l who deed t := by
  obtain ⟨k, h1, h2, h3, h4⟩ := plcR_at h
  rw [h1]
  refine idx_some (k := k + 1) ?_ (by rw [List.length_append]; omega)
  have hn : fst' (fun i => goB (ru (l ++ m) i).d (ru (l ++ m) i).o (ru (l ++ m) i).a who deed t) k = none := fst_none.2 fun i hi => by rw [ru_append_lt (by omega)]; exact h4 i hi
  rw [fst', hn]
  simp only
  rw [ru_append_lt h2, if_pos h3]
theorem letR_append {l m : List Ru} {who deed : Int} {t : List Va} (h : ¬ plcR l who deed t < 0) : letR (l ++ m) who deed t = letR l who deed t := by
  obtain ⟨k, h1, h2, _⟩ := plcR_at h
  rw [letR, letR, plcR_append h, h1]
  simp only [Int.toNat_natCast]
  rw [ru_append_lt h2]
theorem fitB_self (t : List Va) : fitB t t = true := fitB_true.2 ⟨rfl, fun i _ => decide_eq_true (.inr rfl)⟩
theorem letR_cons {l : List Ru} {who deed : Int} {t : List Va} {m : Bool} : letR (⟨deed, who, t, m⟩ :: l) who deed t = m := by
  have hp : plcR (⟨deed, who, t, m⟩ :: l) who deed t = ((0 : Nat) : Int) := by
    refine idx_some (k := 1) ?_ (by simp)
    have : goB (ru (⟨deed, who, t, m⟩ :: l) 0).d (ru (⟨deed, who, t, m⟩ :: l) 0).o (ru (⟨deed, who, t, m⟩ :: l) 0).a who deed t = true := by simp [ru, goB, fitB_self]
    rw [fst', fst']
    simp only
    rw [if_pos this]
  rw [letR, hp]
  simp [ru]
end Go.Proofs.YtfelefkmbbfdjaaGreatDoor
