/- Rules (api.Rule) and asks (api.Ask) in memory, as lists; arguments of them, opened. -/
import Derived.Test.YtfelefkmbbfdjaaGreatDoorVArg
namespace Go.Proofs.YtfelefkmbbfdjaaGreatDoor
open Go.RowKit Go.ChangeShapes Go.WideShapes Go.Deep Go.Joins
set_option linter.unusedVariables false

theorem Sl.at4 {w : World} {n : Nat} {A : Option Addr} {c : Nat → Nat → Value} (h : Sl w 4 A n c) {i : Nat} (hi : i < n) : ∃ b off, A = some ⟨b, off, none⟩ ∧ b < w.heap.size ∧ w.cell? ⟨b, off + i * 4, none⟩ = some (c i 0) ∧ w.cell? ⟨b, off + i * 4 + 1, none⟩ = some (c i 1) ∧ w.cell? ⟨b, off + i * 4 + 2, none⟩ = some (c i 2) ∧ w.cell? ⟨b, off + i * 4 + 3, none⟩ = some (c i 3) := by
  obtain ⟨b, off, e, hb, hh⟩ := h (by omega)
  exact ⟨b, off, e, hb, hh i hi 0 (by omega), hh i hi 1 (by omega), hh i hi 2 (by omega), hh i hi 3 (by omega)⟩
theorem len4 {α : Type} {l : List α} (h : l.length = 4) : ∃ a b c d, l = [a, b, c, d] := by
  match l, h with
  | [a, b, c, d], _ => exact ⟨a, b, c, d, rfl⟩

/-- a rule: which deed, of whom, with what, may it be done -/
structure Ru where
  d : Int
  o : Int
  a : List Va
  m : Bool
def Ru.zero : Ru := ⟨0, 0, [], false⟩
def ru (l : List Ru) (i : Nat) : Ru := l.getD i Ru.zero
def ruc (l : List Ru) (B : Nat → Option Addr) (C : Nat → Nat) (i j : Nat) : Value :=
  if j = 0 then .int .i64 (ru l i).d else if j = 1 then .int .i64 (ru l i).o else if j = 2 then .slice (B i) (ru l i).a.length (C i) else .bool (ru l i).m
def Rls (w : World) (A : Option Addr) (l : List Ru) : Prop :=
  ∃ (B : Nat → Option Addr) (C : Nat → Nat), Sl w 4 A l.length (ruc l B C) ∧ ∀ i, i < l.length → Vals w (B i) (ru l i).a ∧ (ru l i).a.length ≤ C i ∧ C i ≤ maxLen
/-- the texts in rules are texts -/
def okR (l : List Ru) : Prop := ∀ i, i < l.length → okL (ru l i).a ∧ I64 (ru l i).d ∧ I64 (ru l i).o
/-- an ask: who, the which of theirs, which deed, what tuple -/
structure Ak where
  w : Int
  q : Int
  d : Int
  t : List Va
def Ak.zero : Ak := ⟨0, 0, 0, []⟩
def ak (l : List Ak) (i : Nat) : Ak := l.getD i Ak.zero
def akc (l : List Ak) (B : Nat → Option Addr) (C : Nat → Nat) (i j : Nat) : Value :=
  if j = 0 then .int .i64 (ak l i).w else if j = 1 then .int .i64 (ak l i).q else if j = 2 then .int .i64 (ak l i).d else .slice (B i) (ak l i).t.length (C i)
def Aks (w : World) (A : Option Addr) (l : List Ak) : Prop :=
  ∃ (B : Nat → Option Addr) (C : Nat → Nat), Sl w 4 A l.length (akc l B C) ∧ ∀ i, i < l.length → Vals w (B i) (ak l i).t ∧ (ak l i).t.length ≤ C i ∧ C i ≤ maxLen
def okA (l : List Ak) : Prop := ∀ i, i < l.length → okL (ak l i).t ∧ I64 (ak l i).w ∧ I64 (ak l i).q ∧ I64 (ak l i).d

section
variable {w w' : World} {A : Option Addr}
theorem Rls.at_ {l : List Ru} (h : Rls w A l) {i : Nat} (hi : i < l.length) : ∃ b off B C, A = some ⟨b, off, none⟩ ∧ b < w.heap.size ∧ w.cell? ⟨b, off + i * 4, none⟩ = some (.int .i64 (ru l i).d) ∧ w.cell? ⟨b, off + i * 4 + 1, none⟩ = some (.int .i64 (ru l i).o) ∧
    w.cell? ⟨b, off + i * 4 + 2, none⟩ = some (.slice B (ru l i).a.length C) ∧ w.cell? ⟨b, off + i * 4 + 3, none⟩ = some (.bool (ru l i).m) ∧ Vals w B (ru l i).a ∧ (ru l i).a.length ≤ C ∧ C ≤ maxLen := by
  obtain ⟨B, C, h1, h2⟩ := h
  obtain ⟨b, off, e, hb, c0, c1, c2, c3⟩ := Sl.at4 h1 hi
  exact ⟨b, off, B i, C i, e, hb, c0, c1, c2, c3, h2 i hi⟩
theorem Aks.at_ {l : List Ak} (h : Aks w A l) {i : Nat} (hi : i < l.length) : ∃ b off B C, A = some ⟨b, off, none⟩ ∧ b < w.heap.size ∧ w.cell? ⟨b, off + i * 4, none⟩ = some (.int .i64 (ak l i).w) ∧ w.cell? ⟨b, off + i * 4 + 1, none⟩ = some (.int .i64 (ak l i).q) ∧
    w.cell? ⟨b, off + i * 4 + 2, none⟩ = some (.int .i64 (ak l i).d) ∧ w.cell? ⟨b, off + i * 4 + 3, none⟩ = some (.slice B (ak l i).t.length C) ∧ Vals w B (ak l i).t ∧ (ak l i).t.length ≤ C ∧ C ≤ maxLen := by
  obtain ⟨B, C, h1, h2⟩ := h
  obtain ⟨b, off, e, hb, c0, c1, c2, c3⟩ := Sl.at4 h1 hi
  exact ⟨b, off, B i, C i, e, hb, c0, c1, c2, c3, h2 i hi⟩
theorem Rls.below {l : List Ru} {b : Nat} (h : Rls w A l) (hb : Below b w w') (hB : w.heap.size ≤ b) : Rls w' A l := by
  obtain ⟨B, C, h1, h2⟩ := h
  exact ⟨B, C, h1.below hb hB, fun i hi => ⟨(h2 i hi).1.below hb hB, (h2 i hi).2⟩⟩
theorem Aks.below {l : List Ak} {b : Nat} (h : Aks w A l) (hb : Below b w w') (hB : w.heap.size ≤ b) : Aks w' A l := by
  obtain ⟨B, C, h1, h2⟩ := h
  exact ⟨B, C, h1.below hb hB, fun i hi => ⟨(h2 i hi).1.below hb hB, (h2 i hi).2⟩⟩
theorem Rls.nil : Rls w A [] := ⟨fun _ => none, fun _ => 0, Sl.zero, fun i hi => absurd hi (by simp)⟩
theorem Aks.nil : Aks w A [] := ⟨fun _ => none, fun _ => 0, Sl.zero, fun i hi => absurd hi (by simp)⟩
end

section
variable {H : Type} {enc : TypeId × Value → H} {P : Program} {w : World} {base : Nat} {spare : Nat → Bool} {held : Bool}
theorem open_Rls {t e lt ve : TypeId} {f0 f1 f2 f3 g0 g1 g2 : Field} {fuel : Nat} {cs : List Value} {x : DataW H × List MemPlace} (ht : P.underlying t = some (.slice e)) (he : P.underlying e = some (.struct #[f0, f1, f2, f3])) (hone : oneCellFields P #[f0, f1, f2, f3] = true) (hC : P.cellsOf e = 4)
    (h0 : P.underlying f0.type = some (.int .i64)) (h1 : P.underlying f1.type = some (.int .i64)) (h2 : P.underlying f2.type = some (.slice ve)) (h3 : P.underlying f3.type = some .bool)
    (he' : P.underlying ve = some (.struct #[g0, g1, g2])) (hone' : oneCellFields P #[g0, g1, g2] = true) (hC' : P.cellsOf ve = 3) (k0 : P.underlying g0.type = some (.int .i64)) (k1 : P.underlying g1.type = some (.int .i64)) (k2 : P.underlying g2.type = some .string)
    (h : DataW.trod enc P w base spare held fuel t cs = some x) :
    ∃ (A : Option Addr) (cap : Nat) (l : List Ru), cs = [.slice A l.length cap] ∧ l.length ≤ cap ∧ cap ≤ maxLen ∧ Rls w A l ∧ okR l := by
  obtain ⟨A, len, cap, n, E, D, hcs, hl, hm, hE, hs, hd⟩ := open_cells ht (by omega) h
  have hv : ∀ i, i < len → ∃ z : Ru × Option Addr × Nat, E i = [.int .i64 z.1.d, .int .i64 z.1.o, .slice z.2.1 z.1.a.length z.2.2, .bool z.1.m] ∧ Vals w z.2.1 z.1.a ∧ z.1.a.length ≤ z.2.2 ∧ z.2.2 ≤ maxLen ∧ okL z.1.a ∧ I64 z.1.d ∧ I64 z.1.o := fun i hi => by
    obtain ⟨hlen, m, hf⟩ := open_fields he hone hC (hd i hi)
    obtain ⟨v0, y0, hv0, ht0⟩ := hf 0 f0 rfl
    obtain ⟨v1, y1, hv1, ht1⟩ := hf 1 f1 rfl
    obtain ⟨v2, y2, hv2, ht2⟩ := hf 2 f2 rfl
    obtain ⟨v3, y3, hv3, ht3⟩ := hf 3 f3 rfl
    obtain ⟨a, ha, _, wa⟩ := DataW.trod_int h0 ht0
    obtain ⟨b, hb, _, wb⟩ := DataW.trod_int h1 ht1
    obtain ⟨B, C, q, hq, q1, q2, q3, q4⟩ := open_Vals h2 he' hone' hC' k0 k1 k2 ht2
    obtain ⟨d, hd', _⟩ := DataW.trod_bool h3 ht3
    match hEi : E i, hlen with
    | [r0, r1, r2, r3], _ =>
      rw [hEi] at hv0 hv1 hv2 hv3
      simp at hv0 hv1 hv2 hv3 ha hb hq hd'
      exact ⟨(⟨a, b, q, d⟩, B, C), by rw [hv0, hv1, hv2, hv3, ha, hb, hq, hd'], q3, q1, q2, q4, wa, wb⟩
  have : Inhabited (Ru × Option Addr × Nat) := ⟨(Ru.zero, none, 0)⟩
  obtain ⟨Z, hZ⟩ := choose_lt hv
  have hg : ∀ i, i < len → ru ((List.range len).map fun i => (Z i).1) i = (Z i).1 := fun i hi => by simp [ru, hi]
  refine ⟨A, cap, (List.range len).map fun i => (Z i).1, by simp [hcs], by simpa using hl, hm, ⟨fun i => (Z i).2.1, fun i => (Z i).2.2, ?_, fun i hi => ?_⟩, fun i hi => ?_⟩
  · rw [hC] at hs
    simp only [List.length_map, List.length_range]
    refine hs.congr fun i hi j hj => ?_
    rw [(hZ i hi).1]
    rcases (show j = 0 ∨ j = 1 ∨ j = 2 ∨ j = 3 by omega) with rfl | rfl | rfl | rfl <;> simp [ruc, hg i hi]
  · have hi' : i < len := by simpa using hi
    rw [hg i hi']; exact ⟨(hZ i hi').2.1, (hZ i hi').2.2.1, (hZ i hi').2.2.2.1⟩
  · have hi' : i < len := by simpa using hi
    rw [hg i hi']; exact ⟨(hZ i hi').2.2.2.2.1, (hZ i hi').2.2.2.2.2⟩
theorem arg_Rls {r : Reach} {b0 : Nat} {v : Value} {d : DataW H} {p : List MemPlace} {t e ve : TypeId} {f0 f1 f2 f3 g0 g1 g2 : Field} (ht : P.underlying t = some (.slice e)) (he : P.underlying e = some (.struct #[f0, f1, f2, f3])) (hone : oneCellFields P #[f0, f1, f2, f3] = true) (hC : P.cellsOf e = 4)
    (h0 : P.underlying f0.type = some (.int .i64)) (h1 : P.underlying f1.type = some (.int .i64)) (h2 : P.underlying f2.type = some (.slice ve)) (h3 : P.underlying f3.type = some .bool)
    (he' : P.underlying ve = some (.struct #[g0, g1, g2])) (hone' : oneCellFields P #[g0, g1, g2] = true) (hC' : P.cellsOf ve = 3) (k0 : P.underlying g0.type = some (.int .i64)) (k1 : P.underlying g1.type = some (.int .i64)) (k2 : P.underlying g2.type = some .string)
    (hval : Value.okWide P w r b0 t v) (hd : DataW.Trod enc P w base spare held t v d p) :
    ∃ (A : Option Addr) (cap : Nat) (l : List Ru), v = .slice A l.length cap ∧ l.length ≤ cap ∧ cap ≤ maxLen ∧ Rls w A l ∧ okR l := by
  obtain ⟨fuel, hf⟩ := hd
  obtain ⟨A, cap, xs, q1, q2⟩ := open_Rls (lt := 0) ht he hone hC h0 h1 h2 h3 he' hone' hC' k0 k1 k2 hf
  exact ⟨A, cap, xs, slice_whole ht hval q1, q2⟩
theorem open_Aks {t e ve : TypeId} {f0 f1 f2 f3 g0 g1 g2 : Field} {fuel : Nat} {cs : List Value} {x : DataW H × List MemPlace} (ht : P.underlying t = some (.slice e)) (he : P.underlying e = some (.struct #[f0, f1, f2, f3])) (hone : oneCellFields P #[f0, f1, f2, f3] = true) (hC : P.cellsOf e = 4)
    (h0 : P.underlying f0.type = some (.int .i64)) (h1 : P.underlying f1.type = some (.int .i64)) (h2 : P.underlying f2.type = some (.int .i64)) (h3 : P.underlying f3.type = some (.slice ve))
    (he' : P.underlying ve = some (.struct #[g0, g1, g2])) (hone' : oneCellFields P #[g0, g1, g2] = true) (hC' : P.cellsOf ve = 3) (k0 : P.underlying g0.type = some (.int .i64)) (k1 : P.underlying g1.type = some (.int .i64)) (k2 : P.underlying g2.type = some .string)
    (h : DataW.trod enc P w base spare held fuel t cs = some x) :
    ∃ (A : Option Addr) (cap : Nat) (l : List Ak), cs = [.slice A l.length cap] ∧ l.length ≤ cap ∧ cap ≤ maxLen ∧ Aks w A l ∧ okA l := by
  obtain ⟨A, len, cap, n, E, D, hcs, hl, hm, hE, hs, hd⟩ := open_cells ht (by omega) h
  have hv : ∀ i, i < len → ∃ z : Ak × Option Addr × Nat, E i = [.int .i64 z.1.w, .int .i64 z.1.q, .int .i64 z.1.d, .slice z.2.1 z.1.t.length z.2.2] ∧ Vals w z.2.1 z.1.t ∧ z.1.t.length ≤ z.2.2 ∧ z.2.2 ≤ maxLen ∧ okL z.1.t ∧ I64 z.1.w ∧ I64 z.1.q ∧ I64 z.1.d := fun i hi => by
    obtain ⟨hlen, m, hf⟩ := open_fields he hone hC (hd i hi)
    obtain ⟨v0, y0, hv0, ht0⟩ := hf 0 f0 rfl
    obtain ⟨v1, y1, hv1, ht1⟩ := hf 1 f1 rfl
    obtain ⟨v2, y2, hv2, ht2⟩ := hf 2 f2 rfl
    obtain ⟨v3, y3, hv3, ht3⟩ := hf 3 f3 rfl
    obtain ⟨a, ha, _, wa⟩ := DataW.trod_int h0 ht0
    obtain ⟨b, hb, _, wb⟩ := DataW.trod_int h1 ht1
    obtain ⟨d, hd', _, wd⟩ := DataW.trod_int h2 ht2
    obtain ⟨B, C, q, hq, q1, q2, q3, q4⟩ := open_Vals h3 he' hone' hC' k0 k1 k2 ht3
    match hEi : E i, hlen with
    | [r0, r1, r2, r3], _ =>
      rw [hEi] at hv0 hv1 hv2 hv3
      simp at hv0 hv1 hv2 hv3 ha hb hq hd'
      exact ⟨(⟨a, b, d, q⟩, B, C), by rw [hv0, hv1, hv2, hv3, ha, hb, hq, hd'], q3, q1, q2, q4, wa, wb, wd⟩
  have : Inhabited (Ak × Option Addr × Nat) := ⟨(Ak.zero, none, 0)⟩
  obtain ⟨Z, hZ⟩ := choose_lt hv
  have hg : ∀ i, i < len → ak ((List.range len).map fun i => (Z i).1) i = (Z i).1 := fun i hi => by simp [ak, hi]
  refine ⟨A, cap, (List.range len).map fun i => (Z i).1, by simp [hcs], by simpa using hl, hm, ⟨fun i => (Z i).2.1, fun i => (Z i).2.2, ?_, fun i hi => ?_⟩, fun i hi => ?_⟩
  · rw [hC] at hs
    simp only [List.length_map, List.length_range]
    refine hs.congr fun i hi j hj => ?_
    rw [(hZ i hi).1]
    rcases (show j = 0 ∨ j = 1 ∨ j = 2 ∨ j = 3 by omega) with rfl | rfl | rfl | rfl <;> simp [akc, hg i hi]
  · have hi' : i < len := by simpa using hi
    rw [hg i hi']; exact ⟨(hZ i hi').2.1, (hZ i hi').2.2.1, (hZ i hi').2.2.2.1⟩
  · have hi' : i < len := by simpa using hi
    rw [hg i hi']; exact ⟨(hZ i hi').2.2.2.2.1, (hZ i hi').2.2.2.2.2⟩
theorem arg_Aks {r : Reach} {b0 : Nat} {v : Value} {d : DataW H} {p : List MemPlace} {t e ve : TypeId} {f0 f1 f2 f3 g0 g1 g2 : Field} (ht : P.underlying t = some (.slice e)) (he : P.underlying e = some (.struct #[f0, f1, f2, f3])) (hone : oneCellFields P #[f0, f1, f2, f3] = true) (hC : P.cellsOf e = 4)
    (h0 : P.underlying f0.type = some (.int .i64)) (h1 : P.underlying f1.type = some (.int .i64)) (h2 : P.underlying f2.type = some (.int .i64)) (h3 : P.underlying f3.type = some (.slice ve))
    (he' : P.underlying ve = some (.struct #[g0, g1, g2])) (hone' : oneCellFields P #[g0, g1, g2] = true) (hC' : P.cellsOf ve = 3) (k0 : P.underlying g0.type = some (.int .i64)) (k1 : P.underlying g1.type = some (.int .i64)) (k2 : P.underlying g2.type = some .string)
    (hval : Value.okWide P w r b0 t v) (hd : DataW.Trod enc P w base spare held t v d p) :
    ∃ (A : Option Addr) (cap : Nat) (l : List Ak), v = .slice A l.length cap ∧ l.length ≤ cap ∧ cap ≤ maxLen ∧ Aks w A l ∧ okA l := by
  obtain ⟨fuel, hf⟩ := hd
  obtain ⟨A, cap, xs, q1, q2⟩ := open_Aks ht he hone hC h0 h1 h2 h3 he' hone' hC' k0 k1 k2 hf
  exact ⟨A, cap, xs, slice_whole ht hval q1, q2⟩
end
end Go.Proofs.YtfelefkmbbfdjaaGreatDoor
