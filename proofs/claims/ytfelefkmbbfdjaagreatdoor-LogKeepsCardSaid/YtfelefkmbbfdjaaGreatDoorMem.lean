/- What a slice holds in memory, as a predicate; how an argument's reading gives it; that it stays while only new memory is written. Over any program. -/
import Derived.Below
import Derived.Deep.Slices
import Derived.Deep.Fields
import Derived.Deep.OwnRows
import Derived.Laws.OwnMore
import Derived.Deep.Draws
import Derived.Deep.AppendLies
import Derived.ChangeSame
import Derived.ChangeMaps
import Derived.WideShapes
import Derived.Carry
namespace Go.Proofs.YtfelefkmbbfdjaaGreatDoor
open Go.RowKit Go.ChangeShapes Go.WideShapes Go.Deep

/-- behind A lie n elements of k cells: cell j of element i is c i j -/
def Sl (w : World) (k : Nat) (A : Option Addr) (n : Nat) (c : Nat → Nat → Value) : Prop :=
  0 < n → ∃ b off, A = some ⟨b, off, none⟩ ∧ b < w.heap.size ∧ ∀ i, i < n → ∀ j, j < k → w.cell? ⟨b, off + i * k + j, none⟩ = some (c i j)

theorem lt_of_cell {w : World} {a : Addr} {v : Value} (h : w.cell? a = some v) : a.block < w.heap.size := by
  rcases Nat.lt_or_ge a.block w.heap.size with hl | hg
  · exact hl
  · simp [World.cell?, Array.getElem?_eq_none hg] at h

section
variable {w w' : World} {k n : Nat} {A : Option Addr} {c : Nat → Nat → Value}
theorem Sl.zero : Sl w k A 0 c := fun h => absurd h (by omega)
theorem Sl.keep (h : Sl w k A n c) (hz : w.heap.size ≤ w'.heap.size) (hc : ∀ p : Addr, p.block < w.heap.size → w'.cell? p = w.cell? p) : Sl w' k A n c := fun hn => by
  obtain ⟨b, off, e, hb, hi⟩ := h hn
  exact ⟨b, off, e, by omega, fun i h1 j h2 => (hc _ hb).trans (hi i h1 j h2)⟩
theorem Sl.below {B : Nat} (h : Sl w k A n c) (hb : Below B w w') (hB : w.heap.size ≤ B) : Sl w' k A n c := h.keep hb.size fun _ hp => hb.cell (by omega)
theorem Sl.drew (h : Sl w k A n c) : Sl w.drew k A n c := h
theorem Sl.drewN (h : Sl w k A n c) (m : Nat) : Sl (w.drewN m) k A n c := h
theorem Sl.alloc (h : Sl w k A n c) (o : Obj) : Sl (w.alloc o) k A n c := h.keep (by simp) fun p hp => World.cell?_alloc_lt w o p hp
theorem Sl.take (h : Sl w k A n c) {m : Nat} (hm : m ≤ n) : Sl w k A m c := fun h0 => by
  obtain ⟨b, off, e, hb, hi⟩ := h (by omega)
  exact ⟨b, off, e, hb, fun i h1 => hi i (by omega)⟩
theorem Sl.at1 (h : Sl w 1 A n c) {i : Nat} (hi : i < n) : ∃ b off, A = some ⟨b, off, none⟩ ∧ b < w.heap.size ∧ w.cell? ⟨b, off + i, none⟩ = some (c i 0) := by
  obtain ⟨b, off, e, hb, hh⟩ := h (by omega)
  refine ⟨b, off, e, hb, ?_⟩
  have := hh i hi 0 (by omega)
  rwa [Nat.mul_one, Nat.add_zero] at this
theorem Sl.at2 (h : Sl w 2 A n c) {i : Nat} (hi : i < n) : ∃ b off, A = some ⟨b, off, none⟩ ∧ b < w.heap.size ∧ w.cell? ⟨b, off + i * 2, none⟩ = some (c i 0) ∧ w.cell? ⟨b, off + i * 2 + 1, none⟩ = some (c i 1) := by
  obtain ⟨b, off, e, hb, hh⟩ := h (by omega)
  exact ⟨b, off, e, hb, hh i hi 0 (by omega), hh i hi 1 (by omega)⟩
theorem Sl.at3 (h : Sl w 3 A n c) {i : Nat} (hi : i < n) : ∃ b off, A = some ⟨b, off, none⟩ ∧ b < w.heap.size ∧ w.cell? ⟨b, off + i * 3, none⟩ = some (c i 0) ∧ w.cell? ⟨b, off + i * 3 + 1, none⟩ = some (c i 1) ∧ w.cell? ⟨b, off + i * 3 + 2, none⟩ = some (c i 2) := by
  obtain ⟨b, off, e, hb, hh⟩ := h (by omega)
  exact ⟨b, off, e, hb, hh i hi 0 (by omega), hh i hi 1 (by omega), hh i hi 2 (by omega)⟩
theorem Sl.congr {c' : Nat → Nat → Value} (h : Sl w k A n c) (e : ∀ i, i < n → ∀ j, j < k → c i j = c' i j) : Sl w k A n c' := fun h0 => by
  obtain ⟨b, off, e1, hb, hh⟩ := h h0
  exact ⟨b, off, e1, hb, fun i hi j hj => by rw [← e i hi j hj]; exact hh i hi j hj⟩
/-- the slice's own row -/
theorem Sl.of_own {base : Nat} {t : TypeId} {cap : Nat} {xs : List Value} (h : w.ownsRow base t k (.slice A n cap) n xs) (e : ∀ i, i < n → ∀ j, j < k → xs[i * k + j]? = some (c i j)) : Sl w k A n c := fun h0 => by
  obtain ⟨g, cap', hv, _, hlt⟩ := h.form h0
  have hA : A = some ⟨g, 0, none⟩ := by injection hv
  subst hA
  refine ⟨g, 0, rfl, hlt, fun i hi j hj => ?_⟩
  have := h.cells (g := g) rfl (i * k + j) _ (e i hi j hj)
  simpa [Addr.add, Nat.add_assoc, Nat.zero_add] using (show w.cell? ⟨g, 0 + i * k + j, none⟩ = _ by
    rw [← this]; unfold Addr.add; split
    · rename_i h0; simp only [Nat.add_eq_zero_iff] at h0; simp [h0.1, h0.2]
    · simp)
end

/-! ### what was there stays: steps -/
theorem bal {w a : World} (h : Below w.heap.size w a) (o : Obj) : Below w.heap.size w (a.alloc o) := h.alloc h.size o
theorem bcl {w a b : World} (h : Below w.heap.size w a) (k : Below a.heap.size a b) : Below w.heap.size w b := h.trans (k.mono h.size)
theorem bdn {w a : World} (h : Below w.heap.size w a) (n : Nat) : Below w.heap.size w (a.drewN n) := ⟨h.os, h.tape, h.output, h.size, h.block⟩
theorem bdr {w a : World} (h : Below w.heap.size w a) : Below w.heap.size w a.drew := h.drew
theorem bset {w a : World} (h : Below w.heap.size w a) {p : Addr} (hp : w.heap.size ≤ p.block) (u : Value) : Below w.heap.size w (a.setCell p u) := h.setCell hp u
theorem bgr {w a b : World} {row : Option Nat} (h : Below w.heap.size w a) (hg : a.grownBy b row) (hr : ∀ k, row = some k → w.heap.size ≤ k) : Below w.heap.size w b := h.grown hg h.size hr
theorem bgv {w a b : World} {v : Value} {t : TypeId} {k n : Nat} {xs : List Value} (h : Below w.heap.size w a) (hg : a.grownBy b v.ownBlock) (ho : a.ownsRow w.heap.size t k v n xs) : Below w.heap.size w b :=
  h.grown hg h.size fun j hj => by
    rcases ho.2 with ⟨rfl, _⟩ | ⟨g, cap, cur, rfl, hg, _⟩
    · simp [Value.ownBlock] at hj
    · simp only [Value.ownBlock, Option.some.injEq] at hj; omega

/-! ### lists, by place -/
def gi (l : List Int) (i : Nat) : Int := l.getD i 0
def gs (l : List ByteArray) (i : Nat) : ByteArray := l.getD i ByteArray.empty
/-- a share: at which place, what is there -/
abbrev Sh := Int × Int
def ga (l : List Sh) (i : Nat) : Int := (l.getD i (0, 0)).1
def gb (l : List Sh) (i : Nat) : Int := (l.getD i (0, 0)).2
def gg {α : Type} (l : List (List α)) (i : Nat) : List α := l.getD i []

def shc (l : List Sh) (i j : Nat) : Value := if j = 0 then .int .i64 (ga l i) else .int .i64 (gb l i)

/-- ints lie behind A -/
def Ints (w : World) (A : Option Addr) (xs : List Int) : Prop := Sl w 1 A xs.length fun i _ => .int .i64 (gi xs i)
def Strs (w : World) (A : Option Addr) (ss : List ByteArray) : Prop := Sl w 1 A ss.length fun i _ => .string (gs ss i)
def Shares (w : World) (A : Option Addr) (l : List Sh) : Prop := Sl w 2 A l.length (shc l)
/-- slices lie behind A, of what Q tells -/
def Many {α : Type} (Q : World → Option Addr → List α → Prop) (w : World) (A : Option Addr) (l : List (List α)) : Prop :=
  ∃ (B : Nat → Option Addr) (C : Nat → Nat), Sl w 1 A l.length (fun i _ => .slice (B i) (gg l i).length (C i)) ∧ ∀ i, i < l.length → Q w (B i) (gg l i) ∧ (gg l i).length ≤ C i ∧ C i ≤ maxLen

section
variable {w w' : World} {A : Option Addr}
theorem Ints.at_ {xs : List Int} (h : Ints w A xs) {i : Nat} (hi : i < xs.length) : ∃ b off, A = some ⟨b, off, none⟩ ∧ b < w.heap.size ∧ w.cell? ⟨b, off + i, none⟩ = some (.int .i64 (gi xs i)) := Sl.at1 h hi
theorem Strs.at_ {ss : List ByteArray} (h : Strs w A ss) {i : Nat} (hi : i < ss.length) : ∃ b off, A = some ⟨b, off, none⟩ ∧ b < w.heap.size ∧ w.cell? ⟨b, off + i, none⟩ = some (.string (gs ss i)) := Sl.at1 h hi
theorem Shares.at_ {l : List Sh} (h : Shares w A l) {i : Nat} (hi : i < l.length) : ∃ b off, A = some ⟨b, off, none⟩ ∧ b < w.heap.size ∧ w.cell? ⟨b, off + i * 2, none⟩ = some (.int .i64 (ga l i)) ∧ w.cell? ⟨b, off + i * 2 + 1, none⟩ = some (.int .i64 (gb l i)) := Sl.at2 h hi
theorem Ints.below {xs : List Int} {B : Nat} (h : Ints w A xs) (hb : Below B w w') (hB : w.heap.size ≤ B) : Ints w' A xs := Sl.below h hb hB
theorem Strs.below {xs : List ByteArray} {B : Nat} (h : Strs w A xs) (hb : Below B w w') (hB : w.heap.size ≤ B) : Strs w' A xs := Sl.below h hb hB
theorem Shares.below {l : List Sh} {B : Nat} (h : Shares w A l) (hb : Below B w w') (hB : w.heap.size ≤ B) : Shares w' A l := Sl.below h hb hB
theorem Many.below {α : Type} {Q : World → Option Addr → List α → Prop} (hQ : ∀ (w w' : World) (A : Option Addr) (l : List α), Q w A l → Below w.heap.size w w' → Q w' A l)
    {l : List (List α)} (h : Many Q w A l) (hb : Below w.heap.size w w') : Many Q w' A l := by
  obtain ⟨B, C, h1, h2⟩ := h
  exact ⟨B, C, h1.below hb (Nat.le_refl _), fun i hi => ⟨hQ _ _ _ _ (h2 i hi).1 hb, (h2 i hi).2⟩⟩
theorem ga_take (l : List Sh) (n i : Nat) (h : i < n) : ga (l.take n) i = ga l i := by
  simp only [ga, List.getD_eq_getElem?_getD, List.getElem?_take]; rw [if_pos h]
theorem gb_take (l : List Sh) (n i : Nat) (h : i < n) : gb (l.take n) i = gb l i := by
  simp only [gb, List.getD_eq_getElem?_getD, List.getElem?_take]; rw [if_pos h]
theorem gi_take (l : List Int) (n i : Nat) (h : i < n) : gi (l.take n) i = gi l i := by
  simp only [gi, List.getD_eq_getElem?_getD, List.getElem?_take]; rw [if_pos h]
theorem Shares.take {l : List Sh} (h : Shares w A l) {n : Nat} (hn : n ≤ l.length) : Shares w A (l.take n) := by
  unfold Shares at h ⊢
  rw [List.length_take, Nat.min_eq_left hn]
  exact (Sl.take h hn).congr fun i hi j hj => by simp only [shc, ga_take l n i hi, gb_take l n i hi]
theorem Ints.nil : Ints w A [] := Sl.zero
theorem Shares.nil : Shares w A [] := Sl.zero
theorem Strs.nil : Strs w A [] := Sl.zero
end

/-- a slice of texts, written out, in a new block -/
theorem lit_strs (w : World) (l : List ByteArray) (t : TypeId) {g : Nat} (hg : g = w.heap.size) : Strs (w.alloc (.cells (l.map Value.string).toArray t)) (some ⟨g, 0, none⟩) l := fun _ => by
  subst hg
  refine ⟨w.heap.size, 0, rfl, by simp, fun i hi j hj => ?_⟩
  obtain rfl : j = 0 := by omega
  have hr := World.rowIs_alloc w (l.map Value.string).toArray t (fun i => .string (gs l i)) (fun i hi => by
    have : i < l.length := by simpa using hi
    simp [gs, this])
  have := hr.cell (i := i) (by simpa using hi)
  simpa using this
theorem lit_ints (w : World) (l : List Int) (t : TypeId) {g : Nat} (hg : g = w.heap.size) : Ints (w.alloc (.cells (l.map (Value.int .i64)).toArray t)) (some ⟨g, 0, none⟩) l := fun _ => by
  subst hg
  refine ⟨w.heap.size, 0, rfl, by simp, fun i hi j hj => ?_⟩
  obtain rfl : j = 0 := by omega
  have hr := World.rowIs_alloc w (l.map (Value.int .i64)).toArray t (fun i => .int .i64 (gi l i)) (fun i hi => by
    have : i < l.length := by simpa using hi
    simp [gi, this])
  have := hr.cell (i := i) (by simpa using hi)
  simpa using this
/-- a row of texts reads as a list -/
theorem strs_of_row {w : World} {g n : Nat} {t : TypeId} {l : List ByteArray} (h : w.rowIs g t n (fun j => .string (gs l j))) (hn : l.length = n) : Strs w (some ⟨g, 0, none⟩) l := fun _ => by
  refine ⟨g, 0, rfl, h.lt, fun i hi j hj => ?_⟩
  obtain rfl : j = 0 := by omega
  simpa using h.cell (i := i) (by omega)
/-- a slice of one text, in a new block -/
theorem one_strs (w : World) (s : ByteArray) (t : TypeId) {g : Nat} (hg : g = w.heap.size) : Strs (w.alloc (.cells #[.string s] t)) (some ⟨g, 0, none⟩) [s] := fun _ => by
  subst hg
  refine ⟨w.heap.size, 0, rfl, by simp, fun i hi j hj => ?_⟩
  obtain rfl : i = 0 := by simpa using hi
  obtain rfl : j = 0 := by omega
  simp [gs]
theorem one_ints (w : World) (n : Int) (t : TypeId) {g : Nat} (hg : g = w.heap.size) : Ints (w.alloc (.cells #[.int .i64 n] t)) (some ⟨g, 0, none⟩) [n] := fun _ => by
  subst hg
  refine ⟨w.heap.size, 0, rfl, by simp, fun i hi j hj => ?_⟩
  obtain rfl : i = 0 := by simpa using hi
  obtain rfl : j = 0 := by omega
  simp [gi]
theorem one_shares (w : World) (a b : Int) (t : TypeId) {g : Nat} (hg : g = w.heap.size) : Shares (w.alloc (.cells #[.int .i64 a, .int .i64 b] t)) (some ⟨g, 0, none⟩) [(a, b)] := fun _ => by
  subst hg
  refine ⟨w.heap.size, 0, rfl, by simp, fun i hi j hj => ?_⟩
  obtain rfl : i = 0 := by simpa using hi
  rcases (show j = 0 ∨ j = 1 by omega) with rfl | rfl
  · simp [shc, ga]
  · simp [shc, gb]

/-! ### an argument's reading, opened -/
section
variable {H : Type} {enc : TypeId × Value → H} {P : Program} {w : World} {base : Nat} {spare : Nat → Bool} {held : Bool}

theorem spot_none {a : Addr} {v : Value} {m : Nat} (h : w.cell? (a.add m) = some v) : m = 0 → a.spot = none := by
  intro h0; subst h0
  simpa [Addr.add] using World.cell?_spot h

/-- a slice's cells, whatever the elements -/
theorem open_cells {t e : TypeId} {fuel : Nat} {cs : List Value} {x : DataW H × List MemPlace} (ht : P.underlying t = some (.slice e)) (hC : 0 < P.cellsOf e) (h : DataW.trod enc P w base spare held fuel t cs = some x) :
    ∃ (A : Option Addr) (len cap n : Nat) (E : Nat → List Value) (D : Nat → DataW H × List MemPlace), cs = [.slice A len cap] ∧ len ≤ cap ∧ cap ≤ maxLen ∧ (∀ i, i < len → (E i).length = P.cellsOf e) ∧ Sl w (P.cellsOf e) A len (fun i j => (E i).getD j .nilFunc) ∧
      ∀ i, i < len → DataW.trod enc P w base spare held n e (E i) = some (D i) := by
  rcases open_slice ht h with ⟨h0, _⟩ | ⟨a, len, cap, m, n, D, Pl, hcs, hb, hl, hm, hmm, hx, hi⟩
  · exact ⟨none, 0, 0, 0, fun _ => [], fun _ => (.nil, []), h0, Nat.le_refl _, Nat.zero_le _, fun i hi => absurd hi (by omega), Sl.zero, fun i hi => absurd hi (by omega)⟩
  · have hlm : len ≤ m := by rw [hmm]; split <;> omega
    obtain ⟨E, hE⟩ := choose_lt (α := List Value) (p := fun i cs' => w.cells? base (a.add (i * P.cellsOf e)) (P.cellsOf e) = some cs' ∧ DataW.trod enc P w base spare held n e cs' = some (D i, Pl i)) hi
    refine ⟨some a, len, cap, n, E, fun i => (D i, Pl i), hcs, hl, hm, fun i hil => (World.cells?_some (hE i (by omega)).1).2.1, fun h0 => ?_, fun i hil => (hE i (by omega)).2⟩
    have hat : ∀ i, i < len → ∀ j, j < P.cellsOf e → w.cell? (a.add (i * P.cellsOf e + j)) = some ((E i).getD j .nilFunc) := by
      intro i hil j hj
      obtain ⟨_, hlen, hc⟩ := World.cells?_some (hE i (by omega)).1
      rw [← Go.Deep.add_add, hc j hj, List.getElem?_eq_getElem (by omega), List.getD_eq_getElem?_getD, List.getElem?_eq_getElem (by omega)]
      rfl
    have h00 := hat 0 h0 0 hC
    have hs : a.spot = none := by
      have := World.cell?_spot h00
      simpa [Addr.add] using this
    obtain ⟨b, off, spot⟩ := a
    simp only at hs; subst hs
    refine ⟨b, off, rfl, by simpa [Addr.add] using lt_of_cell h00, fun i hil j hj => ?_⟩
    have := hat i hil j hj
    rw [Go.WideShapes.add_plain] at this
    rw [Nat.add_assoc]; exact this

theorem len1 {α : Type} {l : List α} (h : l.length = 1) : ∃ a, l = [a] := by
  match l, h with
  | [a], _ => exact ⟨a, rfl⟩
theorem len2 {α : Type} {l : List α} (h : l.length = 2) : ∃ a b, l = [a, b] := by
  match l, h with
  | [a, b], _ => exact ⟨a, b, rfl⟩

def I64 (n : Int) : Prop := (Lit.int .i64 n).wf = true

theorem open_Ints {t e : TypeId} {fuel : Nat} {cs : List Value} {x : DataW H × List MemPlace} (ht : P.underlying t = some (.slice e)) (he : P.underlying e = some (.int .i64)) (hC : P.cellsOf e = 1)
    (h : DataW.trod enc P w base spare held fuel t cs = some x) :
    ∃ (A : Option Addr) (cap : Nat) (xs : List Int), cs = [.slice A xs.length cap] ∧ xs.length ≤ cap ∧ cap ≤ maxLen ∧ Ints w A xs ∧ ∀ i, i < xs.length → I64 (gi xs i) := by
  obtain ⟨A, len, cap, n, E, D, hcs, hl, hm, hE, hs, hd⟩ := open_cells ht (by omega) h
  have hv : ∀ i, i < len → ∃ z : Int, E i = [.int .i64 z] ∧ I64 z := fun i hi => by
    obtain ⟨z, hz, _, hw⟩ := DataW.trod_int he (hd i hi)
    exact ⟨z, hz, hw⟩
  obtain ⟨Z, hZ⟩ := choose_lt hv
  have hg : ∀ i, i < len → gi ((List.range len).map Z) i = Z i := fun i hi => by simp [gi, hi]
  refine ⟨A, cap, (List.range len).map Z, by simp [hcs], by simpa using hl, hm, ?_, fun i hi => ?_⟩
  · unfold Ints
    rw [hC] at hs
    simp only [List.length_map, List.length_range]
    refine hs.congr fun i hi j hj => ?_
    obtain rfl : j = 0 := by omega
    rw [(hZ i hi).1, hg i hi]; rfl
  · have hi' : i < len := by simpa using hi
    rw [hg i hi']; exact (hZ i hi').2

theorem open_Strs {t e : TypeId} {fuel : Nat} {cs : List Value} {x : DataW H × List MemPlace} (ht : P.underlying t = some (.slice e)) (he : P.underlying e = some .string) (hC : P.cellsOf e = 1)
    (h : DataW.trod enc P w base spare held fuel t cs = some x) :
    ∃ (A : Option Addr) (cap : Nat) (ss : List ByteArray), cs = [.slice A ss.length cap] ∧ ss.length ≤ cap ∧ cap ≤ maxLen ∧ Strs w A ss ∧ ∀ i, i < ss.length → (gs ss i).size ≤ maxLen := by
  obtain ⟨A, len, cap, n, E, D, hcs, hl, hm, hE, hs, hd⟩ := open_cells ht (by omega) h
  have hv : ∀ i, i < len → ∃ z : ByteArray, E i = [.string z] ∧ z.size ≤ maxLen := fun i hi => by
    obtain ⟨z, hz, _, hw⟩ := DataW.trod_string he (hd i hi)
    exact ⟨z, hz, hw⟩
  obtain ⟨Z, hZ⟩ := choose_lt hv
  have hg : ∀ i, i < len → gs ((List.range len).map Z) i = Z i := fun i hi => by simp [gs, hi]
  refine ⟨A, cap, (List.range len).map Z, by simp [hcs], by simpa using hl, hm, ?_, fun i hi => ?_⟩
  · unfold Strs
    rw [hC] at hs
    simp only [List.length_map, List.length_range]
    refine hs.congr fun i hi j hj => ?_
    obtain rfl : j = 0 := by omega
    rw [(hZ i hi).1, hg i hi]; rfl
  · have hi' : i < len := by simpa using hi
    rw [hg i hi']; exact (hZ i hi').2

/-- a struct's fields, each of one cell -/
theorem open_fields {t : TypeId} {fs : Array Field} {n : Nat} {cs : List Value} {x : DataW H × List MemPlace} (ht : P.underlying t = some (.struct fs)) (hone : oneCellFields P fs = true) (hC : P.cellsOf t = fs.size)
    (h : DataW.trod enc P w base spare held n t cs = some x) :
    cs.length = fs.size ∧ ∃ m, ∀ (j : Nat) (f : Field), fs[j]? = some f → ∃ v y, cs[j]? = some v ∧ DataW.trod enc P w base spare held m f.type [v] = some y := by
  obtain ⟨ys, m, _, _, hlen, hyl, hf⟩ := DataW.trod_struct ht h
  refine ⟨by rw [hlen, hC], m, fun j f hj => ?_⟩
  obtain ⟨ho, hk⟩ := hone_of hone j f hj
  have hjl : j < fs.size := (Array.getElem?_eq_some_iff.1 hj).1
  have hv : cs[j]? = some (cs[j]'(by omega)) := List.getElem?_eq_getElem (by omega)
  have h1 := hf j f hj
  rw [ho, hk] at h1
  have hone' : (cs.drop j).take 1 = [cs[j]'(by omega)] := by
    rw [List.drop_eq_getElem_cons (by omega)]; rfl
  rw [hone'] at h1
  exact ⟨_, _, hv, h1.trans (List.getElem?_eq_getElem (by omega))⟩

theorem open_Shares {t e : TypeId} {f0 f1 : Field} {fuel : Nat} {cs : List Value} {x : DataW H × List MemPlace} (ht : P.underlying t = some (.slice e)) (he : P.underlying e = some (.struct #[f0, f1])) (hone : oneCellFields P #[f0, f1] = true) (hC : P.cellsOf e = 2)
    (h0 : P.underlying f0.type = some (.int .i64)) (h1 : P.underlying f1.type = some (.int .i64))
    (h : DataW.trod enc P w base spare held fuel t cs = some x) :
    ∃ (A : Option Addr) (cap : Nat) (l : List Sh), cs = [.slice A l.length cap] ∧ l.length ≤ cap ∧ cap ≤ maxLen ∧ Shares w A l ∧ ∀ i, i < l.length → I64 (ga l i) ∧ I64 (gb l i) := by
  obtain ⟨A, len, cap, n, E, D, hcs, hl, hm, hE, hs, hd⟩ := open_cells ht (by omega) h
  have hv : ∀ i, i < len → ∃ z : Sh, E i = [.int .i64 z.1, .int .i64 z.2] ∧ I64 z.1 ∧ I64 z.2 := fun i hi => by
    obtain ⟨hlen, m, hf⟩ := open_fields he hone hC (hd i hi)
    obtain ⟨v0, y0, hv0, ht0⟩ := hf 0 f0 rfl
    obtain ⟨v1, y1, hv1, ht1⟩ := hf 1 f1 rfl
    obtain ⟨a, ha, _, wa⟩ := DataW.trod_int h0 ht0
    obtain ⟨b, hb, _, wb⟩ := DataW.trod_int h1 ht1
    obtain ⟨p, r, hpr⟩ := len2 hlen
    rw [hpr] at hv0 hv1 ⊢
    simp at hv0 hv1 ha hb
    exact ⟨(a, b), by rw [hv0, hv1, ha, hb], wa, wb⟩
  obtain ⟨Z, hZ⟩ := choose_lt hv
  have hg : ∀ i, i < len → ga ((List.range len).map Z) i = (Z i).1 ∧ gb ((List.range len).map Z) i = (Z i).2 := fun i hi => by simp [ga, gb, hi]
  refine ⟨A, cap, (List.range len).map Z, by simp [hcs], by simpa using hl, hm, ?_, fun i hi => ?_⟩
  · unfold Shares
    rw [hC] at hs
    simp only [List.length_map, List.length_range]
    refine hs.congr fun i hi j hj => ?_
    rw [(hZ i hi).1]
    rcases (show j = 0 ∨ j = 1 by omega) with rfl | rfl
    · simp [shc, (hg i hi).1]
    · simp [shc, (hg i hi).2]
  · have hi' : i < len := by simpa using hi
    rw [(hg i hi').1, (hg i hi').2]; exact (hZ i hi').2

/-- slices of slices -/
theorem open_Many {α : Type} {Q : World → Option Addr → List α → Prop} {R : List α → Prop} {t e : TypeId} {fuel : Nat} {cs : List Value} {x : DataW H × List MemPlace} (ht : P.underlying t = some (.slice e)) (hC : P.cellsOf e = 1)
    (hQ : ∀ (n : Nat) (cs : List Value) (y : DataW H × List MemPlace), DataW.trod enc P w base spare held n e cs = some y → ∃ (A : Option Addr) (cap : Nat) (xs : List α), cs = [.slice A xs.length cap] ∧ xs.length ≤ cap ∧ cap ≤ maxLen ∧ Q w A xs ∧ R xs)
    (h : DataW.trod enc P w base spare held fuel t cs = some x) :
    ∃ (A : Option Addr) (cap : Nat) (l : List (List α)), cs = [.slice A l.length cap] ∧ l.length ≤ cap ∧ cap ≤ maxLen ∧ Many Q w A l ∧ ∀ i, i < l.length → R (gg l i) := by
  obtain ⟨A, len, cap, n, E, D, hcs, hl, hm, hE, hs, hd⟩ := open_cells ht (by omega) h
  have hv : ∀ i, i < len → ∃ z : Option Addr × Nat × List α, E i = [.slice z.1 z.2.2.length z.2.1] ∧ z.2.2.length ≤ z.2.1 ∧ z.2.1 ≤ maxLen ∧ Q w z.1 z.2.2 ∧ R z.2.2 := fun i hi => by
    obtain ⟨B, c, xs, h1, h2, h3, h4, h5⟩ := hQ _ _ _ (hd i hi)
    exact ⟨(B, c, xs), h1, h2, h3, h4, h5⟩
  have : Inhabited (Option Addr × Nat × List α) := ⟨(none, 0, [])⟩
  obtain ⟨Z, hZ⟩ := choose_lt hv
  have hg : ∀ i, i < len → gg ((List.range len).map fun i => (Z i).2.2) i = (Z i).2.2 := fun i hi => by simp [gg, hi]
  refine ⟨A, cap, (List.range len).map fun i => (Z i).2.2, by simp [hcs], by simpa using hl, hm, ⟨fun i => (Z i).1, fun i => (Z i).2.1, ?_, fun i hi => ?_⟩, fun i hi => ?_⟩
  · rw [hC] at hs
    simp only [List.length_map, List.length_range]
    refine hs.congr fun i hi j hj => ?_
    obtain rfl : j = 0 := by omega
    rw [(hZ i hi).1, hg i hi]; rfl
  · have hi' : i < len := by simpa using hi
    rw [hg i hi']; exact ⟨(hZ i hi').2.2.2.1, (hZ i hi').2.1, (hZ i hi').2.2.1⟩
  · have hi' : i < len := by simpa using hi
    rw [hg i hi']; exact (hZ i hi').2.2.2.2

/-! ### whole arguments -/
variable {r : Reach} {b0 : Nat} {t e : TypeId} {v : Value} {d : DataW H} {p : List MemPlace}
theorem arg_int (ht : P.underlying t = some (.int .i64)) (hval : Value.okWide P w r b0 t v) (hd : DataW.Trod enc P w base spare held t v d p) : ∃ x : Int, v = .int .i64 x ∧ I64 x := by
  obtain ⟨n, e, _, _, hw⟩ := open_int ht hval hd
  exact ⟨n, e, hw⟩
theorem arg_bool (ht : P.underlying t = some .bool) (hval : Value.okWide P w r b0 t v) (hd : DataW.Trod enc P w base spare held t v d p) : ∃ x : Bool, v = .bool x := by
  obtain ⟨n, e, _, _⟩ := open_bool ht hval hd
  exact ⟨n, e⟩
theorem arg_string (ht : P.underlying t = some .string) (hval : Value.okWide P w r b0 t v) (hd : DataW.Trod enc P w base spare held t v d p) : ∃ s : ByteArray, v = .string s ∧ s.size ≤ maxLen := by
  obtain ⟨n, e, _, _, hw⟩ := Go.ChangeMaps.open_string ht hval hd
  exact ⟨n, e, hw⟩
theorem slice_whole {A : Option Addr} {n c : Nat} (ht : P.underlying t = some (.slice e)) (hval : Value.okWide P w r b0 t v) (h : v.cells.toList = [.slice A n c]) : v = .slice A n c := by
  obtain ⟨a, len, cap, rfl⟩ := okWide_slice ht hval
  simpa [Value.cells] using h
theorem arg_Ints (ht : P.underlying t = some (.slice e)) (he : P.underlying e = some (.int .i64)) (hC : P.cellsOf e = 1) (hval : Value.okWide P w r b0 t v) (hd : DataW.Trod enc P w base spare held t v d p) :
    ∃ (A : Option Addr) (cap : Nat) (xs : List Int), v = .slice A xs.length cap ∧ xs.length ≤ cap ∧ cap ≤ maxLen ∧ Ints w A xs ∧ ∀ i, i < xs.length → I64 (gi xs i) := by
  obtain ⟨fuel, hf⟩ := hd
  obtain ⟨A, cap, xs, h1, h2⟩ := open_Ints ht he hC hf
  exact ⟨A, cap, xs, slice_whole ht hval h1, h2⟩
theorem arg_Strs (ht : P.underlying t = some (.slice e)) (he : P.underlying e = some .string) (hC : P.cellsOf e = 1) (hval : Value.okWide P w r b0 t v) (hd : DataW.Trod enc P w base spare held t v d p) :
    ∃ (A : Option Addr) (cap : Nat) (ss : List ByteArray), v = .slice A ss.length cap ∧ ss.length ≤ cap ∧ cap ≤ maxLen ∧ Strs w A ss ∧ ∀ i, i < ss.length → (gs ss i).size ≤ maxLen := by
  obtain ⟨fuel, hf⟩ := hd
  obtain ⟨A, cap, xs, h1, h2⟩ := open_Strs ht he hC hf
  exact ⟨A, cap, xs, slice_whole ht hval h1, h2⟩
theorem arg_Shares {f0 f1 : Field} (ht : P.underlying t = some (.slice e)) (he : P.underlying e = some (.struct #[f0, f1])) (hone : oneCellFields P #[f0, f1] = true) (hC : P.cellsOf e = 2)
    (h0 : P.underlying f0.type = some (.int .i64)) (h1 : P.underlying f1.type = some (.int .i64)) (hval : Value.okWide P w r b0 t v) (hd : DataW.Trod enc P w base spare held t v d p) :
    ∃ (A : Option Addr) (cap : Nat) (l : List Sh), v = .slice A l.length cap ∧ l.length ≤ cap ∧ cap ≤ maxLen ∧ Shares w A l ∧ ∀ i, i < l.length → I64 (ga l i) ∧ I64 (gb l i) := by
  obtain ⟨fuel, hf⟩ := hd
  obtain ⟨A, cap, xs, k1, k2⟩ := open_Shares ht he hone hC h0 h1 hf
  exact ⟨A, cap, xs, slice_whole ht hval k1, k2⟩
theorem arg_Many {α : Type} {Q : World → Option Addr → List α → Prop} {R : List α → Prop} (ht : P.underlying t = some (.slice e)) (hC : P.cellsOf e = 1)
    (hQ : ∀ (n : Nat) (cs : List Value) (y : DataW H × List MemPlace), DataW.trod enc P w base spare held n e cs = some y → ∃ (A : Option Addr) (cap : Nat) (xs : List α), cs = [.slice A xs.length cap] ∧ xs.length ≤ cap ∧ cap ≤ maxLen ∧ Q w A xs ∧ R xs)
    (hval : Value.okWide P w r b0 t v) (hd : DataW.Trod enc P w base spare held t v d p) :
    ∃ (A : Option Addr) (cap : Nat) (l : List (List α)), v = .slice A l.length cap ∧ l.length ≤ cap ∧ cap ≤ maxLen ∧ Many Q w A l ∧ ∀ i, i < l.length → R (gg l i) := by
  obtain ⟨fuel, hf⟩ := hd
  obtain ⟨A, cap, xs, k1, k2⟩ := open_Many ht hC hQ hf
  exact ⟨A, cap, xs, slice_whole ht hval k1, k2⟩
end
end Go.Proofs.YtfelefkmbbfdjaaGreatDoor
