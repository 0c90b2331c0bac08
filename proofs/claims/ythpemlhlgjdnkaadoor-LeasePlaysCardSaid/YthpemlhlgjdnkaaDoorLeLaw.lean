/- LeasePlays: leases beside the law's own slices. -/
import Derived.Test.YthpemlhlgjdnkaaDoorLeEnd
import Derived.Test.YthpemlhlgjdnkaaDoorQueLaw
import Derived.Test.YthpemlhlgjdnkaaDoorSpKeep
import Derived.Test.YthpemlhlgjdnkaaDoorIntOwn
import Derived.Test.YthpemlhlgjdnkaaDoorDoor
namespace Go.Proofs.YthpemlhlgjdnkaaDoor
open Go.ChangeShapes Go.WideShapes Go.ChangeAt Go.RowKit
set_option linter.unusedVariables false

/-- a slice of ints of the law's, anywhere in a block of its own -/
def WI (w : World) (base : Nat) (A : Option Addr) (c : Nat) (l : List Int) : Prop := Win w base 3 1 (.slice A l.length c) l.length (l.map (Value.int .i64))
section
variable {w w' : World} {base c : Nat} {A : Option Addr} {l : List Int}
theorem WI.nil : WI w base none 0 [] := Win.nil
theorem WI.keep (h : WI w base A c l) (hb : Below w.heap.size w w') : WI w' base A c l := Win.keep h hb
theorem WI.chs (h : WI w base A c l) {M : Nat → Prop} (k : Chs M w w') (hM : ∀ b, M b → (Value.slice A l.length c).ownBlock ≠ some b) : WI w' base A c l :=
  Win.stay h fun g hg => k.block g (h.block hg).2.lt fun hm => hM g hm hg
theorem WI.at_ (h : WI w base A c l) {i : Nat} (hi : i < l.length) : ∃ b off, A = some ⟨b, off, none⟩ ∧ b < w.heap.size ∧ w.cell? ⟨b, off + i, none⟩ = some (.int .i64 (gi l i)) := by
  obtain ⟨g, off, c', hv, hn, hx⟩ := Win.at_ h (by omega)
  injection hv with hv
  refine ⟨g, off, hv, (h.block (g := g) (by rw [hv]; rfl)).2.lt, hx i _ ?_⟩
  simp [gi, List.getD_eq_getElem?_getD, List.getElem?_eq_getElem hi]
theorem WI.mono {base' : Nat} (h : WI w base A c l) (hb : base' ≤ base) : WI w base' A c l := by
  refine ⟨h.1, ?_⟩
  rcases h.2 with h2 | ⟨g, off, c', h1, h2, h3⟩
  · exact .inl h2
  · exact .inr ⟨g, off, c', h1, by omega, h3⟩
theorem WI.set (h : WI w base A c l) {b off j : Nat} (hA : A = some ⟨b, off, none⟩) (hj : j < l.length) (u : Int) : WI (w.setCell ⟨b, off + j, none⟩ (.int .i64 u)) base A c (l.set j u) := by
  have := Win.setc h hA (j := j) (by rw [List.length_map]; exact hj) (.int .i64 u)
  unfold WI
  rw [List.length_set, List.map_set]
  exact this
end
theorem infoI : (Tryd.prog.info? 3).map (fun i => (i.zero, i.size, i.bytes)) = some (some (.int .i64 0), 1, 8) := by kernel_rfl
/-- append of an int -/
theorem wpList_append_wi {w : World} {ops : Array Oper} {rest : List Oper} {o : Oper} {a : Act} {Q : Exit → Act → World → Prop} (hgd : o.guard = none) (s x : Operand)
    (ho : o.op = .call { callee := .builtin .append, args := #[s, x], argTypes := #[42, 42] }) (base : Nat) (A : Option Addr) (c : Nat) (l : List Int) (hs : a.eval s = .slice A l.length c) (hown : WI w base A c l)
    (g : Nat) (n : Int) (hx : a.eval x = .slice (some ⟨g, 0, none⟩) 1 1) (h0 : w.cell? ⟨g, 0, none⟩ = some (.int .i64 n)) (hn : l.length ≤ 1000000) (hbase : base ≤ w.heap.size)
    (h : ∀ b off c' w', WI w' base (some ⟨b, off, none⟩) c' (l ++ [n]) → w.grownBy w' (Value.slice A l.length c).ownBlock → ((Value.slice A l.length c).ownBlock = some b ∨ w.heap.size ≤ b) → wpList Tryd.prog ops Q rest (a.put o.dst (.slice (some ⟨b, off, none⟩) (l.length + 1) c')) w') : wpList Tryd.prog ops Q (o :: rest) a w := by
  refine wpList_append_win hgd s x _ ho base 3 _ 1 8 Tryd.underlying42 infoI rfl (by decide) (.slice A l.length c) l.length _ hs hown g [.int .i64 n] hx rfl ?_ (by simp [Value.oneCell']) hn (by decide) hbase ?_
  · intro j u hj
    match j, hj with
    | 0, hj => simp at hj; subst hj; exact h0
  · intro b off c' w' h2 h3 h4
    refine h b off c' w' ?_ h3 h4
    unfold WI; rw [List.length_append, List.map_append]; exact h2

/-- leases, and the law's own slices: numbers I, times U, tuples P -/
structure LJ (w0 w : World) (p : Nat) (g : Option Nat) (T last : Int) (L : List On) (Ai : Option Addr) (ci : Nat) (I : List Int) (Au : Option Addr) (cu : Nat) (U : List Int) (Aa : Option Addr) (ca : Nat) (P : List (List Va)) : Prop where
  h0 : HG w0
  les : Les w w0.heap.size p g T last L
  b : Below w0.heap.size w0 w
  ids : WI w w0.heap.size Ai ci I
  uns : WI w w0.heap.size Au cu U
  all : OMany Vals 29 28 w w0.heap.size Aa ca P
  dis : ∀ b, (Value.slice Ai I.length ci).ownBlock = some b → (Value.slice Au U.length cu).ownBlock ≠ some b
section
variable {w0 w w' : World} {p : Nat} {g g' : Option Nat} {T last T' last' : Int} {L L' : List On} {Ai Au Aa : Option Addr} {ci cu ca : Nat} {I U : List Int} {P : List (List Va)}
theorem LJ.d (j : LJ w0 w p g T last L Ai ci I Au cu U Aa ca P) : HG w := j.h0.below j.b
theorem LJ.keep (j : LJ w0 w p g T last L Ai ci I Au cu U Aa ca P) (hb : Below w.heap.size w w') : LJ w0 w' p g T last L Ai ci I Au cu U Aa ca P :=
  ⟨j.h0, j.les.keep hb, bcl j.b hb, j.ids.keep hb, j.uns.keep hb, j.all.keep vals_stay j.les.hb hb, j.dis⟩
/-- the leases change -/
theorem LJ.step (j : LJ w0 w p g T last L Ai ci I Au cu U Aa ca P) (k : Chs (LM p g) w w') (h : Les w' w0.heap.size p g' T' last' L') : LJ w0 w' p g' T' last' L' Ai ci I Au cu U Aa ca P := by
  have hk : ∀ b, LM p g b → kin w b 113 ∨ kin w b 115 := fun b hb => by
    rcases hb with rfl | hb
    · exact .inl j.les.pkin
    · exact .inr (j.les.gkin hb).2
  have hi : ∀ (A : Option Addr) (c : Nat) (l : List Int), WI w w0.heap.size A c l → ∀ b, LM p g b → (Value.slice A l.length c).ownBlock ≠ some b := fun A c l hw b hb e => by
    rcases hk b hb with h | h
    · exact absurd (kin.ne h (hw.block e).2) (by decide)
    · exact absurd (kin.ne h (hw.block e).2) (by decide)
  refine ⟨j.h0, h, j.b.trans (j.les.below k), j.ids.chs k (hi _ _ _ j.ids), j.uns.chs k (hi _ _ _ j.uns), j.all.far j.les.hb k fun b hb => ⟨j.les.own b hb, fun h => ?_, fun e => ?_⟩, j.dis⟩
  · rcases hk b hb with h2 | h2
    · exact absurd (kin.ne h h2) (by decide)
    · exact absurd (kin.ne h h2) (by decide)
  · rcases hk b hb with h2 | h2
    · exact absurd (kin.ne h2 (j.all.gkin e).2) (by decide)
    · exact absurd (kin.ne h2 (j.all.gkin e).2) (by decide)
/-- a block of ints or of slices is not of the leases' -/
theorem LJ.farI (j : LJ w0 w p g T last L Ai ci I Au cu U Aa ca P) {e : TypeId} (he : e = 3 ∨ e = 29) {b : Nat} (hb : w0.heap.size ≤ b) (hk : kin w b e) : w0.heap.size ≤ b ∧ ¬ kin w b 28 ∧ ¬ LM p g b := by
  refine ⟨hb, fun h => ?_, fun h => ?_⟩
  · have := kin.ne hk h
    rcases he with rfl | rfl <;> exact absurd this (by decide)
  · rcases h with rfl | h
    · have := kin.ne hk j.les.pkin
      rcases he with rfl | rfl <;> exact absurd this (by decide)
    · have := kin.ne hk (j.les.gkin h).2
      rcases he with rfl | rfl <;> exact absurd this (by decide)
theorem LJ.setU (j : LJ w0 w p g T last L Ai ci I Au cu U Aa ca P) {b off k : Nat} (hA : Au = some ⟨b, off, none⟩) (hk : k < U.length) (u : Int) : LJ w0 (w.setCell ⟨b, off + k, none⟩ (.int .i64 u)) p g T last L Ai ci I Au cu (U.set k u) Aa ca P := by
  have hc := Chs.set w ⟨b, off + k, none⟩ (.int .i64 u)
  have hbk := j.uns.block (g := b) (by rw [hA]; rfl)
  have hou : (Value.slice Au U.length cu).ownBlock = some b := by rw [hA]; rfl
  refine ⟨j.h0, j.les.far hc fun x hx => ?_, j.b.trans (hc.below (fun x hx => ?_) j.les.hb), j.ids.chs hc fun x hx e => ?_, j.uns.set hA hk u, j.all.far j.les.hb hc fun x hx => ?_, fun x hx => ?_⟩
  · have hx : x = b := hx
    subst hx; exact j.farI (.inl rfl) hbk.1 hbk.2
  · have hx : x = b := hx
    subst hx; exact hbk.1
  · have hx : x = b := hx
    subst hx; exact j.dis _ e hou
  · have hx : x = b := hx
    subst hx; exact ⟨hbk.1, (j.farI (.inl rfl) hbk.1 hbk.2).2.1, fun e => absurd (kin.ne hbk.2 (j.all.gkin e).2) (by decide)⟩
  · rw [List.length_set]; exact j.dis x hx
theorem LJ.appI (j : LJ w0 w p g T last L Ai ci I Au cu U Aa ca P) {b off c' : Nat} {n : Int} (h : WI w' w0.heap.size (some ⟨b, off, none⟩) c' (I ++ [n])) (hg : w.grownBy w' (Value.slice Ai I.length ci).ownBlock) (hx : (Value.slice Ai I.length ci).ownBlock = some b ∨ w.heap.size ≤ b) :
    LJ w0 w' p g T last L (some ⟨b, off, none⟩) c' (I ++ [n]) Au cu U Aa ca P := by
  have hc := Chs.grown hg
  refine ⟨j.h0, j.les.far hc fun x hx => j.farI (.inl rfl) (j.ids.block hx).1 (j.ids.block hx).2, j.b.trans (hc.below (fun x hx => (j.ids.block hx).1) j.les.hb), h, j.uns.chs hc fun x hx => j.dis x hx, j.all.far j.les.hb hc fun x hx => ⟨(j.ids.block hx).1, (j.farI (.inl rfl) (j.ids.block hx).1 (j.ids.block hx).2).2.1, fun e => absurd (kin.ne (j.ids.block hx).2 (j.all.gkin e).2) (by decide)⟩, fun x hx2 e => ?_⟩
  have hbx : b = x := by simpa [Value.ownBlock] using hx2
  subst hbx
  rcases hx with h | h
  · exact j.dis b h e
  · have := (j.uns.block e).2.lt; omega
theorem LJ.appU (j : LJ w0 w p g T last L Ai ci I Au cu U Aa ca P) {b off c' : Nat} {n : Int} (h : WI w' w0.heap.size (some ⟨b, off, none⟩) c' (U ++ [n])) (hg : w.grownBy w' (Value.slice Au U.length cu).ownBlock) (hx : (Value.slice Au U.length cu).ownBlock = some b ∨ w.heap.size ≤ b) :
    LJ w0 w' p g T last L Ai ci I (some ⟨b, off, none⟩) c' (U ++ [n]) Aa ca P := by
  have hc := Chs.grown hg
  refine ⟨j.h0, j.les.far hc fun x hx => j.farI (.inl rfl) (j.uns.block hx).1 (j.uns.block hx).2, j.b.trans (hc.below (fun x hx => (j.uns.block hx).1) j.les.hb), j.ids.chs hc fun x hx e => j.dis x e hx, h, j.all.far j.les.hb hc fun x hx => ⟨(j.uns.block hx).1, (j.farI (.inl rfl) (j.uns.block hx).1 (j.uns.block hx).2).2.1, fun e => absurd (kin.ne (j.uns.block hx).2 (j.all.gkin e).2) (by decide)⟩, fun x e hx2 => ?_⟩
  have hbx : b = x := by simpa [Value.ownBlock] using hx2
  subst hbx
  rcases hx with h | h
  · exact j.dis b e h
  · have := (j.ids.block e).2.lt; omega
theorem LJ.appP (j : LJ w0 w p g T last L Ai ci I Au cu U Aa ca P) {b c' : Nat} {t : List Va} (h : OMany Vals 29 28 w' w0.heap.size (some ⟨b, 0, none⟩) c' (P ++ [t])) (hg : w.grownBy w' (Value.slice Aa P.length ca).ownBlock) :
    LJ w0 w' p g T last L Ai ci I Au cu U (some ⟨b, 0, none⟩) c' (P ++ [t]) := by
  have hc := Chs.grown hg
  refine ⟨j.h0, j.les.far hc fun x hx => j.farI (.inr rfl) (j.all.gkin hx).1 (j.all.gkin hx).2, j.b.trans (hc.below (fun x hx => (j.all.gkin hx).1) j.les.hb), j.ids.chs hc fun x hx e => absurd (kin.ne (j.ids.block e).2 (j.all.gkin hx).2) (by decide), j.uns.chs hc fun x hx e => absurd (kin.ne (j.uns.block e).2 (j.all.gkin hx).2) (by decide), h, j.dis⟩
end
end Go.Proofs.YthpemlhlgjdnkaaDoor
