/- LeasePlays: the slices that Now's part makes anew, beside the leases. -/
import Derived.Test.YthpemlhlgjdnkaaDoorLePure
namespace Go.Proofs.YthpemlhlgjdnkaaDoor
open Go.ChangeShapes Go.WideShapes Go.ChangeAt Go.RowKit
set_option linter.unusedVariables false

/-- three slices made since the world W: numbers, times, tuples -/
structure N3 (w0 W w : World) (Ai : Option Addr) (ci : Nat) (I : List Int) (Au : Option Addr) (cu : Nat) (U : List Int) (Aa : Option Addr) (ca : Nat) (P : List (List Va)) : Prop where
  b : Below W.heap.size W w
  ids : WI w w0.heap.size Ai ci I
  uns : WI w w0.heap.size Au cu U
  all : OMany Vals 29 28 w w0.heap.size Aa ca P
  dis : ∀ b, (Value.slice Ai I.length ci).ownBlock = some b → (Value.slice Au U.length cu).ownBlock ≠ some b
  ni : ∀ b, (Value.slice Ai I.length ci).ownBlock = some b → W.heap.size ≤ b
  nu : ∀ b, (Value.slice Au U.length cu).ownBlock = some b → W.heap.size ≤ b
  na : ∀ b, (Value.slice Aa P.length ca).ownBlock = some b → W.heap.size ≤ b
section
variable {w0 W w w' : World} {p : Nat} {g : Option Nat} {T last : Int} {L : List On} {Ai Au Aa Bi Bu Ba : Option Addr} {ci cu ca di du da : Nat} {I U I' U' : List Int} {P P' : List (List Va)}
theorem N3.nil (w0 W : World) : N3 w0 W W none 0 [] none 0 [] none 0 [] :=
  ⟨Below.refl _ _, WI.nil, WI.nil, OMany.nil, fun b hb => by simp [Value.ownBlock] at hb, fun b hb => by simp [Value.ownBlock] at hb, fun b hb => by simp [Value.ownBlock] at hb, fun b hb => by simp [Value.ownBlock] at hb⟩
theorem N3.keep (n : N3 w0 W w Ai ci I Au cu U Aa ca P) (hW : w0.heap.size ≤ W.heap.size) (hb : Below w.heap.size w w') : N3 w0 W w' Ai ci I Au cu U Aa ca P :=
  ⟨bcl n.b hb, n.ids.keep hb, n.uns.keep hb, n.all.keep vals_stay (Nat.le_trans hW n.b.size) hb, n.dis, n.ni, n.nu, n.na⟩
theorem N3.appI (n : N3 w0 W w Ai ci I Au cu U Aa ca P) (hW : w0.heap.size ≤ W.heap.size) {b off c' : Nat} {x : Int} (h : WI w' w0.heap.size (some ⟨b, off, none⟩) c' (I ++ [x])) (hg : w.grownBy w' (Value.slice Ai I.length ci).ownBlock) (hx : (Value.slice Ai I.length ci).ownBlock = some b ∨ w.heap.size ≤ b) :
    N3 w0 W w' (some ⟨b, off, none⟩) c' (I ++ [x]) Au cu U Aa ca P := by
  have hc := Chs.grown hg
  have hz := n.b.size
  refine ⟨n.b.trans (hc.below (fun x hx => n.ni x hx) hz), h, n.uns.chs hc fun x hx => n.dis x hx, n.all.far (Nat.le_trans hW hz) hc fun x hx => ⟨(n.ids.block hx).1, fun h => absurd (kin.ne (n.ids.block hx).2 h) (by decide), fun e => absurd (kin.ne (n.ids.block hx).2 (n.all.gkin e).2) (by decide)⟩, fun x hx2 e => ?_, fun x hx2 => ?_, n.nu, n.na⟩
  · have hbx : b = x := by simpa [Value.ownBlock] using hx2
    subst hbx
    rcases hx with h | h
    · exact n.dis b h e
    · have := (n.uns.block e).2.lt; omega
  · have hbx : b = x := by simpa [Value.ownBlock] using hx2
    subst hbx
    rcases hx with h | h
    · exact n.ni b h
    · omega
theorem N3.appU (n : N3 w0 W w Ai ci I Au cu U Aa ca P) (hW : w0.heap.size ≤ W.heap.size) {b off c' : Nat} {x : Int} (h : WI w' w0.heap.size (some ⟨b, off, none⟩) c' (U ++ [x])) (hg : w.grownBy w' (Value.slice Au U.length cu).ownBlock) (hx : (Value.slice Au U.length cu).ownBlock = some b ∨ w.heap.size ≤ b) :
    N3 w0 W w' Ai ci I (some ⟨b, off, none⟩) c' (U ++ [x]) Aa ca P := by
  have hc := Chs.grown hg
  have hz := n.b.size
  refine ⟨n.b.trans (hc.below (fun x hx => n.nu x hx) hz), n.ids.chs hc fun x hx e => n.dis x e hx, h, n.all.far (Nat.le_trans hW hz) hc fun x hx => ⟨(n.uns.block hx).1, fun h => absurd (kin.ne (n.uns.block hx).2 h) (by decide), fun e => absurd (kin.ne (n.uns.block hx).2 (n.all.gkin e).2) (by decide)⟩, fun x e hx2 => ?_, n.ni, fun x hx2 => ?_, n.na⟩
  · have hbx : b = x := by simpa [Value.ownBlock] using hx2
    subst hbx
    rcases hx with h | h
    · exact n.dis b e h
    · have := (n.ids.block e).2.lt; omega
  · have hbx : b = x := by simpa [Value.ownBlock] using hx2
    subst hbx
    rcases hx with h | h
    · exact n.nu b h
    · omega
theorem N3.appP (n : N3 w0 W w Ai ci I Au cu U Aa ca P) (hW : w0.heap.size ≤ W.heap.size) {b c' : Nat} {t : List Va} (h : OMany Vals 29 28 w' w0.heap.size (some ⟨b, 0, none⟩) c' (P ++ [t])) (hg : w.grownBy w' (Value.slice Aa P.length ca).ownBlock) (hx : (Value.slice Aa P.length ca).ownBlock = some b ∨ b = w.heap.size) :
    N3 w0 W w' Ai ci I Au cu U (some ⟨b, 0, none⟩) c' (P ++ [t]) := by
  have hc := Chs.grown hg
  have hz := n.b.size
  refine ⟨n.b.trans (hc.below (fun x hx => n.na x hx) hz), n.ids.chs hc fun x hx e => absurd (kin.ne (n.ids.block e).2 (n.all.gkin hx).2) (by decide), n.uns.chs hc fun x hx e => absurd (kin.ne (n.uns.block e).2 (n.all.gkin hx).2) (by decide), h, n.dis, n.ni, n.nu, fun x hx2 => ?_⟩
  have hbx : b = x := by simpa [Value.ownBlock] using hx2
  subst hbx
  rcases hx with h | h
  · exact n.na b h
  · omega
/-- the new ones take the old ones' place -/
theorem LJ.anew (j : LJ w0 W p g T last L Bi di I' Bu du U' Ba da P') (n : N3 w0 W w Ai ci I Au cu U Aa ca P) : LJ w0 w p g T last L Ai ci I Au cu U Aa ca P :=
  ⟨j.h0, j.les.keep n.b, bcl j.b n.b, n.ids, n.uns, n.all, n.dis⟩
/-- and the old ones are there beside them -/
theorem LJ.old (j : LJ w0 W p g T last L Bi di I' Bu du U' Ba da P') (n : N3 w0 W w Ai ci I Au cu U Aa ca P) : LJ w0 w p g T last L Bi di I' Bu du U' Ba da P' := j.keep n.b
/-- the calls -/
theorem LJ.vals (j : LJ w0 w p g T last L Ai ci I Au cu U Aa ca P) {A : Option Addr} {t : List Va} (hA : Vals w0 A t) : Vals w A t := hA.below j.b (Nat.le_refl _)
theorem lj_renew (j : LJ w0 w p g T last L Ai ci I Au cu U Aa ca P) (id u : Int) :
    Calls Tryd.prog 46 #[.pointer (some ⟨p, 0, none⟩), .int .i64 id, .int .i64 u] w fun e w' => e = .returned (eV (lrE T L id u)) ∧ LJ w0 w' p g T last (lrL T L id u) Ai ci I Au cu U Aa ca P :=
  (lrenew_any w0.heap.size p g T last id u L w j.les).mono fun e w' ⟨h1, h2, h3⟩ => ⟨h1, j.step h3 h2⟩
theorem lj_now (j : LJ w0 w p g T last L Ai ci I Au cu U Aa ca P) (u : Int) :
    Calls Tryd.prog 43 #[.pointer (some ⟨p, 0, none⟩), .int .i64 u] w fun e w' => e = .returned (.tuple #[.int .i64 (if nowE T u = 0 then ((L.length : Int) - (L.filter fun x => !decide (x.un ≤ u)).length) else 0), eV (nowE T u)]) ∧
      LJ w0 w' p g (if nowE T u = 0 then u else T) last (if nowE T u = 0 then L.filter fun x => !decide (x.un ≤ u) else L) Ai ci I Au cu U Aa ca P :=
  (lnow_any w0.heap.size p g T last u L w j.les).mono fun e w' ⟨h1, h2, h3⟩ => ⟨h1, j.step h3 h2⟩
theorem lj_read (j : LJ w0 w p g T last L Ai ci I Au cu U Aa ca P) (A' : Option Addr) (c' : Nat) (a : List Va) (hm : a.length ≤ maxLen) (hok : okL a) (hA : Vals w0 A' a) :
    Calls Tryd.prog 47 #[.pointer (some ⟨p, 0, none⟩), .slice A' a.length c'] w fun e w' => ∃ A2 c2, e = .returned (.tuple #[.slice A2 (lreV a L).length c2, eV (lreE a L)]) ∧ Vals w' A2 (lreV a L) ∧ Below w.heap.size w w' ∧ LJ w0 w' p g T last L Ai ci I Au cu U Aa ca P :=
  (lread_any w0.heap.size p g T last L A' c' a hm hok w j.les (j.vals hA)).mono fun e w' ⟨A2, c2, h1, h2, h3⟩ => ⟨A2, c2, h1, h2.vals, h3, j.keep h3⟩
theorem lj_put (j : LJ w0 w p g T last L Ai ci I Au cu U Aa ca P) (A' : Option Addr) (c' : Nat) (t : List Va) (u : Int) (hm : t.length ≤ maxLen) (hok : okL t) (hu : I64 u) (hA : Vals w0 A' t) :
    Calls Tryd.prog 42 #[.pointer (some ⟨p, 0, none⟩), .slice A' t.length c', .int .i64 u] w fun e w' => e = .returned (.tuple #[.int .i64 (if lpE T last L u t = 0 then last + 1 else 0), eV (lpE T last L u t)]) ∧
      ∃ g', LJ w0 w' p g' T (if lpE T last L u t = 0 then last + 1 else last) (if lpE T last L u t = 0 then L ++ [⟨last + 1, u, t⟩] else L) Ai ci I Au cu U Aa ca P := by
  have hv := (Vin.of_arg hA (Nat.le_refl _)).below j.b (Nat.le_refl _) (Nat.le_refl _)
  exact (lput_any w0.heap.size p g T last u L A' c' t hm hok hu w j.les hv.1 hv.2).mono fun e w' ⟨h1, g', h2, h3, _⟩ => ⟨h1, g', j.step h3 h2⟩
theorem lj_count (j : LJ w0 w p g T last L Ai ci I Au cu U Aa ca P) :
    Calls Tryd.prog 44 #[.pointer (some ⟨p, 0, none⟩)] w fun e w' => e = .returned (.int .i64 L.length) ∧ w = w' := lcount_any w0.heap.size p g T last L w j.les
end
theorem WI.frozen {w : World} {base c b off : Nat} {A : Option Addr} {l : List Int} (h : WI w base A c l) (hA : A = some ⟨b, off, none⟩) (i : Nat) : w.frozen? ⟨b, off + i, none⟩ = false := by
  have hk := (h.block (g := b) (by rw [hA]; rfl)).2
  obtain ⟨cur, hk⟩ := hk
  simp [World.frozen?, hk]
theorem Many.iat {w : World} {A : Option Addr} {L : List (List Int)} (h : Many Ints w A L) {i : Nat} (hi : i < L.length) :
    ∃ b off B C, A = some ⟨b, off, none⟩ ∧ b < w.heap.size ∧ w.cell? ⟨b, off + i, none⟩ = some (.slice B (gg L i).length C) ∧ Ints w B (gg L i) ∧ (gg L i).length ≤ C ∧ C ≤ maxLen := by
  obtain ⟨B, C, h1, h2⟩ := h
  obtain ⟨b, off, e, hb, hc⟩ := h1.at1 hi
  exact ⟨b, off, B i, C i, e, hb, hc, h2 i hi⟩
theorem wpList_append_wiM {w : World} {ops : Array Oper} {rest : List Oper} {o : Oper} {a : Act} {Q : Exit → Act → World → Prop} (hgd : o.guard = none) (s x : Operand)
    (ho : o.op = .call { callee := .builtin .append, args := #[s, x], argTypes := #[42, 42] }) (base : Nat) (A : Option Addr) (c : Nat) (l : List Int) (m : Nat) (hm : l.length = m) (hs : a.eval s = .slice A m c) (hown : WI w base A c l)
    (g : Nat) (n : Int) (hx : a.eval x = .slice (some ⟨g, 0, none⟩) 1 1) (h0 : w.cell? ⟨g, 0, none⟩ = some (.int .i64 n)) (hn : l.length ≤ 1000000) (hbase : base ≤ w.heap.size)
    (h : ∀ b off c' w', WI w' base (some ⟨b, off, none⟩) c' (l ++ [n]) → w.grownBy w' (Value.slice A l.length c).ownBlock → ((Value.slice A l.length c).ownBlock = some b ∨ w.heap.size ≤ b) → wpList Tryd.prog ops Q rest (a.put o.dst (.slice (some ⟨b, off, none⟩) (m + 1) c')) w') : wpList Tryd.prog ops Q (o :: rest) a w := by
  subst hm
  exact wpList_append_wi hgd s x ho base A c l hs hown g n hx h0 hn hbase h
theorem wpList_append_valsM {w : World} {ops : Array Oper} {rest : List Oper} {o : Oper} {a : Act} {Q : Exit → Act → World → Prop} (hgd : o.guard = none) (s x : Operand)
    (ho : o.op = .call { callee := .builtin .append, args := #[s, x], argTypes := #[47, 47] }) (base : Nat) (A : Option Addr) (c : Nat) (L : List (List Va)) (m : Nat) (hm : L.length = m) (hs : a.eval s = .slice A m c) (hown : OMany Vals 29 28 w base A c L)
    (g : Nat) (B : Option Addr) (l : List Va) (C : Nat) (hx : a.eval x = .slice (some ⟨g, 0, none⟩) 1 1) (h0 : w.cell? ⟨g, 0, none⟩ = some (.slice B l.length C)) (hq : Vals w B l) (hc1 : l.length ≤ C) (hc2 : C ≤ maxLen) (hI : Inn w base 28 B) (hn : L.length ≤ 1000000) (hbase : base ≤ w.heap.size)
    (h : ∀ b c' w', OMany Vals 29 28 w' base (some ⟨b, 0, none⟩) c' (L ++ [l]) → w.grownBy w' (Value.slice A L.length c).ownBlock → ((Value.slice A L.length c).ownBlock = some b ∨ b = w.heap.size) → wpList Tryd.prog ops Q rest (a.put o.dst (.slice (some ⟨b, 0, none⟩) (m + 1) c')) w') : wpList Tryd.prog ops Q (o :: rest) a w := by
  subst hm
  exact wpList_append_many_at vals_stay hgd s x 47 29 28 ho Tryd.underlying47 infoVals (by decide) base A c L hs hown g B l C hx h0 hq hc1 hc2 hI hn hbase h
end Go.Proofs.YthpemlhlgjdnkaaDoor
