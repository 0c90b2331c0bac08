/- VaultPlays' own data beside the vault: names, shares of each, commits of each. -/
import Derived.Test.YtamndgeeibfmhaaDoorVaultGet
import Derived.Test.YtamndgeeibfmhaaDoorAppMany
import Derived.Test.YtamndgeeibfmhaaDoorSeal
import Derived.Test.YtamndgeeibfmhaaDoorDoor
namespace Go.Proofs.YtamndgeeibfmhaaDoor
open Go.RowKit Go.ChangeShapes Go.WideShapes Go.Deep Go.Maps Go.WideMaps
set_option linter.unusedVariables false

theorem own_stayV {w w' : World} {base : Nat} {t : TypeId} {k n : Nat} {v : Value} {xs : List Value} (h : w.ownsRow base t k v n xs) (hs : ∀ g, v.ownBlock = some g → w'.heap[g]? = w.heap[g]?) : w'.ownsRow base t k v n xs := by
  refine ⟨h.1, ?_⟩
  rcases h.2 with h2 | ⟨g, cap, cur, h3, h4, h5, h6⟩
  · exact .inl h2
  · exact .inr ⟨g, cap, cur, h3, h4, (hs g (by rw [h3]; rfl)).trans h5, h6⟩
theorem OMany.gkinV {α : Type} {Q : World → Option Addr → List α → Prop} {t e : TypeId} {w : World} {base c : Nat} {A : Option Addr} {L : List (List α)} (h : OMany Q t e w base A c L) {g : Nat} (hg : (Value.slice A L.length c).ownBlock = some g) : base ≤ g ∧ kin w g t := by
  obtain ⟨vs, h1, _⟩ := h
  exact own_block_of h1 hg
theorem OMany.chsV {α : Type} {Q : World → Option Addr → List α → Prop} {t e : TypeId} {w w' : World} {base c : Nat} {A : Option Addr} {L : List (List α)} {M : Nat → Prop} (hQ : QStay Q) (h : OMany Q t e w base A c L) (hb : base ≤ w.heap.size) (k : Chs M w w') (hM : ∀ b, M b → base ≤ b ∧ ¬ kin w b t ∧ ¬ kin w b e) : OMany Q t e w' base A c L := by
  have hown := fun g hg => h.gkinV (g := g) hg
  obtain ⟨vs, h1, h2⟩ := h
  refine ⟨vs, own_stayV h1 fun g hg => k.block g (hown g hg).2.lt fun hm => (hM g hm).2.1 (hown g hg).2, fun i hi => ?_⟩
  obtain ⟨B, C, e1, q, k1, k2, k3⟩ := h2 i hi
  have hst : ∀ a, B = some a → w'.heap[a.block]? = w.heap[a.block]? := fun a ha => k.block _ (k3.lt hb ha) fun hm => by
    obtain ⟨m1, _, m2⟩ := hM _ hm
    rcases k3 a ha with h | h
    · omega
    · exact m2 h
  exact ⟨B, C, e1, hQ _ _ _ _ k.size hst q, k1, k2, k3.stay hst⟩
/-- texts that the law keeps -/
def OStrs (w : World) (base : Nat) (A : Option Addr) (c : Nat) (l : List ByteArray) : Prop := w.ownsRow base 9 1 (.slice A l.length c) l.length (l.map Value.string)
theorem infoStr : (Tryd.prog.info? 9).map (fun i => (i.zero, i.size, i.bytes)) = some (some (.string ⟨#[]⟩), 1, 16) := by kernel_rfl
theorem OStrs.nil {w : World} {base : Nat} : OStrs w base none 0 [] := ⟨rfl, .inl ⟨rfl, rfl⟩⟩
theorem OStrs.strs {w : World} {base c : Nat} {A : Option Addr} {l : List ByteArray} (h : OStrs w base A c l) : Strs w A l := Sl.of_own h fun i hi j hj => by
  obtain rfl : j = 0 := by omega
  simp [gs, hi]
theorem wpList_append_strG {w : World} {ops : Array Oper} {rest : List Oper} {o : Oper} {a : Act} {Q : Exit → Act → World → Prop} (hgd : o.guard = none) (s x : Operand)
    (ho : o.op = .call { callee := .builtin .append, args := #[s, x], argTypes := #[50, 50] }) (base : Nat) (A : Option Addr) (c : Nat) (l : List ByteArray) (hs : a.eval s = .slice A l.length c) (hown : OStrs w base A c l)
    (g : Nat) (p : ByteArray) (hx : a.eval x = .slice (some ⟨g, 0, none⟩) 1 1) (h0 : w.cell? ⟨g, 0, none⟩ = some (.string p)) (hn : l.length ≤ 1000000) (hbase : base ≤ w.heap.size)
    (h : ∀ A' c' w', OStrs w' base A' c' (l ++ [p]) → w.grownBy w' (Value.slice A l.length c).ownBlock → wpList Tryd.prog ops Q rest (a.put o.dst (.slice A' (l.length + 1) c')) w') : wpList Tryd.prog ops Q (o :: rest) a w := by
  refine wpList_append_one hgd s x _ ho base 9 _ 1 16 Tryd.underlying50 infoStr rfl (by decide) (by decide) A c l.length _ hs hown g [.string p] hx rfl ?_ (by simp [Value.oneCell']) hn hbase ?_
  · intro j u hj
    match j, hj with
    | 0, hj => simp at hj; subst hj; exact h0
  · intro A' c' w' h2 h3
    refine h A' c' w' ?_ h3
    unfold OStrs; rw [List.length_append, List.map_append]; exact h2
theorem wpList_app_manyG {α : Type} {Q' : World → Option Addr → List α → Prop} (hQ : QStay Q') {w : World} {ops : Array Oper} {rest : List Oper} {o : Oper} {a : Act} {Q : Exit → Act → World → Prop} (hgd : o.guard = none) (s x : Operand) (tt t e : TypeId)
    (ho : o.op = .call { callee := .builtin .append, args := #[s, x], argTypes := #[tt, tt] }) (ht : Tryd.prog.underlying tt = some (.slice t)) (hi : (Tryd.prog.info? t).map (fun i => (i.zero, i.size, i.bytes)) = some (some (.slice none 0 0), 1, 24)) (hte : t ≠ e)
    (base : Nat) (A : Option Addr) (c : Nat) (L : List (List α)) (m : Nat) (hm : L.length = m) (hs : a.eval s = .slice A m c) (hown : OMany Q' t e w base A c L)
    (g : Nat) (B : Option Addr) (l : List α) (C : Nat) (k : Nat) (hk : l.length = k) (hx : a.eval x = .slice (some ⟨g, 0, none⟩) 1 1) (h0 : w.cell? ⟨g, 0, none⟩ = some (.slice B k C)) (hq : Q' w B l) (hc1 : l.length ≤ C) (hc2 : C ≤ maxLen) (hI : Inn w base e B) (hn : L.length ≤ 1000000) (hbase : base ≤ w.heap.size)
    (h : ∀ A' c' w', OMany Q' t e w' base A' c' (L ++ [l]) → w.grownBy w' (Value.slice A L.length c).ownBlock → wpList Tryd.prog ops Q rest (a.put o.dst (.slice A' (m + 1) c')) w') : wpList Tryd.prog ops Q (o :: rest) a w := by
  subst hm hk
  exact wpList_plain hgd fun K hK => by
    have := step_app_many (ops := ops) (K := K) (Q := Q) (E := True) hQ hgd s x tt t e ho ht hi hte base A c L hs hown g B l C hx h0 hq hc1 hc2 hI hn hbase (fun b c' w' h1 h2 h3 _ => hK _ _ (h _ c' w' h1 h2))
    rwa [if_pos (by simp [Region.wanted, hgd])] at this
/-- the vault, and what the law keeps: the names N, of each its polynomial P -/
structure VP (w0 w : World) (p M n many need : Nat) (K : ByteArray → Option (List Int)) (A1 : Option Addr) (c1 : Nat) (N : List ByteArray) (A2 : Option Addr) (c2 : Nat) (P2 : List (List Int)) (A3 : Option Addr) (c3 : Nat) (P3 : List (List Int)) : Prop where
  h0 : HG w0
  b : Below w0.heap.size w0 w
  v : Vlt w w0.heap.size p M n many need K
  hs : OStrs w w0.heap.size A1 c1 N
  sh : OMany Shares 58 64 w w0.heap.size A2 c2 (P2.map fun q => dealL q many)
  cm : OMany Ints 51 3 w w0.heap.size A3 c3 (P3.map cmt)
section
variable {w0 w w' : World} {p M n n' many need : Nat} {K K' : ByteArray → Option (List Int)} {A1 A2 A3 : Option Addr} {c1 c2 c3 : Nat} {N : List ByteArray} {P2 P3 : List (List Int)}
theorem VP.hg (j : VP w0 w p M n many need K A1 c1 N A2 c2 P2 A3 c3 P3) : HG w := j.h0.below j.b
theorem VP.keep (j : VP w0 w p M n many need K A1 c1 N A2 c2 P2 A3 c3 P3) (hb : Below w.heap.size w w') : VP w0 w' p M n many need K A1 c1 N A2 c2 P2 A3 c3 P3 :=
  ⟨j.h0, bcl j.b hb, j.v.keep hb, own_keep j.hs hb, j.sh.keep shares_stay j.v.hb hb, j.cm.keep ints_stay j.v.hb hb⟩
/-- the vault's map has changed -/
theorem VP.vt (j : VP w0 w p M n many need K A1 c1 N A2 c2 P2 A3 c3 P3) (hv : Vlt w' w0.heap.size p M n' many need K') (k : Chs (fun b => b = M) w w') : VP w0 w' p M n' many need K' A1 c1 N A2 c2 P2 A3 c3 P3 := by
  have hM := j.v.isMap
  have hn : ∀ t b, b = M → ¬ kin w b t := fun t b hb h => by subst hb; exact not_kin_of_map hM h
  have hbs : ∀ b, b = M → w0.heap.size ≤ b := fun b hb => by rw [hb]; exact j.v.hM
  exact ⟨j.h0, j.b.trans (k.below hbs j.v.hb), hv, own_stayV j.hs fun g hg => k.block g (own_block_of j.hs hg).2.lt fun e => hn _ g e (own_block_of j.hs hg).2,
    j.sh.chsV shares_stay j.v.hb k fun b hb => ⟨hbs b hb, hn _ b hb, hn _ b hb⟩, j.cm.chsV ints_stay j.v.hb k fun b hb => ⟨hbs b hb, hn _ b hb, hn _ b hb⟩⟩
/-- a block of a kind t has changed, that is none of the vault's -/
theorem VP.vlt_chs (j : VP w0 w p M n many need K A1 c1 N A2 c2 P2 A3 c3 P3) {t : TypeId} {G : Nat → Prop} (hG : ∀ b, G b → w0.heap.size ≤ b ∧ kin w b t) (h1 : t ≠ 90) (h2 : t ≠ 64) (h3 : t ≠ 3) (k : Chs G w w') : Vlt w' w0.heap.size p M n many need K :=
  j.v.chs k fun b hb => ⟨(hG b hb).1, fun h => h2 (kin.ne (hG b hb).2 h), .inl fun h => h3 (kin.ne (hG b hb).2 h), fun e => h1 (kin.ne (hG b hb).2 (by rw [e]; exact j.v.there.kin)), fun e => not_kin_of_map j.v.isMap (by rw [← e]; exact (hG b hb).2)⟩
theorem VP.hs_ (j : VP w0 w p M n many need K A1 c1 N A2 c2 P2 A3 c3 P3) {A' : Option Addr} {c' : Nat} {N' : List ByteArray} (h : OStrs w' w0.heap.size A' c' N') (hg : w.grownBy w' (Value.slice A1 N.length c1).ownBlock) : VP w0 w' p M n many need K A' c' N' A2 c2 P2 A3 c3 P3 := by
  have k := Chs.grown hg
  have hG : ∀ b, (Value.slice A1 N.length c1).ownBlock = some b → w0.heap.size ≤ b ∧ kin w b 9 := fun b hb => own_block_of j.hs hb
  have hn : ∀ t b, t ≠ 9 → (Value.slice A1 N.length c1).ownBlock = some b → ¬ kin w b t := fun t b ht hb h => ht (kin.ne h (hG b hb).2)
  exact ⟨j.h0, j.b.trans (k.below (fun b hb => (hG b hb).1) j.v.hb), j.vlt_chs hG (by decide) (by decide) (by decide) k, h, j.sh.chsV shares_stay j.v.hb k fun b hb => ⟨(hG b hb).1, hn _ b (by decide) hb, hn _ b (by decide) hb⟩, j.cm.chsV ints_stay j.v.hb k fun b hb => ⟨(hG b hb).1, hn _ b (by decide) hb, hn _ b (by decide) hb⟩⟩
theorem VP.sh_ (j : VP w0 w p M n many need K A1 c1 N A2 c2 P2 A3 c3 P3) {A' : Option Addr} {c' : Nat} {P' : List (List Int)} (h : OMany Shares 58 64 w' w0.heap.size A' c' (P'.map fun q => dealL q many)) (hg : w.grownBy w' (Value.slice A2 (P2.map fun q => dealL q many).length c2).ownBlock) : VP w0 w' p M n many need K A1 c1 N A' c' P' A3 c3 P3 := by
  have k := Chs.grown hg
  have hG : ∀ b, (Value.slice A2 (P2.map fun q => dealL q many).length c2).ownBlock = some b → w0.heap.size ≤ b ∧ kin w b 58 := fun b hb => j.sh.gkinV hb
  have hn : ∀ t b, t ≠ 58 → (Value.slice A2 (P2.map fun q => dealL q many).length c2).ownBlock = some b → ¬ kin w b t := fun t b ht hb h => ht (kin.ne h (hG b hb).2)
  exact ⟨j.h0, j.b.trans (k.below (fun b hb => (hG b hb).1) j.v.hb), j.vlt_chs hG (by decide) (by decide) (by decide) k, own_stayV j.hs fun g hg => k.block g (own_block_of j.hs hg).2.lt fun e => hn _ g (by decide) e (own_block_of j.hs hg).2, h, j.cm.chsV ints_stay j.v.hb k fun b hb => ⟨(hG b hb).1, hn _ b (by decide) hb, hn _ b (by decide) hb⟩⟩
theorem VP.cm_ (j : VP w0 w p M n many need K A1 c1 N A2 c2 P2 A3 c3 P3) {A' : Option Addr} {c' : Nat} {P' : List (List Int)} (h : OMany Ints 51 3 w' w0.heap.size A' c' (P'.map cmt)) (hg : w.grownBy w' (Value.slice A3 (P3.map cmt).length c3).ownBlock) : VP w0 w' p M n many need K A1 c1 N A2 c2 P2 A' c' P' := by
  have k := Chs.grown hg
  have hG : ∀ b, (Value.slice A3 (P3.map cmt).length c3).ownBlock = some b → w0.heap.size ≤ b ∧ kin w b 51 := fun b hb => j.cm.gkinV hb
  have hn : ∀ t b, t ≠ 51 → (Value.slice A3 (P3.map cmt).length c3).ownBlock = some b → ¬ kin w b t := fun t b ht hb h => ht (kin.ne h (hG b hb).2)
  exact ⟨j.h0, j.b.trans (k.below (fun b hb => (hG b hb).1) j.v.hb), j.vlt_chs hG (by decide) (by decide) (by decide) k, own_stayV j.hs fun g hg => k.block g (own_block_of j.hs hg).2.lt fun e => hn _ g (by decide) e (own_block_of j.hs hg).2, j.sh.chsV shares_stay j.v.hb k fun b hb => ⟨(hG b hb).1, hn _ b (by decide) hb, hn _ b (by decide) hb⟩, h⟩
end
/-- what the vault keeps is what the law keeps -/
structure Rel (n : Nat) (K : ByteArray → Option (List Int)) (N : List ByteArray) (P : List (List Int)) : Prop where
  len : N.length = P.length ∧ n = N.length
  at_ : ∀ j, j < N.length → K (gs N j) = some (gg P j)
  out : ∀ s, (∀ j, j < N.length → gs N j ≠ s) → K s = none
theorem Rel.nil : Rel 0 (fun _ => none) [] [] := ⟨⟨rfl, rfl⟩, fun j h => by simp at h, fun _ _ => rfl⟩
theorem gs_app_lt {l : List ByteArray} {x : ByteArray} {i : Nat} (h : i < l.length) : gs (l ++ [x]) i = gs l i := by simp only [gs, List.getD_eq_getElem?_getD]; rw [List.getElem?_append_left h]
theorem gs_app_eq {l : List ByteArray} {x : ByteArray} : gs (l ++ [x]) l.length = x := by simp [gs, List.getD_eq_getElem?_getD]
theorem Rel.add {n : Nat} {K : ByteArray → Option (List Int)} {N : List ByteArray} {P : List (List Int)} (h : Rel n K N P) {s : ByteArray} (q : List Int) (hs : ∀ j, j < N.length → gs N j ≠ s) : Rel (n + 1) (fun t => if t = s then some q else K t) (N ++ [s]) (P ++ [q]) := by
  refine ⟨⟨by simp [h.len.1], by simp [h.len.2]⟩, fun j hj => ?_, fun t ht => ?_⟩
  · rw [List.length_append, List.length_singleton] at hj
    rcases Nat.lt_or_ge j N.length with hl | hl
    · rw [gs_app_lt hl, if_neg (hs j hl), gg_append_lt (by rw [← h.len.1]; exact hl)]; exact h.at_ j hl
    · obtain rfl : j = N.length := by omega
      rw [gs_app_eq, if_pos rfl, h.len.1, gg_append_eq]
  · have h1 : t ≠ s := fun e => ht N.length (by simp) (by rw [gs_app_eq, e])
    rw [if_neg h1]
    exact h.out t fun j hj => by have := ht j (by simp; omega); rwa [gs_app_lt hj] at this
end Go.Proofs.YtamndgeeibfmhaaDoor
