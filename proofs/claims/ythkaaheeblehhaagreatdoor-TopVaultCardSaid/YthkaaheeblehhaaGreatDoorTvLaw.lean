/- A vault, and the names and secrets that a law keeps beside it. -/
import Derived.Test.YthkaaheeblehhaaGreatDoorVaultGet
import Derived.Test.YthkaaheeblehhaaGreatDoorOStr
import Derived.Test.YthkaaheeblehhaaGreatDoorWin
import Derived.Test.YthkaaheeblehhaaGreatDoorDoor
namespace Go.Proofs.YthkaaheeblehhaaGreatDoor
open Go.RowKit Go.ChangeShapes Go.WideShapes Go.Deep Go.Maps Go.WideMaps
set_option linter.unusedVariables false

/-! ### the shares that are asked with: from the last place down -/
def downL (q : List Int) (many k : Nat) : List Sh := (List.range k).map fun (j : Nat) => ((many : Int) - j, PM.hor q ((many : Int) - j))
theorem downL_length (q : List Int) (many k : Nat) : (downL q many k).length = k := by simp [downL]
theorem downL_succ (q : List Int) (many k : Nat) : downL q many (k + 1) = downL q many k ++ [((many : Int) - k, PM.hor q ((many : Int) - k))] := by simp [downL, List.range_succ]
theorem downL_at (q : List Int) (many : Nat) {k i : Nat} (h : i < k) : ga (downL q many k) i = (many : Int) - i ∧ gb (downL q many k) i = PM.hor q ((many : Int) - i) := by
  simp [ga, gb, downL, List.getD_eq_getElem?_getD, h]
theorem tail_at (S : List Sh) (i : Nat) : ga S.tail i = ga S (i + 1) ∧ gb S.tail i = gb S (i + 1) := by
  cases S <;> simp [ga, gb, List.getD_eq_getElem?_getD]
/-- shares that are true, of places that differ -/
structure Fine (q : List Int) (many : Nat) (S : List Sh) : Prop where
  t : ∀ i, i < S.length → gb S i = PM.hor q (ga S i)
  d : ∀ i j, i < S.length → j < S.length → i ≠ j → ga S i ≠ ga S j
  p : ∀ i, i < S.length → 1 ≤ ga S i ∧ ga S i ≤ many
theorem Fine.down (q : List Int) {many k : Nat} (h : k ≤ many) : Fine q many (downL q many k) := by
  refine ⟨fun i hi => ?_, fun i j hi hj hne => ?_, fun i hi => ?_⟩
  · rw [downL_length] at hi
    rw [(downL_at q many hi).1, (downL_at q many hi).2]
  · rw [downL_length] at hi hj
    rw [(downL_at q many hi).1, (downL_at q many hj).1]; omega
  · rw [downL_length] at hi
    rw [(downL_at q many hi).1]; omega
theorem Fine.tail {q : List Int} {many : Nat} {S : List Sh} (h : Fine q many S) : Fine q many S.tail := by
  have hl : ∀ i, i < S.tail.length → i + 1 < S.length := fun i hi => by rw [List.length_tail] at hi; omega
  refine ⟨fun i hi => ?_, fun i j hi hj hne => ?_, fun i hi => ?_⟩
  · rw [(tail_at S i).1, (tail_at S i).2]; exact h.t _ (hl i hi)
  · rw [(tail_at S i).1, (tail_at S j).1]; exact h.d _ _ (hl i hi) (hl j hj) (by omega)
  · rw [(tail_at S i).1]; exact h.p _ (hl i hi)
theorem Fine.gd {q : List Int} {many : Nat} {S : List Sh} (h : Fine q many S) : ∀ k, k ≤ S.length → (gdL q S k).length = k := by
  intro k
  induction k with
  | zero => intro _; rfl
  | succ k ih =>
    intro hk
    have hg := gdL_good q S k
    have hh : hasB (gdL q S k) (ga S k) (gb S k) = false := by
      rw [← Bool.not_eq_true, hasB_true]
      rintro ⟨i, hi, e, _⟩
      obtain ⟨j, hj, e2, _⟩ := hg.src i hi
      exact h.d j k (by omega) (by omega) (by omega) (e2.symm.trans e)
    have ht : (gb S k == PM.hor q (ga S k)) = true := beq_iff_eq.2 (h.t k (by omega))
    rw [gdL, if_pos (by rw [hh, ht]; rfl), List.length_append, List.length_singleton, ih (by omega)]
theorem Fine.bad {q : List Int} {many : Nat} {S : List Sh} (h : Fine q many S) : anyS (badB many S) S.length = false :=
  anyS_false.2 fun i hi => badB_false.2 ⟨atB_true.2 (h.p i hi), by rw [h.t i hi]; exact inB_true.2 (PM.hor_range q _)⟩
theorem Fine.get {q : List Int} {many need : Nat} {S : List Sh} (h : Fine q many S) (h7 : many ≤ 7) (hl : S.length ≤ 7) : vgE many need q S = if S.length < need then 5 else 0 := by
  rw [vgE, if_neg (by omega), h.bad, if_neg (by decide), h.gd _ (Nat.le_refl _)]
/-- the tail of a slice of shares -/
theorem shares_tail {w : World} {base c : Nat} {A : Option Addr} {l : List Sh} (h : OShares w base A c l) {n : Nat} (hn : l.length = n + 1) (B : Option Addr) (hB : ∀ g, A = some ⟨g, 0, none⟩ → 0 < n → B = some ⟨g, 2, none⟩) : Shares w B l.tail := by
  intro h0
  have hl : l.tail.length = n := by rw [List.length_tail]; omega
  obtain ⟨g, cap, hv, _, hlt⟩ := World.ownsRow.form h (by omega)
  have hA : A = some ⟨g, 0, none⟩ := by injection hv
  refine ⟨g, 2, hB g hA (by omega), hlt, fun i hi j hj => ?_⟩
  have hc := h.shares (by omega)
  obtain ⟨b, off, e, hb, hh⟩ := hc
  rw [hA] at e
  injection e with e
  injection e with e1 e2
  subst e1 e2
  have := hh (i + 1) (by omega) j hj
  rw [show 2 + i * 2 + j = 0 + (i + 1) * 2 + j by omega, this]
  unfold shc
  rw [(tail_at l i).1, (tail_at l i).2]
/-! ### numbers that a law keeps -/
def WK (w : World) (base : Nat) (A : Option Addr) (c : Nat) (l : List Int) : Prop := Win w base 3 1 (.slice A l.length c) l.length (l.map (Value.int .i64))
theorem WK.at_ {w : World} {base c : Nat} {A : Option Addr} {l : List Int} (h : WK w base A c l) {i : Nat} (hi : i < l.length) : ∃ b off, A = some ⟨b, off, none⟩ ∧ b < w.heap.size ∧ w.cell? ⟨b, off + i, none⟩ = some (.int .i64 (gi l i)) := by
  obtain ⟨g, off, c', hv, hn, hx⟩ := Win.at_ h (by omega)
  injection hv with hv
  refine ⟨g, off, hv, (h.block (g := g) (by rw [hv]; rfl)).2.lt, hx i _ ?_⟩
  simp [gi, List.getD_eq_getElem?_getD, List.getElem?_eq_getElem hi]
theorem wpList_append_wk {w : World} {ops : Array Oper} {rest : List Oper} {o : Oper} {a : Act} {Q : Exit → Act → World → Prop} (hgd : o.guard = none) (s x : Operand)
    (ho : o.op = .call { callee := .builtin .append, args := #[s, x], argTypes := #[64, 64] }) (base : Nat) (A : Option Addr) (c : Nat) (l : List Int) (hs : a.eval s = .slice A l.length c) (hown : WK w base A c l)
    (g : Nat) (n : Int) (hx : a.eval x = .slice (some ⟨g, 0, none⟩) 1 1) (h0 : w.cell? ⟨g, 0, none⟩ = some (.int .i64 n)) (hn : l.length ≤ 1000000) (hbase : base ≤ w.heap.size)
    (h : ∀ b off c' w', WK w' base (some ⟨b, off, none⟩) c' (l ++ [n]) → w.grownBy w' (Value.slice A l.length c).ownBlock → ((Value.slice A l.length c).ownBlock = some b ∨ w.heap.size ≤ b) → wpList Tryz.prog ops Q rest (a.put o.dst (.slice (some ⟨b, off, none⟩) (l.length + 1) c')) w') : wpList Tryz.prog ops Q (o :: rest) a w :=
  wpList_plain hgd fun K hK => by
    have := step_append_win (ops := ops) (K := K) (Q := Q) (E := True) hgd s x _ ho base 3 _ 1 8 Tryz.underlying64 infoI rfl (by decide) (.slice A l.length c) l.length _ hs hown g [.int .i64 n] hx rfl (fun j u hj => by
      match j, hj with
      | 0, hj => simp at hj; subst hj; exact h0) (by simp [Value.oneCell']) hn (by decide) hbase (fun g off cap w' k1 k2 k3 => hK _ _ (h g off cap w' (by unfold WK; rw [List.length_append, List.map_append]; exact k1) k2 k3))
    rwa [if_pos (by simp [Region.wanted, hgd])] at this
/-- the vault, the names N, and the secrets Ks -/
structure TM (w0 w : World) (p M n many need : Nat) (K : ByteArray → Option (List Int)) (A1 : Option Addr) (c1 : Nat) (N : List ByteArray) (A2 : Option Addr) (c2 : Nat) (Ks : List Int) : Prop where
  h0 : HG w0
  b : Below w0.heap.size w0 w
  v : VltX (fun b => (Value.slice A2 Ks.length c2).ownBlock = some b) w w0.heap.size p M n many need K
  hs : OStrs w w0.heap.size A1 c1 N
  ks : WK w w0.heap.size A2 c2 Ks
section
variable {w0 w w' : World} {p M n n' many need : Nat} {K K' : ByteArray → Option (List Int)} {A1 A2 : Option Addr} {c1 c2 : Nat} {N : List ByteArray} {Ks : List Int}
theorem TM.hg (j : TM w0 w p M n many need K A1 c1 N A2 c2 Ks) : HG w := j.h0.below j.b
theorem TM.keep (j : TM w0 w p M n many need K A1 c1 N A2 c2 Ks) (hb : Below w.heap.size w w') : TM w0 w' p M n many need K A1 c1 N A2 c2 Ks :=
  ⟨j.h0, bcl j.b hb, j.v.keep hb, j.hs.keep hb, Win.keep j.ks hb⟩
theorem TM.xlt (j : TM w0 w p M n many need K A1 c1 N A2 c2 Ks) : ∀ b, (Value.slice A2 Ks.length c2).ownBlock = some b → b < w.heap.size := fun b hb => (Win.block j.ks hb).2.lt
/-- the vault's map has changed -/
theorem TM.vt (j : TM w0 w p M n many need K A1 c1 N A2 c2 Ks) (hv : VltX (fun b => (Value.slice A2 Ks.length c2).ownBlock = some b) w' w0.heap.size p M n' many need K') (k : Chs (fun b => b = M) w w') : TM w0 w' p M n' many need K' A1 c1 N A2 c2 Ks := by
  have hM := j.v.isMap
  have hn : ∀ t b, b = M → ¬ kin w b t := fun t b hb h => by subst hb; exact not_kin_of_map hM h
  refine ⟨j.h0, j.b.trans (k.below (fun b hb => by rw [hb]; exact j.v.hM) j.v.hb), hv, j.hs.chs k fun b hb e => hn _ b hb (j.hs.block e).2, Win.stay j.ks fun g hg => k.block g (Win.block j.ks hg).2.lt fun e => hn _ g e (Win.block j.ks hg).2⟩
theorem TM.hs_ (j : TM w0 w p M n many need K A1 c1 N A2 c2 Ks) {A' : Option Addr} {c' : Nat} {N' : List ByteArray} (h : OStrs w' w0.heap.size A' c' N') (hg : w.grownBy w' (Value.slice A1 N.length c1).ownBlock) : TM w0 w' p M n many need K A' c' N' A2 c2 Ks := by
  have k := Chs.grown hg
  have hG : ∀ b, (Value.slice A1 N.length c1).ownBlock = some b → w0.heap.size ≤ b ∧ kin w b 9 := fun b hb => j.hs.block hb
  refine ⟨j.h0, j.b.trans (k.below (fun b hb => (hG b hb).1) j.v.hb), j.v.chs k fun b hb => ⟨(hG b hb).1, fun h => absurd (kin.ne (hG b hb).2 h) (by decide), .inl fun h => absurd (kin.ne (hG b hb).2 h) (by decide), fun e => absurd (kin.ne (hG b hb).2 (show kin w b 118 by rw [e]; exact j.v.there.kin)) (by decide), fun e => not_kin_of_map j.v.isMap (by rw [← e]; exact (hG b hb).2)⟩, h,
    Win.stay j.ks fun g hg' => k.block g (Win.block j.ks hg').2.lt fun e => absurd (kin.ne (hG g e).2 (Win.block j.ks hg').2) (by decide)⟩
theorem TM.ks_ (j : TM w0 w p M n many need K A1 c1 N A2 c2 Ks) {b' o' c' : Nat} {Ks' : List Int} (h : WK w' w0.heap.size (some ⟨b', o', none⟩) c' Ks') (hg : w.grownBy w' (Value.slice A2 Ks.length c2).ownBlock) (hx : (Value.slice A2 Ks.length c2).ownBlock = some b' ∨ w.heap.size ≤ b') : TM w0 w' p M n many need K A1 c1 N (some ⟨b', o', none⟩) c' Ks' := by
  have k := Chs.grown hg
  have hG : ∀ b, (Value.slice A2 Ks.length c2).ownBlock = some b → w0.heap.size ≤ b ∧ kin w b 3 := fun b hb => Win.block j.ks hb
  have hv : VltX (fun b => (Value.slice A2 Ks.length c2).ownBlock = some b ∨ b = b') w w0.heap.size p M n many need K := j.v.reX fun b hb => hb.elim .inl fun e => by subst e; exact hx
  have hv' := hv.chs k fun b hb => ⟨(hG b hb).1, fun h => absurd (kin.ne (hG b hb).2 h) (by decide), .inr (.inl hb), fun e => absurd (kin.ne (hG b hb).2 (show kin w b 118 by rw [e]; exact j.v.there.kin)) (by decide), fun e => not_kin_of_map j.v.isMap (by rw [← e]; exact (hG b hb).2)⟩
  refine ⟨j.h0, j.b.trans (k.below (fun b hb => (hG b hb).1) j.v.hb), hv'.reX fun b hb => .inl (.inr ?_), j.hs.chs k fun b hb e => absurd (kin.ne (hG b hb).2 (j.hs.block e).2) (by decide), h⟩
  simp only [Value.ownBlock, Option.some.injEq] at hb
  exact hb.symm
end
/-- what the vault keeps is what the law keeps -/
structure RelT (n : Nat) (K : ByteArray → Option (List Int)) (N : List ByteArray) (Ks r : List Int) : Prop where
  len : N.length = Ks.length ∧ n = N.length
  at_ : ∀ j, j < N.length → K (gs N j) = some (gi Ks j :: r)
theorem gs_app_l {l : List ByteArray} {x : ByteArray} {i : Nat} (h : i < l.length) : gs (l ++ [x]) i = gs l i := by simp only [gs, List.getD_eq_getElem?_getD]; rw [List.getElem?_append_left h]
theorem gs_app_e {l : List ByteArray} {x : ByteArray} : gs (l ++ [x]) l.length = x := by simp [gs, List.getD_eq_getElem?_getD]
theorem gi_app_l {l : List Int} {x : Int} {i : Nat} (h : i < l.length) : gi (l ++ [x]) i = gi l i := by simp only [gi, List.getD_eq_getElem?_getD]; rw [List.getElem?_append_left h]
theorem gi_app_e {l : List Int} {x : Int} : gi (l ++ [x]) l.length = x := by simp [gi, List.getD_eq_getElem?_getD]
theorem RelT.nil (r : List Int) : RelT 0 (fun _ => none) [] [] r := ⟨⟨rfl, rfl⟩, fun j h => by simp at h⟩
theorem RelT.add {n : Nat} {K : ByteArray → Option (List Int)} {N : List ByteArray} {Ks r : List Int} (h : RelT n K N Ks r) {s : ByteArray} (x : Int) (hs : K s = none) : RelT (n + 1) (fun t => if t = s then some (x :: r) else K t) (N ++ [s]) (Ks ++ [x]) r := by
  refine ⟨⟨by simp [h.len.1], by simp [h.len.2]⟩, fun j hj => ?_⟩
  rw [List.length_append, List.length_singleton] at hj
  rcases Nat.lt_or_ge j N.length with hl | hl
  · have hne : gs N j ≠ s := fun e => by have := h.at_ j hl; rw [e, hs] at this; cases this
    rw [gs_app_l hl, if_neg hne, gi_app_l (by rw [← h.len.1]; exact hl)]; exact h.at_ j hl
  · obtain rfl : j = N.length := by omega
    rw [gs_app_e, if_pos rfl, h.len.1, gi_app_e]
/-- how long a name may be, so much being left -/
def nmB (v k : Nat) : Prop := (k = 0 ∧ v ≤ 10006) ∨ (k = 1 ∧ v ≤ 1000) ∨ (k = 2 ∧ v ≤ 100) ∨ (k = 3 ∧ v ≤ 10) ∨ (k = 4 ∧ v ≤ 1) ∨ (k = 5 ∧ v = 0)
theorem nmB.step {v k : Nat} (h : nmB v k) (hv : 0 < v) : nmB (v / 10) (k + 1) := by unfold nmB at *; omega
theorem nmB.le {v k : Nat} (h : nmB v k) : k ≤ 5 ∧ v ≤ 10006 := by unfold nmB at *; omega
end Go.Proofs.YthkaaheeblehhaaGreatDoor
