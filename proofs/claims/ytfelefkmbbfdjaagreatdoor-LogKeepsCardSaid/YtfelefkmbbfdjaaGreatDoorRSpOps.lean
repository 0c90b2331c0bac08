/- The reference's space in memory: Put, Get. -/
import Derived.Test.YtfelefkmbbfdjaaGreatDoorRSpace
import Derived.Test.YtfelefkmbbfdjaaGreatDoorOnce
import Derived.Deep.RegionLaw
namespace Go.Proofs.YtfelefkmbbfdjaaGreatDoor
open Go.ChangeShapes Go.WideShapes Go.ChangeAt Go.RowKit
set_option linter.unusedVariables false

/-- the reference's space at p, its outer array at g, with the tuples L, which lie where nothing is written -/
structure RSp (w : World) (base p : Nat) (g : Option Nat) (L : List (List Va)) : Prop where
  there : ∃ A c, AtB w p #[.slice A L.length c] 74 ∧ (Value.slice A L.length c).ownBlock = g ∧ OMany Vals 32 31 w base A c L
  hp : base ≤ p
  hb : base ≤ w.heap.size
  len : L.length ≤ 20
  ok : ∀ l ∈ L, okL l ∧ tuE l = 0
section
variable {w w' : World} {base p : Nat} {g : Option Nat} {L : List (List Va)}
theorem RSp.kin (h : RSp w base p g L) : Go.Proofs.YtfelefkmbbfdjaaGreatDoor.kin w p 74 := by obtain ⟨A, c, h1, _⟩ := h.there; exact h1.kin
theorem RSp.lt (h : RSp w base p g L) : p < w.heap.size := h.kin.lt
theorem RSp.gkin (h : RSp w base p g L) {b : Nat} (hg : g = some b) : base ≤ b ∧ Go.Proofs.YtfelefkmbbfdjaaGreatDoor.kin w b 32 := by
  obtain ⟨A, c, _, h2, h3⟩ := h.there; exact h3.gkin (h2.trans hg)
theorem RSp.stay (h : RSp w base p g L) (hz : w.heap.size ≤ w'.heap.size) (hs : ∀ b, b < w.heap.size → (b < base ∨ Go.Proofs.YtfelefkmbbfdjaaGreatDoor.kin w b 31 ∨ b = p ∨ g = some b) → w'.heap[b]? = w.heap[b]?) : RSp w' base p g L := by
  obtain ⟨A, c, h1, h2, h3⟩ := h.there
  refine ⟨⟨A, c, h1.stay (hs p h1.lt (.inr (.inr (.inl rfl)))), h2, h3.stay vals_stay h.hb hz fun b hb hw => hs b hb ?_⟩, h.hp, Nat.le_trans h.hb hz, h.len, h.ok⟩
  rcases hw with hw | hw | hw
  · exact .inl hw
  · exact .inr (.inl hw)
  · exact .inr (.inr (.inr (h2.symm.trans hw)))
theorem RSp.keep (h : RSp w base p g L) (hb : Below w.heap.size w w') : RSp w' base p g L := h.stay hb.size fun b h1 _ => hb.block b h1
theorem RSp.far {M : Nat → Prop} (h : RSp w base p g L) (k : Chs M w w') (hM : ∀ b, M b → base ≤ b ∧ ¬ Go.Proofs.YtfelefkmbbfdjaaGreatDoor.kin w b 31 ∧ b ≠ p ∧ g ≠ some b) : RSp w' base p g L :=
  h.stay k.size fun b h1 h2 => k.block b h1 fun h3 => by
    obtain ⟨q1, q2, q3, q4⟩ := hM b h3
    rcases h2 with h2 | h2 | h2 | h2
    · omega
    · exact q2 h2
    · exact q3 h2
    · exact q4 h2
theorem RSp.new (w : World) {base : Nat} (hb : base ≤ w.heap.size) : RSp (w.alloc (.cells #[.slice none 0 0] 74)) base w.heap.size none [] :=
  ⟨⟨none, 0, AtB.new _ _ _, rfl, OMany.nil⟩, hb, le_al hb _, by simp, fun l h => by simp at h⟩
/-- the outer array is the elder one, or a new one, or none -/
def Nwb (g g' : Option Nat) (n : Nat) : Prop := ∀ b, g' = some b → g = some b ∨ n ≤ b
theorem Nwb.refl (g : Option Nat) (n : Nat) : Nwb g g n := fun b h => .inl h
/-- what the reference's space may change -/
def RM (p : Nat) (g : Option Nat) (b : Nat) : Prop := b = p ∨ g = some b
theorem RSp.own (h : RSp w base p g L) : ∀ b, RM p g b → base ≤ b ∧ ¬ Go.Proofs.YtfelefkmbbfdjaaGreatDoor.kin w b 31 := fun b hb => by
  rcases hb with rfl | hb
  · exact ⟨h.hp, fun hk => absurd (kin.ne hk h.kin) (by decide)⟩
  · exact ⟨(h.gkin hb).1, fun hk => absurd (kin.ne hk (h.gkin hb).2) (by decide)⟩
end
/-- behind a store to the space's own cell -/
theorem rsp_store {w : World} {base p : Nat} {g : Option Nat} {L : List (List Va)} {A : Option Addr} {c : Nat} {v : Value} (hc : AtB w p #[v] 74) (hp : base ≤ p) (hb : base ≤ w.heap.size)
    (hO : OMany Vals 32 31 w base A c L) (hg : (Value.slice A L.length c).ownBlock = g) (hl : L.length ≤ 20) (hok : ∀ l ∈ L, okL l ∧ tuE l = 0) : RSp (w.setCell ⟨p, 0, none⟩ (.slice A L.length c)) base p g L := by
  have hf : ∀ b, b ≠ p → (w.setCell ⟨p, 0, none⟩ (.slice A L.length c)).heap[b]? = w.heap[b]? := fun b h => Below.heap_setCell w ⟨p, 0, none⟩ _ b h
  have hs := ((Below.refl 0 w).setCell (p := ⟨p, 0, none⟩) (Nat.zero_le _) (.slice A L.length c)).size
  refine ⟨⟨A, c, hc.set 0 _, hg, hO.stay vals_stay hb hs fun b hb' hw => hf b ?_⟩, hp, Nat.le_trans hb hs, hl, hok⟩
  rintro rfl
  rcases hw with hw | hw | hw
  · omega
  · exact kin_ne hw hc.kin (by decide) rfl
  · exact kin_ne (hO.gkin hw).2 hc.kin (by decide) rfl
theorem wpList_append_many_at {α : Type} {Q' : World → Option Addr → List α → Prop} (hQ : QStay Q') {w : World} {ops : Array Oper} {rest : List Oper} {o : Oper} {a : Act} {Q : Exit → Act → World → Prop} (hgd : o.guard = none) (s x : Operand) (tt t e : TypeId)
    (ho : o.op = .call { callee := .builtin .append, args := #[s, x], argTypes := #[tt, tt] }) (ht : Tryz.prog.underlying tt = some (.slice t)) (hi : (Tryz.prog.info? t).map (fun i => (i.zero, i.size, i.bytes)) = some (some (.slice none 0 0), 1, 24)) (hte : t ≠ e)
    (base : Nat) (A : Option Addr) (c : Nat) (L : List (List α)) (hs : a.eval s = .slice A L.length c) (hown : OMany Q' t e w base A c L)
    (g : Nat) (B : Option Addr) (l : List α) (C : Nat) (hx : a.eval x = .slice (some ⟨g, 0, none⟩) 1 1) (h0 : w.cell? ⟨g, 0, none⟩ = some (.slice B l.length C)) (hq : Q' w B l) (hc1 : l.length ≤ C) (hc2 : C ≤ maxLen) (hI : Inn w base e B) (hn : L.length ≤ 1000000) (hbase : base ≤ w.heap.size)
    (h : ∀ b c' w', OMany Q' t e w' base (some ⟨b, 0, none⟩) c' (L ++ [l]) → w.grownBy w' (Value.slice A L.length c).ownBlock → ((Value.slice A L.length c).ownBlock = some b ∨ b = w.heap.size) → wpList Tryz.prog ops Q rest (a.put o.dst (.slice (some ⟨b, 0, none⟩) (L.length + 1) c')) w') : wpList Tryz.prog ops Q (o :: rest) a w :=
  wpList_plain hgd fun K hK => by
    have := step_append_many (ops := ops) (K := K) (Q := Q) (E := True) hQ hgd s x tt t e ho ht hi hte base A c L hs hown g B l C hx h0 hq hc1 hc2 hI hn hbase (fun b c' w' h1 h2 h3 _ => hK _ _ (h b c' w' h1 h2 h3))
    rwa [if_pos (by simp [Region.wanted, hgd])] at this
set_option maxHeartbeats 800000 in
set_option maxRecDepth 100000 in
theorem rput_any (base p : Nat) (g : Option Nat) (L : List (List Va)) (A : Option Addr) (c : Nat) (t : List Va) (hc : t.length ≤ c) (hm : c ≤ maxLen) (hok : okL t) (w : World) (hS : RSp w base p g L) (hA : Vin w base A t) :
    Calls Tryz.prog 33 #[.pointer (some ⟨p, 0, none⟩), .slice A t.length c] w fun e w' => e = .returned (.int .i64 (putE L t)) ∧ ∃ g', RSp w' base p g' (putL L t) ∧ Chs (RM p g) w w' ∧ Nwb g g' w.heap.size := by
  have c1 := rtuple_any A c t (by omega) hok w hA.1
  by_cases h1 : tuE t = 0
  · rw [h1] at c1
    obtain ⟨E, n, q1, q2, q3⟩ := hS.there
    by_cases h2 : L.length = 20
    · have hv : putE L t = 4 := by rw [putE, if_neg (by simp [h1]), if_pos h2]
      have hf : decide ((20 : Int) ≤ (L.length : Nat)) = true := by simp; omega
      rw [putL, hv, if_neg (by decide)]
      have C1 := Lib.hid c1; have Q1 := Lib.hid q1; clear c1 hv h2 h1 q1 q2 q3
      go_enter Tryz.func33, Tryz.ntmps33
      go_wp2_with (first | (go_at_call 55; refine C1.out.mono ?_; rintro e w1 ⟨rfl, hb1⟩; have k1 := (Q1.out.below hb1 Q1.out.lt).cell (i := 0) rfl))
      go_ret
      exact ⟨rfl, g, hS.keep hb1, Chs.of_below _ hb1, Nwb.refl _ _⟩
    · have hv : putE L t = 0 := by rw [putE, if_neg (by simp [h1]), if_neg h2]
      have hf : decide ((20 : Int) ≤ (L.length : Nat)) = false := by have := hS.len; simp; omega
      rw [putL, hv, if_pos rfl]
      obtain ⟨t0, t5⟩ := tu_len h1
      have hl := hS.len
      have hl2 : L.length ≤ 1000000 := by omega
      have HI := Lib.hid (hA.2 t0)
      have HA := Lib.hid hA.1
      have HS := Lib.hid hS; have HT := Lib.hid h1; have HO := Lib.hid hok; have H2 := Lib.hid h2; have Q1 := Lib.hid q1; have Q2 := Lib.hid q2; have Q3 := Lib.hid q3; have HC := Lib.hid hc; have HMX := Lib.hid hm
      have C1 := Lib.hid c1; clear c1 hv h2 h1 t0 t5 hok hS hl hA q1 q2 q3 hc hm
      go_enter Tryz.func33, Tryz.ntmps33
      go_wp2_with (first
        | (go_at_call 55; refine C1.out.mono ?_; rintro e w1 ⟨rfl, hb1⟩; have hP1 := Q1.out.below hb1 Q1.out.lt; have k1 := hP1.cell (i := 0) rfl; have hpz := hP1.lt; have HP1 := Lib.hid hP1; clear hP1)
        | (at_builtin; refine wpList_append_many_at vals_stay rfl _ _ 72 32 31 rfl Tryz.underlying72 infoVals (by decide) base E n L rfl (Q3.out.keep vals_stay HS.out.hb (bal hb1 _)) w1.heap.size A t c rfl (cell_new1 _ _ _) (Sl.alloc (HA.out.below hb1 (Nat.le_refl _)) _) HC.out HMX.out (HI.out.stay fun x hx => (bal hb1 _).block _ (HI.out.lt HS.out.hb hx)) hl2 (le_al (Nat.le_trans HS.out.hb hb1.size) _) ?_; intro b4 c4 w4 ho4 hg4 hx4; have hcg : Chs (fun b => (Value.slice E L.length n).ownBlock = some b) w1 w4 := (Chs.of_below _ (bal1 _ _)).trans (Chs.grown hg4) (fun b hb => .inl hb); have P4 := HP1.out.chs hcg (fun e => kin_ne (Q3.out.gkin e).2 Q1.out.kin (by decide) rfl); have k4 := P4.cell (i := 0) rfl; have f4 := P4.frozen 0; have HP4 := Lib.hid P4; have HO4 := Lib.hid ho4; have HX4 := Lib.hid hx4; have HCG := Lib.hid hcg; clear ho4 hg4 hx4 P4 hcg))
      go_ret
      have hlen : (L ++ [t]).length = L.length + 1 := by simp
      have hbz : base ≤ w4.heap.size := Nat.le_trans HS.out.hb (Nat.le_trans hb1.size HCG.out.size)
      have hs := rsp_store (g := some b4) HP4.out HS.out.hp hbz HO4.out rfl (by rw [hlen]; have := HS.out.len; have := H2.out; omega) (fun l hl => by
        rcases List.mem_append.1 hl with h | h
        · exact HS.out.ok l h
        · rw [List.mem_singleton] at h; subst h; exact ⟨HO.out, HT.out⟩)
      rw [hlen] at hs
      refine ⟨rfl, some b4, hs, ?_, ?_⟩
      · exact (Chs.of_below _ hb1).trans ((HCG.out.mono (fun b hb => Or.inr (Q2.out.symm.trans hb)) : Chs (RM p g) w1 w4).trans (Chs.set w4 ⟨p, 0, none⟩ _) (fun b hb => .inl (.inl hb))) (fun b hb => .inl hb)
      · intro b hb
        injection hb with hb
        subst hb
        rcases HX4.out with h | h
        · exact .inl (Q2.out.symm.trans h)
        · exact .inr (by have := hb1.size; simp at h; omega)
  · have hv : putE L t = tuE t := by rw [putE, if_pos h1]
    have hq : (tuE t == 0) = false := beq_eq_false_iff_ne.2 h1
    rw [putL, hv, if_neg h1]
    generalize tuE t = E at *
    have C1 := Lib.hid c1; clear c1 hv h1
    go_enter Tryz.func33, Tryz.ntmps33
    go_wp2_with (first | (go_at_call 55; refine C1.out.mono ?_; rintro e w1 ⟨rfl, hb1⟩))
    go_ret
    exact ⟨rfl, g, hS.keep hb1, Chs.of_below _ hb1, Nwb.refl _ _⟩
/-- slices of slices: the outer array lies at b1 or behind, what is in it is of before b2, or of e -/
def OM2 {α : Type} (Q : World → Option Addr → List α → Prop) (t e : TypeId) (w : World) (b1 b2 : Nat) (A : Option Addr) (c : Nat) (L : List (List α)) : Prop :=
  ∃ vs : List Value, w.ownsRow b1 t 1 (.slice A L.length c) L.length vs ∧ ∀ i, i < L.length → ∃ B C, vs[i]? = some (.slice B (gg L i).length C) ∧ Q w B (gg L i) ∧ (gg L i).length ≤ C ∧ C ≤ maxLen ∧ Inn w b2 e B
/-- a window of slices that is only read -/
def MW {α : Type} (Q : World → Option Addr → List α → Prop) (e : TypeId) (w : World) (b2 : Nat) (A : Option Addr) (L : List (List α)) : Prop :=
  ∃ vs : List Value, vs.length = L.length ∧ (0 < L.length → ∃ b off, A = some ⟨b, off, none⟩ ∧ ∀ j u, vs[j]? = some u → w.cell? ⟨b, off + j, none⟩ = some u) ∧ ∀ i, i < L.length → ∃ B C, vs[i]? = some (.slice B (gg L i).length C) ∧ Q w B (gg L i) ∧ (gg L i).length ≤ C ∧ C ≤ maxLen ∧ Inn w b2 e B
theorem Inn.up {w : World} {b1 b2 : Nat} {e : TypeId} {B : Option Addr} (h : Inn w b2 e B) (hb : b2 ≤ b1) : Inn w b1 e B := fun a ha => (h a ha).elim (fun h => .inl (by omega)) .inr
theorem wpList_append_manys {α : Type} {Q' : World → Option Addr → List α → Prop} (hQ : QStay Q') {w : World} {ops : Array Oper} {rest : List Oper} {o : Oper} {a : Act} {Q : Exit → Act → World → Prop} (hgd : o.guard = none) (s x : Operand) (tt t e : TypeId)
    (ho : o.op = .call { callee := .builtin .append, args := #[s, x], argTypes := #[tt, tt] }) (ht : Tryz.prog.underlying tt = some (.slice t)) (hi : (Tryz.prog.info? t).map (fun i => (i.zero, i.size, i.bytes)) = some (some (.slice none 0 0), 1, 24)) (hte : t ≠ e)
    (b1 b2 : Nat) (h21 : b2 ≤ b1) (A : Option Addr) (c : Nat) (L : List (List α)) (hs : a.eval s = .slice A L.length c) (hown : OM2 Q' t e w b1 b2 A c L)
    (A2 : Option Addr) (c2 : Nat) (L2 : List (List α)) (hx : a.eval x = .slice A2 L2.length c2) (hW : MW Q' e w b2 A2 L2) (hn : L.length + L2.length ≤ 1000000) (hbase : b1 ≤ w.heap.size)
    (h : ∀ A' c' w', OM2 Q' t e w' b1 b2 A' c' (L ++ L2) → Below b1 w w' → wpList Tryz.prog ops Q rest (a.put o.dst (.slice A' (L.length + L2.length) c')) w') : wpList Tryz.prog ops Q (o :: rest) a w := by
  obtain ⟨vs, h1, h2⟩ := hown
  obtain ⟨us, k1, k2, k3⟩ := hW
  have hvl : vs.length = L.length := by have := h1.1; simpa using this
  refine wpList_append_all hgd s x _ ho b1 t _ 1 24 ht hi rfl (by decide) A c L.length vs hs h1 A2 L2.length c2 us hx (by rw [k1, Nat.mul_one]) k2 (fun u hu => ?_) (by unfold maxLen; omega) (by omega) hbase ?_
  · obtain ⟨i, hi', rfl⟩ := List.getElem_of_mem hu
    obtain ⟨B, C, e1, _⟩ := k3 i (by omega)
    rw [List.getElem?_eq_getElem hi'] at e1
    rw [Option.some.inj e1]; rfl
  · intro A' c' w' h3 h4
    refine h A' c' w' ⟨_, by rw [List.length_append]; exact h3, fun i hi => ?_⟩ (own_below h4 h1 hbase)
    rw [List.length_append] at hi
    rcases Nat.lt_or_ge i L.length with hl | hl
    · obtain ⟨B, C, e1, q, m1, m2, m3⟩ := h2 i hl
      have hst := inn_grown hte hbase h1 h4 (m3.up h21)
      have hg : gg (L ++ L2) i = gg L i := by simp only [gg, List.getD_eq_getElem?_getD]; rw [List.getElem?_append_left hl]
      rw [hg, List.getElem?_append_left (by omega)]
      exact ⟨B, C, e1, hQ _ _ _ _ h4.size hst q, m1, m2, m3.stay hst⟩
    · obtain ⟨B, C, e1, q, m1, m2, m3⟩ := k3 (i - L.length) (by omega)
      have hst := inn_grown hte hbase h1 h4 (m3.up h21)
      have hg : gg (L ++ L2) i = gg L2 (i - L.length) := by simp only [gg, List.getD_eq_getElem?_getD]; rw [List.getElem?_append_right hl]
      rw [hg, List.getElem?_append_right (by omega), hvl]
      exact ⟨B, C, e1, hQ _ _ _ _ h4.size hst q, m1, m2, m3.stay hst⟩
/-- the same with the lengths named -/
theorem wpList_append_manysN {α : Type} {Q' : World → Option Addr → List α → Prop} (hQ : QStay Q') {w : World} {ops : Array Oper} {rest : List Oper} {o : Oper} {a : Act} {Q : Exit → Act → World → Prop} (hgd : o.guard = none) (s x : Operand) (tt t e : TypeId)
    (ho : o.op = .call { callee := .builtin .append, args := #[s, x], argTypes := #[tt, tt] }) (ht : Tryz.prog.underlying tt = some (.slice t)) (hi : (Tryz.prog.info? t).map (fun i => (i.zero, i.size, i.bytes)) = some (some (.slice none 0 0), 1, 24)) (hte : t ≠ e)
    (b1 b2 : Nat) (h21 : b2 ≤ b1) (A : Option Addr) (c : Nat) (L : List (List α)) (m1 : Nat) (hm1 : L.length = m1) (hs : a.eval s = .slice A m1 c) (hown : OM2 Q' t e w b1 b2 A c L)
    (A2 : Option Addr) (c2 : Nat) (L2 : List (List α)) (m2 : Nat) (hm2 : L2.length = m2) (hx : a.eval x = .slice A2 m2 c2) (hW : MW Q' e w b2 A2 L2) (hn : m1 + m2 ≤ 1000000) (hbase : b1 ≤ w.heap.size) (R : List (List α)) (hR : L ++ L2 = R) (m : Nat) (hm : R.length = m)
    (h : ∀ A' c' w', OM2 Q' t e w' b1 b2 A' c' R → Below b1 w w' → wpList Tryz.prog ops Q rest (a.put o.dst (.slice A' m c')) w') : wpList Tryz.prog ops Q (o :: rest) a w := by
  subst hR hm1 hm2 hm
  refine wpList_append_manys hQ hgd s x tt t e ho ht hi hte b1 b2 h21 A c L hs hown A2 c2 L2 hx hW hn hbase ?_
  intro A' c' w' k1 k2
  have := h A' c' w' k1 k2
  rwa [List.length_append] at this
theorem OM2.many {α : Type} {Q : World → Option Addr → List α → Prop} {t e : TypeId} {w : World} {b1 b2 c : Nat} {A : Option Addr} {L : List (List α)} (h : OM2 Q t e w b1 b2 A c L) (hb : b2 ≤ b1) : OMany Q t e w b2 A c L := by
  obtain ⟨vs, h1, h2⟩ := h
  exact ⟨vs, own_mono h1 hb, h2⟩
theorem OMany.two {α : Type} {Q : World → Option Addr → List α → Prop} {t e : TypeId} {w : World} {base c : Nat} {A : Option Addr} {L : List (List α)} (h : OMany Q t e w base A c L) : ∃ vs : List Value, vs.length = L.length ∧ w.ownsRow base t 1 (.slice A L.length c) L.length vs ∧ ∀ i, i < L.length → ∃ B C, vs[i]? = some (.slice B (gg L i).length C) ∧ Q w B (gg L i) ∧ (gg L i).length ≤ C ∧ C ≤ maxLen ∧ Inn w base e B := by
  obtain ⟨vs, h1, h2⟩ := h
  exact ⟨vs, by have := h1.1; simpa using this, h1, h2⟩
theorem OM2.up {α : Type} {Q : World → Option Addr → List α → Prop} {t e : TypeId} {w : World} {b1 b2 c : Nat} {A : Option Addr} {L : List (List α)} (h : OM2 Q t e w b1 b2 A c L) (hb : b2 ≤ b1) : OMany Q t e w b1 A c L := by
  obtain ⟨vs, h1, h2⟩ := h
  refine ⟨vs, h1, fun i hi => ?_⟩
  obtain ⟨B, C, e1, q, m1, m2, m3⟩ := h2 i hi
  exact ⟨B, C, e1, q, m1, m2, m3.up hb⟩
/-- behind a taking Get -/
theorem rget_end {w w2 w4 : World} {base p : Nat} {g : Option Nat} {L : List (List Va)} {k c4 : Nat} {A4 B : Option Addr} {l : List Va} {v0 v : Value} (hk : k < L.length) (hS : RSp w base p g L) (hb2 : Below w.heap.size w w2) (hb24 : Below w2.heap.size w2 w4)
    (P2 : AtB w2 p #[v0] 74) (P4 : AtB w4 p #[v] 74) (hO : OM2 Vals 32 31 w4 w2.heap.size base A4 c4 (L.eraseIdx k)) (hV : Vals w2 B l) (hI : Inn w2 base 31 B) :
    Vals (w4.setCell ⟨p, 0, none⟩ (.slice A4 (L.length - 1) c4)) B l ∧ Inn (w4.setCell ⟨p, 0, none⟩ (.slice A4 (L.length - 1) c4)) base 31 B ∧ ∃ g', RSp (w4.setCell ⟨p, 0, none⟩ (.slice A4 (L.length - 1) c4)) base p g' (L.eraseIdx k) ∧ Chs (RM p g) w (w4.setCell ⟨p, 0, none⟩ (.slice A4 (L.length - 1) c4)) ∧ Nwb g g' w.heap.size := by
  have hbz : base ≤ w2.heap.size := Nat.le_trans hS.hb hb2.size
  have hlen : (L.eraseIdx k).length = L.length - 1 := List.length_eraseIdx_of_lt hk
  have hs := rsp_store (c := c4) P4 hS.hp (Nat.le_trans hbz hb24.size) (hO.many hbz) rfl (by have := hS.len; omega) (fun l hl => hS.ok l (List.mem_of_mem_eraseIdx hl))
  rw [hlen] at hs
  have hz := ((Below.refl 0 w4).setCell (p := ⟨p, 0, none⟩) (Nat.zero_le _) (.slice A4 (L.length - 1) c4)).size
  have hst : ∀ a, B = some a → (w4.setCell ⟨p, 0, none⟩ (.slice A4 (L.length - 1) c4)).heap[a.block]? = w2.heap[a.block]? := fun a ha => by
    refine (Below.heap_setCell w4 ⟨p, 0, none⟩ _ a.block ?_).trans (hb24.block _ (hI.lt hbz ha))
    intro he
    rcases hI a ha with h | h
    · have := hS.hp; simp at he; omega
    · exact kin_ne h P2.kin (by decide) he
  refine ⟨vals_stay _ _ _ _ (Nat.le_trans hb24.size hz) hst hV, hI.stay hst, _, hs, ?_, ?_⟩
  · exact (Chs.of_below _ (bcl hb2 hb24)).trans (Chs.set w4 ⟨p, 0, none⟩ _) (fun b hb => .inl (.inl hb))
  · intro b hb
    exact .inr (Nat.le_trans hb2.size ((hO.up hbz).gkin (by rw [hlen]; exact hb)).1)
theorem gg_take {α : Type} {L : List (List α)} {k i : Nat} (h : i < k) : gg (L.take k) i = gg L i := by simp only [gg, List.getD_eq_getElem?_getD, List.getElem?_take]; rw [if_pos h]
theorem gg_drop {α : Type} {L : List (List α)} {k i : Nat} : gg (L.drop k) i = gg L (k + i) := by simp only [gg, List.getD_eq_getElem?_getD, List.getElem?_drop]
/-- the first k of what is owned -/
theorem OMany.first {α : Type} {Q : World → Option Addr → List α → Prop} {t e : TypeId} {w : World} {base c : Nat} {A : Option Addr} {L : List (List α)} (h : OMany Q t e w base A c L) (k : Nat) (hk : k ≤ L.length) : MW Q e w base A (L.take k) := by
  obtain ⟨vs, hl, h1, h2⟩ := h.two
  have htl : (L.take k).length = k := by rw [List.length_take]; omega
  refine ⟨vs.take k, by rw [List.length_take, htl]; omega, fun h0 => ?_, fun i hi => ?_⟩
  · obtain ⟨g, cap, hv, _, hlt⟩ := h1.form (by omega)
    injection hv with hA
    refine ⟨g, 0, hA, fun j u hj => ?_⟩
    rw [List.getElem?_take] at hj
    split at hj
    · have := h1.cells (g := g) (by rw [hA]; rfl) j u hj
      rwa [Addr.add_lit] at this
    · cases hj
  · rw [htl] at hi
    obtain ⟨B, C, e1, q⟩ := h2 i (by omega)
    rw [gg_take hi, List.getElem?_take, if_pos hi]
    exact ⟨B, C, e1, q⟩
/-- what is behind the first k of what is owned -/
theorem OMany.behind {α : Type} {Q : World → Option Addr → List α → Prop} {t e : TypeId} {w : World} {base c g : Nat} {L : List (List α)} (h : OMany Q t e w base (some ⟨g, 0, none⟩) c L) (k : Nat) : MW Q e w base (some ⟨g, k, none⟩) (L.drop k) := by
  obtain ⟨vs, hl, h1, h2⟩ := h.two
  refine ⟨vs.drop k, by rw [List.length_drop, List.length_drop, hl], fun h0 => ⟨g, k, rfl, fun j u hj => ?_⟩, fun i hi => ?_⟩
  · rw [List.getElem?_drop] at hj
    have := h1.cells (g := g) rfl (k + j) u hj
    rwa [Addr.add_lit, Nat.zero_add] at this
  · rw [List.length_drop] at hi
    obtain ⟨B, C, e1, q⟩ := h2 (k + i) (by omega)
    rw [gg_drop, List.getElem?_drop]
    exact ⟨B, C, e1, q⟩
theorem MW.none {α : Type} {Q : World → Option Addr → List α → Prop} {e : TypeId} {w : World} {b2 : Nat} {A : Option Addr} : MW Q e w b2 A ([] : List (List α)) := ⟨[], rfl, fun h => absurd h (by simp), fun i hi => absurd hi (by simp)⟩
theorem OM2.nil {α : Type} {Q : World → Option Addr → List α → Prop} {t e : TypeId} {w : World} {b1 b2 : Nat} : OM2 Q t e w b1 b2 none 0 [] := ⟨[], ⟨rfl, .inl ⟨rfl, rfl⟩⟩, fun i hi => absurd hi (by simp)⟩
theorem erase_eq {α : Type} (L : List α) (k : Nat) : L.take k ++ L.drop (k + 1) = L.eraseIdx k := (List.eraseIdx_eq_take_drop_succ L k).symm
set_option maxHeartbeats 800000 in
set_option maxRecDepth 100000 in
theorem rget_no (base p : Nat) (g : Option Nat) (L : List (List Va)) (A : Option Addr) (c : Nat) (a : List Va) (hm : a.length ≤ maxLen) (hok : okL a) (w : World) (hS : RSp w base p g L) (hA : Vals w A a) (x : Bool) (h : finE a L ≠ 0) :
    Calls Tryz.prog 34 #[.pointer (some ⟨p, 0, none⟩), .slice A a.length c, .bool x] w fun e w' => e = .returned (.tuple #[.slice none 0 0, .int .i64 (finE a L)]) ∧ Below w.heap.size w w' := by
  have c1 := rlike_any A c a hm hok w hA
  by_cases h1 : liE a = 0
  · have hv : finE a L = 5 ∧ plc a L < 0 := by
      unfold finE at h ⊢
      rw [if_neg (by simp [h1])] at h ⊢
      split
      · rename_i h2; exact ⟨rfl, h2⟩
      · rename_i h2; rw [if_neg h2] at h; exact absurd rfl h
    obtain ⟨hv, hp⟩ := hv
    rw [hv]
    rw [h1] at c1
    obtain ⟨E, n, q1, q2, q3⟩ := hS.there
    have hl := hS.len
    have c2 := fun (W : World) (hb : Below w.heap.size w W) => rfirst_any p A c a hm E n L (by unfold maxLen; omega) W (hA.below hb (Nat.le_refl _)) (many_below q3.many hb) ((q1.below hb q1.lt).cell (i := 0) rfl)
    have hq := decide_eq_true hp
    generalize plc a L = z at *
    have C1 := Lib.hid c1; have C2 := Lib.hid c2; clear c1 c2 h hv hp q1 q2 q3 h1
    go_enter Tryz.func34, Tryz.ntmps34
    go_wp2_with (first | (go_at_call 28; refine C1.out.mono ?_; rintro e w1 ⟨rfl, hb1⟩) | (go_at_call 57; refine (C2.out _ hb1).mono ?_; rintro e w2 ⟨rfl, hb2⟩))
    go_ret2
    exact ⟨rfl, (by repeat (first | exact Below.refl _ _ | assumption | refine bal ?_ _ | refine bdn ?_ _ | refine bdr ?_ | refine bcl ?_ (by assumption)))⟩
  · have hv : finE a L = liE a := by rw [finE, if_pos h1]
    have hq : (liE a != 0) = true := by simp [h1]
    rw [hv]
    generalize liE a = E at *
    have C1 := Lib.hid c1; clear c1 h hv h1
    go_enter Tryz.func34, Tryz.ntmps34
    go_wp2_with (first | (go_at_call 28; refine C1.out.mono ?_; rintro e w1 ⟨rfl, hb1⟩))
    go_ret2
    exact ⟨rfl, (by repeat (first | exact Below.refl _ _ | assumption | refine bal ?_ _ | refine bdn ?_ _ | refine bdr ?_ | refine bcl ?_ (by assumption)))⟩
set_option maxHeartbeats 800000 in
set_option maxRecDepth 100000 in
theorem rget_read (base p : Nat) (g : Option Nat) (L : List (List Va)) (A : Option Addr) (c : Nat) (a : List Va) (hm : a.length ≤ maxLen) (hok : okL a) (w : World) (hS : RSp w base p g L) (hA : Vals w A a) (k : Nat) (hk : k < L.length) (hpk : plc a L = (k : Int)) (h : finE a L = 0) :
    Calls Tryz.prog 34 #[.pointer (some ⟨p, 0, none⟩), .slice A a.length c, .bool false] w fun e w' => ∃ B C, e = .returned (.tuple #[.slice B (gg L k).length C, .int .i64 0]) ∧ Vals w' B (gg L k) ∧ (gg L k).length ≤ C ∧ C ≤ maxLen ∧ Inn w' base 31 B ∧ Below w.heap.size w w' := by
  have c1 := rlike_any A c a hm hok w hA
  obtain ⟨h1, _⟩ := fin_zero h
  rw [h1] at c1
  obtain ⟨E, n, q1, q2, q3⟩ := hS.there
  have hl := hS.len
  have c2 := fun (W : World) (hb : Below w.heap.size w W) => rfirst_any p A c a hm E n L (by unfold maxLen; omega) W (hA.below hb (Nat.le_refl _)) (many_below q3.many hb) ((q1.below hb q1.lt).cell (i := 0) rfl)
  rw [hpk] at c2
  have C1 := Lib.hid c1; have C2 := Lib.hid c2; have HS := Lib.hid hS; have Q1 := Lib.hid q1; have Q3 := Lib.hid q3; clear c1 c2 h hpk q1 q2 q3 h1 hS
  go_enter Tryz.func34, Tryz.ntmps34
  go_wp2_with (first | (go_at_call 28; refine C1.out.mono ?_; rintro e w1 ⟨rfl, hb1⟩) | (go_at_call 57; refine (C2.out _ hb1).mono ?_; rintro e w2 ⟨rfl, hb2⟩; have hb2 := bcl hb1 hb2; have k0 := (Q1.out.below hb2 Q1.out.lt).cell (i := 0) rfl; obtain ⟨b, B, C, rfl, hcc, hv, hC1, hC2, hin⟩ := (Q3.out.keep vals_stay HS.out.hb hb2).vat hk; have HV := Lib.hid hv; have HIN := Lib.hid hin; clear hv hin))
  go_ret2
  exact ⟨B, C, rfl, HV.out, hC1, hC2, HIN.out, hb2⟩
set_option maxHeartbeats 1600000 in
set_option maxRecDepth 100000 in
theorem rget_take (base p : Nat) (g : Option Nat) (L : List (List Va)) (A : Option Addr) (c : Nat) (a : List Va) (hm : a.length ≤ maxLen) (hok : okL a) (w : World) (hS : RSp w base p g L) (hA : Vals w A a) (k : Nat) (hk : k < L.length) (hpk : plc a L = (k : Int)) (h : finE a L = 0) :
    Calls Tryz.prog 34 #[.pointer (some ⟨p, 0, none⟩), .slice A a.length c, .bool true] w fun e w' => ∃ B C g', e = .returned (.tuple #[.slice B (gg L k).length C, .int .i64 0]) ∧ Vals w' B (gg L k) ∧ (gg L k).length ≤ C ∧ C ≤ maxLen ∧ Inn w' base 31 B ∧ RSp w' base p g' (L.eraseIdx k) ∧ Chs (RM p g) w w' ∧ Nwb g g' w.heap.size := by
  have c1 := rlike_any A c a hm hok w hA
  obtain ⟨h1, _⟩ := fin_zero h
  rw [h1] at c1
  obtain ⟨E, n, q1, q2, q3⟩ := hS.there
  have hl := hS.len
  have hcap := q3.cap
  have c2 := fun (W : World) (hb : Below w.heap.size w W) => rfirst_any p A c a hm E n L (by unfold maxLen; omega) W (hA.below hb (Nat.le_refl _)) (many_below q3.many hb) ((q1.below hb q1.lt).cell (i := 0) rfl)
  rw [hpk] at c2
  have C1 := Lib.hid c1; have C2 := Lib.hid c2; have HS := Lib.hid hS; have Q1 := Lib.hid q1; have Q3 := Lib.hid q3; have HCP := Lib.hid hcap
  obtain ⟨gb, B0, C0, rfl, _⟩ := q3.vat hk
  have htl : (L.take k).length = k := by rw [List.length_take]; omega
  have hdl : (L.drop (k + 1)).length = L.length - (k + 1) := by rw [List.length_drop]
  have HTL := Lib.hid htl; have HDL := Lib.hid hdl
  have hn9 : n ≤ 9223372036854775807 := by have := hcap.2; unfold maxLen at this; exact this
  have hln : L.length ≤ n := hcap.1
  clear c1 c2 h hpk q1 q3 h1 hS htl hdl hcap
  have hel : (L.eraseIdx k).length = L.length - 1 := List.length_eraseIdx_of_lt hk
  have HEL := Lib.hid hel; clear hel
  by_cases hck : n = k + 1
  · have hdr : L.drop (k + 1) = [] := List.drop_eq_nil_of_le (by omega)
    have HDR := Lib.hid hdr; clear hdr
    go_enter Tryz.func34, Tryz.ntmps34
    go_wp2_with (first | (go_at_call 28; refine C1.out.mono ?_; rintro e w1 ⟨rfl, hb1⟩) | (go_at_call 57; refine (C2.out _ hb1).mono ?_; rintro e w2 ⟨rfl, hb2⟩; have hb2 := bcl hb1 hb2; have P2 := Q1.out.below hb2 Q1.out.lt; have k0 := P2.cell (i := 0) rfl; have HP2 := Lib.hid P2; clear P2; have hO2 := Q3.out.keep vals_stay HS.out.hb hb2; have hbz := Nat.le_trans HS.out.hb hb2.size; have HBZ := Lib.hid hbz; clear hbz; obtain ⟨b, B, C, hAb, hcc, hv, hC1, hC2, hin⟩ := hO2.vat hk; injection hAb with hAb; injection hAb with hAb; subst hAb; have HV := Lib.hid hv; have HIN := Lib.hid hin; have HO2 := Lib.hid hO2; clear hv hin hO2) | (at_builtin; refine wpList_append_manysN vals_stay rfl _ _ 72 32 31 rfl Tryz.underlying72 infoVals (by decide) w2.heap.size base HBZ.out none 0 [] 0 rfl rfl OM2.nil (some ⟨gb, 0, none⟩) _ (L.take k) k HTL.out rfl (HO2.out.first k (by omega)) (by omega) (Nat.le_refl _) (L.take k) rfl k HTL.out ?_; intro A3 c3 w3 ho3 hb3; have P3 := HP2.out.below hb3 HP2.out.lt; have k3 := P3.cell (i := 0) rfl; have HP3 := Lib.hid P3; clear P3; have HO3 := Lib.hid ho3; clear ho3) | (at_builtin; refine wpList_append_manysN vals_stay rfl _ _ 72 32 31 rfl Tryz.underlying72 infoVals (by decide) w2.heap.size base HBZ.out A3 c3 (L.take k) k HTL.out rfl HO3.out (some ⟨gb, 0, none⟩) _ (L.drop (k + 1)) (L.length - (k + 1)) HDL.out rfl (by rw [HDR.out]; exact MW.none) (by omega) hb3.size (L.eraseIdx k) (erase_eq L k) (L.length - 1) HEL.out ?_; intro A4 c4 w4 ho4 hb4; have P4 := HP2.out.below (hb3.trans hb4) HP2.out.lt; have k4 := P4.cell (i := 0) rfl; have f4 := P4.frozen 0; have HP4 := Lib.hid P4; clear P4; have HO4 := Lib.hid ho4; clear ho4))
    go_ret2
    obtain ⟨e1, e2, g', e3, e4, e5⟩ := rget_end hk HS.out hb2 (hb3.trans hb4) HP2.out HP4.out HO4.out HV.out HIN.out
    exact ⟨B, C, g', rfl, e1, hC1, hC2, e2, e3, e4, e5⟩
  · go_enter Tryz.func34, Tryz.ntmps34
    go_wp2_with (first | (go_at_call 28; refine C1.out.mono ?_; rintro e w1 ⟨rfl, hb1⟩) | (go_at_call 57; refine (C2.out _ hb1).mono ?_; rintro e w2 ⟨rfl, hb2⟩; have hb2 := bcl hb1 hb2; have P2 := Q1.out.below hb2 Q1.out.lt; have k0 := P2.cell (i := 0) rfl; have HP2 := Lib.hid P2; clear P2; have hO2 := Q3.out.keep vals_stay HS.out.hb hb2; have hbz := Nat.le_trans HS.out.hb hb2.size; have HBZ := Lib.hid hbz; clear hbz; obtain ⟨b, B, C, hAb, hcc, hv, hC1, hC2, hin⟩ := hO2.vat hk; injection hAb with hAb; injection hAb with hAb; subst hAb; have HV := Lib.hid hv; have HIN := Lib.hid hin; have HO2 := Lib.hid hO2; clear hv hin hO2) | (at_builtin; refine wpList_append_manysN vals_stay rfl _ _ 72 32 31 rfl Tryz.underlying72 infoVals (by decide) w2.heap.size base HBZ.out none 0 [] 0 rfl rfl OM2.nil (some ⟨gb, 0, none⟩) _ (L.take k) k HTL.out rfl (HO2.out.first k (by omega)) (by omega) (Nat.le_refl _) (L.take k) rfl k HTL.out ?_; intro A3 c3 w3 ho3 hb3; have P3 := HP2.out.below hb3 HP2.out.lt; have k3 := P3.cell (i := 0) rfl; have HP3 := Lib.hid P3; clear P3; have HO3 := Lib.hid ho3; clear ho3) | (at_builtin; refine wpList_append_manysN vals_stay rfl _ _ 72 32 31 rfl Tryz.underlying72 infoVals (by decide) w2.heap.size base HBZ.out A3 c3 (L.take k) k HTL.out rfl HO3.out (some ⟨gb, k + 1, none⟩) _ (L.drop (k + 1)) (L.length - (k + 1)) HDL.out rfl ((HO2.out.keep vals_stay HBZ.out hb3).behind (k + 1)) (by omega) hb3.size (L.eraseIdx k) (erase_eq L k) (L.length - 1) HEL.out ?_; intro A4 c4 w4 ho4 hb4; have P4 := HP2.out.below (hb3.trans hb4) HP2.out.lt; have k4 := P4.cell (i := 0) rfl; have f4 := P4.frozen 0; have HP4 := Lib.hid P4; clear P4; have HO4 := Lib.hid ho4; clear ho4))
    go_ret2
    obtain ⟨e1, e2, g', e3, e4, e5⟩ := rget_end hk HS.out hb2 (hb3.trans hb4) HP2.out HP4.out HO4.out HV.out HIN.out
    exact ⟨B, C, g', rfl, e1, hC1, hC2, e2, e3, e4, e5⟩
end Go.Proofs.YtfelefkmbbfdjaaGreatDoor
