/- Package rule: Own; package mirror: New. -/
import Derived.Test.YthkaaheeblehhaaDoorCpMem
import Derived.Test.YthkaaheeblehhaaDoorCpPure2
import Derived.Deep.RegionHeld3
namespace Go.Proofs.YthkaaheeblehhaaDoor
open Go.ChangeShapes Go.WideShapes Go.ChangeAt Go.RowKit Go.Maps Go.WideMaps
set_option linter.unusedVariables false

/-- a cell of a window is stored to -/
theorem Win.setW {w : World} {base k n c : Nat} {e : TypeId} {xs : List Value} {A : Option Addr} {g off : Nat} (h : Win w base e k (.slice A n c) n xs) (hA : A = some ⟨g, off, none⟩) {j : Nat} (hj : j < xs.length) (u : Value) :
    Win (w.setCell ⟨g, off + j, none⟩ u) base e k (.slice A n c) n (xs.set j u) := by
  refine ⟨by rw [List.length_set]; exact h.1, ?_⟩
  rcases h.2 with ⟨h1, _⟩ | ⟨g', off', c', h1, h2, ⟨cur, h3⟩, h4, h5, h6, h7⟩
  · injection h1 with h1; rw [hA] at h1; cases h1
  · injection h1 with h1 _ hc
    rw [hA] at h1
    injection h1 with h1; injection h1 with e1 e2
    subst e1; subst e2; subst hc
    have hs := h7 j (by have := h.1; have := Nat.mul_le_mul_right k h4; omega)
    have hcell : ∀ i, (w.setCell ⟨g, off + j, none⟩ u).cell? ⟨g, off + i, none⟩ = if i = j then some u else w.cell? ⟨g, off + i, none⟩ := fun i => by
      have hB : AtB w g cur e := h3
      have h8 : (w.setCell ⟨g, off + j, none⟩ u).cell? ⟨g, off + i, none⟩ = (cur.setIfInBounds (off + j) u)[off + i]? := cell_of_row _ g (off + i) _ e (0, 0) (hB.set (off + j) u)
      have h9 : ∀ q, w.cell? ⟨g, q, none⟩ = cur[q]? := fun q => cell_of_row w g q cur e (0, 0) h3
      rw [h8, h9]
      rw [h9] at hs
      have hlt : off + j < cur.size := by
        rcases Nat.lt_or_ge (off + j) cur.size with h | h
        · exact h
        · rw [Array.getElem?_eq_none h] at hs; cases hs
      rw [Array.getElem?_setIfInBounds]
      by_cases hij : i = j
      · subst hij; rw [if_pos rfl, if_pos rfl, if_pos hlt]
      · rw [if_neg (by omega), if_neg hij]
    refine .inr ⟨g, off, c, by rw [hA], h2, ⟨_, (show AtB w g cur e from h3).set (off + j) u⟩, h4, h5, fun i v hi => ?_, fun i hi => ?_⟩
    · rw [hcell]
      rw [List.getElem?_set] at hi
      by_cases hij : j = i
      · subst hij; rw [if_pos rfl, if_pos hj] at hi; rw [if_pos rfl]; exact hi
      · rw [if_neg hij] at hi; rw [if_neg (Ne.symm hij)]; exact h6 i v hi
    · rw [hcell]
      split
      · rfl
      · exact h7 i hi
theorem rxCells_like : ∀ (X : List Rx) (i : Nat) (A : Option Addr) (c : Nat), i < X.length → rxCells (X.set i ((rx X i).1, A, c)) = (rxCells X).set (i * 4 + 2) (.slice A (rx X i).1.a.length c)
  | x :: X, 0, A, c, _ => by simp [rxCells, rx, rxv]
  | x :: X, i + 1, A, c, h => by
    have := rxCells_like X i A c (by simpa using h)
    have e1 : rx (x :: X) (i + 1) = rx X i := by simp [rx]
    rw [e1, List.set_cons_succ]
    simp only [rxCells, List.flatMap_cons] at this ⊢
    rw [this, List.set_append_right _ _ (by simp [rxv]; omega)]
    congr 2
    simp [rxv]; omega
theorem rx_like_map (X : List Rx) (i : Nat) (A : Option Addr) (c : Nat) : (X.set i ((rx X i).1, A, c)).map (·.1) = X.map (·.1) := by
  rw [List.map_set]
  refine List.ext_getElem? fun j => ?_
  rw [List.getElem?_set]
  split
  · rename_i h; subst h
    split
    · rename_i h; simp at h; simp [rx, h]
    · rename_i h; simp at h; simp [h]
  · rfl
theorem ORX.empty (w : World) {g : Nat} (hg : g = w.heap.size) {base : Nat} (hb : base ≤ w.heap.size) : ORX (w.alloc (.cells #[] 42)) base (some ⟨g, 0, none⟩) 0 [] := by
  subst hg
  exact ⟨⟨rfl, .inr ⟨w.heap.size, 0, #[], rfl, hb, heap_alloc_new w _, Nat.le_refl _, by decide, rfl, rfl⟩⟩, fun x h => by simp at h⟩
theorem Vin.up {w : World} {base b2 : Nat} {A : Option Addr} {t : List Va} (h : Vin w base A t) (hb : base ≤ b2) : Vin w b2 A t :=
  ⟨h.1, fun h0 a ha => (h.2 h0 a ha).elim (fun k => .inl (by omega)) .inr⟩
/-- a slice of rules of the call's own, at g -/
structure RW (w : World) (base b2 : Nat) (A : Option Addr) (c : Nat) (X : List Rx) : Prop where
  win : ∃ g, A = some ⟨g, 0, none⟩ ∧ Win w b2 42 4 (.slice A X.length c) X.length (rxCells X)
  el : ∀ x ∈ X, Rxin w base x
theorem RW.keep {w w' : World} {base b2 c : Nat} {A : Option Addr} {X : List Rx} (h : RW w base b2 A c X) (hb : base ≤ w.heap.size) (k : Below w.heap.size w w') : RW w' base b2 A c X := by
  obtain ⟨g, e, h1⟩ := h.win
  exact ⟨⟨g, e, h1.keep k⟩, fun x hx => (h.el x hx).below hb k⟩
theorem RW.own {w : World} {base b2 c : Nat} {A : Option Addr} {X : List Rx} (h : RW w base b2 A c X) (hb : base ≤ b2) : ROwn w base A c (X.map (·.1)) := by
  obtain ⟨g, e, h1⟩ := h.win
  refine .inr ⟨X, rfl, ⟨h1.1, ?_⟩, h.el⟩
  rcases h1.2 with h2 | ⟨g', off', c', q1, q2, q3⟩
  · exact .inl h2
  · exact .inr ⟨g', off', c', q1, Nat.le_trans hb q2, q3⟩
/-- the rule at a place is given another list -/
theorem RW.set {w : World} {base b2 g c : Nat} {X : List Rx} (h : RW w base b2 (some ⟨g, 0, none⟩) c X) (hb : base ≤ b2) (hbs : b2 ≤ w.heap.size) {i : Nat} (hi : i < X.length) {B : Option Addr} {C : Nat} (hv : Rxin w base ((rx X i).1, B, C)) :
    RW (w.setCell ⟨g, i * 4 + 2, none⟩ (.slice B (rx X i).1.a.length C)) base b2 (some ⟨g, 0, none⟩) c (X.set i ((rx X i).1, B, C)) := by
  obtain ⟨g', e, h1⟩ := h.win
  obtain rfl : g = g' := by injection e with e; injection e
  have hk := h1.block (g := g) rfl
  have hc : Chs (fun b => b = g) w (w.setCell ⟨g, i * 4 + 2, none⟩ (.slice B (rx X i).1.a.length C)) := Chs.set w ⟨g, i * 4 + 2, none⟩ _
  have hM : ∀ b, b = g → base ≤ b ∧ ¬ kin w b 40 := fun b hb' => by subst hb'; exact ⟨Nat.le_trans hb hk.1, fun k => absurd (kin.ne k hk.2) (by decide)⟩
  refine ⟨⟨g, rfl, ?_⟩, fun x hx => ?_⟩
  · have h2 := h1.setW (j := i * 4 + 2) rfl (by rw [rxCells_length]; omega) (.slice B (rx X i).1.a.length C)
    rw [show (0 : Nat) + (i * 4 + 2) = i * 4 + 2 by omega] at h2
    rw [List.length_set, rxCells_like X i B C hi]; exact h2
  · rcases List.mem_or_eq_of_mem_set hx with hx | rfl
    · exact (h.el x hx).chs (Nat.le_trans hb hbs) hc hM
    · exact hv.chs (Nat.le_trans hb hbs) hc hM
set_option maxHeartbeats 800000 in
set_option maxRecDepth 100000 in
theorem ruclone_any {w : World} {base : Nat} (hb : base ≤ w.heap.size) (A : Option Addr) (c : Nat) (X : List Rx) (hX : RX w base A X) (h8 : X.length ≤ 1000000) :
    Calls Tryd.prog 79 #[.slice A X.length c] w fun e w' => ∃ A' c', e = .returned (.slice A' X.length c') ∧ (X = [] ∨ RW w' base w.heap.size A' c' X) ∧ Below w.heap.size w w' := by
  have hnil := fun w a => Lib.run_eql_slice_nil (P := Tryd.prog) w 37 42 a X.length c 0 0 Tryd.underlying37
  cases A with
  | none =>
    have h0 : X = [] := by
      rcases Nat.eq_zero_or_pos X.length with h | h
      · exact List.eq_nil_of_length_eq_zero h
      · obtain ⟨b, off, e, _⟩ := hX.1 h; cases e
    have hn : ∀ W, (binOp .eql 37 (.slice none X.length c) (.slice none 0 0)).run Tryd.prog W = .ok (.bool true) W := fun W => hnil W none
    have H0 := Lib.hid h0
    clear hnil h0 hX
    go_enter Tryd.func79, Tryd.ntmps79
    go_wp2_with fail
    go_ret
    exact ⟨none, 0, by rw [H0.out]; rfl, .inl H0.out, (by repeat (first | exact Below.refl _ _ | assumption | refine bal ?_ _ | refine bdn ?_ _ | refine bdr ?_ | refine bcl ?_ (by assumption)))⟩
  | some a =>
    have hn : ∀ W, (binOp .eql 37 (.slice (some a) X.length c) (.slice none 0 0)).run Tryd.prog W = .ok (.bool false) W := fun W => hnil W (some a)
    clear hnil
    have hX2 : RX (w.alloc (.cells #[] 42)) w.heap.size (some a) X := by
      have h1 : RX w w.heap.size (some a) X := ⟨hX.1, fun x hx => ⟨(hX.2 x hx).1.up hb, (hX.2 x hx).2⟩⟩
      exact h1.below (Nat.le_refl _) (bal1 _ _)
    have HX := Lib.hid hX; have HX2 := Lib.hid hX2
    clear hX hX2
    go_enter Tryd.func79, Tryd.ntmps79
    go_wp2_with (at_builtin; refine wpList_append_rules rfl _ _ rfl w.heap.size (some ⟨w.heap.size, 0, none⟩) 0 [] rfl (ORX.empty w rfl (Nat.le_refl _)) (some a) c X rfl HX2.out (by simp; omega) (by simp) ?_; intro A1 c1 w1 ho1 hb1)
    go_wp2_with fail
    go_ret
    have hbw := (bal1 w (.cells #[] 42)).trans hb1
    refine ⟨A1, c1, by simp, ?_, hbw⟩
    rcases Nat.eq_zero_or_pos X.length with h | h
    · exact .inl (List.eq_nil_of_length_eq_zero h)
    · simp only [List.nil_append] at ho1
      obtain ⟨g, cap, e, hg, _⟩ := ho1.1.form h
      have hA : A1 = some ⟨g, 0, none⟩ := by injection e
      exact .inr ⟨⟨g, hA, Win.own ho1.1 (Nat.le_refl _)⟩, fun x hx => (HX.out.2 x hx).below hb hbw⟩
set_option maxHeartbeats 1600000 in
set_option maxRecDepth 100000 in
theorem ruown_any {w : World} {base : Nat} (hb : base ≤ w.heap.size) (A : Option Addr) (c : Nat) (X : List Rx) (hX : RX w base A X) (h8 : X.length ≤ 8) (h5 : ∀ x ∈ X, 0 < x.1.a.length ∧ x.1.a.length ≤ 5) :
    Calls Tryd.prog 41 #[.slice A X.length c] w fun e w' => ∃ A' c', e = .returned (.slice A' X.length c') ∧ ROwn w' base A' c' (X.map (·.1)) ∧ Below w.heap.size w w' := by
  have cc := ruclone_any hb A c X hX (by omega)
  have CC := Lib.hid cc; have H5 := Lib.hid h5
  clear cc hX h5
  go_enter Tryd.func41, Tryd.ntmps41
  go_wp2_with (go_at_call 79; refine CC.out.mono ?_; rintro e w1 ⟨A1, c1, rfl, hr1, hb1⟩; have HR1 := Lib.hid hr1; have HB1 := Lib.hid hb1; clear hr1 hb1)
  go_loopw [4, 5, 10] (fun _ _ s10 wr => ∃ (k : Nat) (Y : List Rx), k ≤ X.length ∧ s10 = .int .i64 k ∧ Y.length = X.length ∧ Y.map (·.1) = X.map (·.1) ∧ Hid (Y = [] ∨ RW wr base w.heap.size A1 c1 Y) ∧ Hid (Below w.heap.size w wr)) (fun _ _ s10 _ => X.length - (intOf s10).toNat)
  case atStart => exact ⟨0, X, Nat.zero_le _, rfl, rfl, rfl, HR1, HB1⟩
  case round =>
    obtain ⟨k, Y, hk, rfl, hYl, hYm, HR, HBL⟩ := hrel
    by_cases hlt : k < X.length
    · have hY0 : Y ≠ [] := fun e => by rw [e] at hYl; simp at hYl; omega
      have hw := HR.out.resolve_left hY0
      obtain ⟨g, rfl, hwin⟩ := hw.win
      have hYk : k < Y.length := by omega
      obtain ⟨b', o', e', hbg, hcs⟩ := (hwin.rxs fun x hx => ⟨(hw.el x hx).1.up hb, (hw.el x hx).2⟩).1 (by omega)
      obtain ⟨rfl, rfl⟩ : g = b' ∧ 0 = o' := by injection e' with e'; injection e' with e1 e2; exact ⟨e1, e2⟩
      have hru := ru_map hYk
      have d0 := hcs _ _ (rxCells_at Y k 0 hYk (by omega))
      have d1 := hcs _ _ (rxCells_at Y k 1 hYk (by omega))
      have d2 := hcs _ _ (rxCells_at Y k 2 hYk (by omega))
      have d3 := hcs _ _ (rxCells_at Y k 3 hYk (by omega))
      simp [ruc, hru] at d0 d1 d2 d3
      have hmem := rx_mem hYk
      have hin := hw.el _ hmem
      have hx5 := H5.out
      have hal : 0 < (rx Y k).1.a.length ∧ (rx Y k).1.a.length ≤ 5 := by
        have h1 : (rx Y k).1 ∈ Y.map (·.1) := List.mem_map.2 ⟨_, hmem, rfl⟩
        rw [hYm] at h1
        obtain ⟨z, hz, e⟩ := List.mem_map.1 h1
        rw [← e]; exact hx5 z hz
      have cl := fun (W : World) (hW : Below wr.heap.size wr W) => clone_any (rx Y k).2.1 (rx Y k).2.2 (rx Y k).1.a hal.1 (by omega) W (hin.1.1.below hW (Nat.le_refl _))
      have i0 : (0 : Int) ≤ (k : Int) := by omega
      have i1 : (k : Int) < (X.length : Nat) := by omega
      have hgz : g < wr.heap.size := hbg
      have CL := Lib.hid cl; have HW := Lib.hid hw; have HAL := Lib.hid hal
      have HYM := Lib.hid hYm
      clear cl hw hal hin hx5 hmem hru hwin hcs hYm e'
      go_wp2_with (go_at_call 56; refine (CL.out _ (bal1 _ _)).mono ?_; rintro e w2 ⟨A2, c2, rfl, ho2, hb2⟩; have hbx := bcl (bal1 wr (.cells #[.int .i64 (rx Y k).1.d, .int .i64 (rx Y k).1.o, .slice (rx Y k).2.1 (rx Y k).1.a.length (rx Y k).2.2, .bool (rx Y k).1.m] 42)) hb2; have e2 := (hbx.cell (p := ⟨g, k * 4 + 2, none⟩) hgz).trans d2; have f2 : w2.frozen? ⟨g, k * 4 + 2, none⟩ = false := by obtain ⟨g', e', hw2⟩ := (HW.out.keep (Nat.le_trans hb HBL.out.size) hbx).win; obtain ⟨cur, hk2⟩ := (hw2.block (g := g) rfl).2; simp [World.frozen?, hk2])
      go_roundw
      case rel =>
        have hw2 := HW.out.keep (Nat.le_trans hb HBL.out.size) hbx
        have hgb : w.heap.size ≤ g := by obtain ⟨g', e', hw3⟩ := hw2.win; exact (hw3.block (g := g) rfl).1
        have hz2 : w.heap.size ≤ w2.heap.size := Nat.le_trans HBL.out.size hbx.size
        have hset := hw2.set hb hz2 hYk (B := A2) (C := c2) ⟨⟨ho2.vals, fun _ => Inn.own (b2 := base) ho2⟩, ho2.cap⟩
        exact ⟨k + 1, Y.set k ((rx Y k).1, A2, c2), by omega, by go_num, by rw [List.length_set]; exact hYl, by rw [rx_like_map]; exact HYM.out, Lib.hid (.inr hset), Lib.hid (bset (bcl HBL.out hbx) hgb _)⟩
      case measure => simp [intOf]; omega
    · obtain rfl : k = X.length := by omega
      go_wp2_with fail
      go_ret
      refine ⟨A1, c1, rfl, ?_, HBL.out⟩
      rw [← hYm]
      rcases HR.out with h | h
      · exact .inl (by rw [h]; rfl)
      · exact h.own hb
theorem ROwn.keep {w w' : World} {base c : Nat} {A : Option Addr} {R : List Ru} (h : ROwn w base A c R) (hb : base ≤ w.heap.size) (k : Below w.heap.size w w') : ROwn w' base A c R := h.stay hb k.size fun b hb' _ => k.block b hb'
theorem ru_lens {X : List Rx} (h : rulE (X.map (·.1)) = 0) : X.length ≤ 8 ∧ ∀ x ∈ X, 0 < x.1.a.length ∧ x.1.a.length ≤ 5 := by
  obtain ⟨h8, h1⟩ := rulE_zero h
  rw [List.length_map] at h8 h1
  refine ⟨h8, fun x hx => ?_⟩
  obtain ⟨i, hi, rfl⟩ := List.mem_iff_getElem.1 hx
  have h2 := (oneE_zero (h1 i hi)).2.2
  have h3 := ru_map hi
  have h4 : rx X i = X[i] := by simp [rx, hi]
  rw [h3, h4] at h2
  exact ⟨(liE_zero h2).1, (liE_zero h2).2.1⟩
set_option maxHeartbeats 1600000 in
set_option maxRecDepth 100000 in
theorem cpnew_ok {w : World} {base : Nat} (hb : base ≤ w.heap.size) (A : Option Addr) (c : Nat) (X : List Rx) (hX : RX w base A X) (hr : rulE (X.map (·.1)) = 0) (ho : okR (X.map (·.1))) :
    Calls Tryd.prog 9 #[.slice A X.length c] w fun e w' => ∃ p q m, e = .returned (.tuple #[.pointer (some ⟨p, 0, none⟩), .nilIface]) ∧ Cpy w' base p q none m (X.map (·.1)) Cs.zero ∧ Below w.heap.size w w' ∧ w.heap.size ≤ p ∧ w.heap.size ≤ q ∧ w.heap.size ≤ m := by
  obtain ⟨h8, h5⟩ := ru_lens hr
  have hl : (X.map (·.1)).length = X.length := by simp
  have cr := rucheck_any A c (X.map (·.1)) (by unfold maxLen; omega) ho w hX.rls
  rw [hr, eV_zero, hl] at cr
  have co := fun (W : World) (hW : Below w.heap.size w W) => ruown_any (w := W) (base := base) (Nat.le_trans hb hW.size) A c X (hX.below hb hW) h8 h5
  have CR := Lib.hid cr; have CO := Lib.hid co; have HR := Lib.hid hr; have HO := Lib.hid ho; have HL := Lib.hid hl
  clear cr co hX hr ho h5 hl
  have hmm := @run_makeMap Tryd.prog
  go_enter Tryd.func9, Tryd.ntmps9
  go_wp2_with (first
    | (go_at_call 40; refine CR.out.mono ?_; rintro e w1 ⟨rfl, hb1⟩; have HB1 := Lib.hid hb1; clear hb1)
    | (go_at_call 41; refine (CO.out _ HB1.out).mono ?_; rintro e w2 ⟨A2, c2, rfl, ho2, hb2⟩; have HB2 := Lib.hid (bcl HB1.out hb2); have HO2 := Lib.hid ho2; clear hb2 ho2)
    | (go_at_call 20; refine (spnew w2).mono ?_; rintro e w3 ⟨rfl, hw3⟩; have HW3 := Lib.hid hw3; clear hw3))
  go_ret2
  have hb23 : Below w2.heap.size w2 w3 := by rw [HW3.out]; exact bal1 _ _
  have hbz : base ≤ w2.heap.size := Nat.le_trans hb HB2.out.size
  have hz23 : w3.heap.size = w2.heap.size + 1 := by rw [HW3.out]; simp
  have hs3 : Spc w3 base w2.heap.size none [] := by rw [HW3.out]; exact Spc.new w2 hbz
  have hb34 : Below w3.heap.size w3 (w3.alloc (.map #[] 0)) := bal1 _ _
  have hm4 := VMap.made w3 3 (dnv (0, ⟨#[]⟩))
  have hs4 := hs3.keep hb34
  have ho4 := (HO2.out.keep hbz hb23).keep (Nat.le_trans hbz hb23.size) hb34
  have hb45 : Below (w3.alloc (.map #[] 0)).heap.size (w3.alloc (.map #[] 0)) ((w3.alloc (.map #[] 0)).alloc (.cells #[.slice A2 X.length c2, .pointer (some ⟨w2.heap.size, 0, none⟩), .map (some w3.heap.size), .int .i64 0] 95)) := bal1 _ _
  have hp := AtB.new (w3.alloc (.map #[] 0)) #[.slice A2 X.length c2, .pointer (some ⟨w2.heap.size, 0, none⟩), .map (some w3.heap.size), .int .i64 0] 95
  have hz4 : (w3.alloc (.map #[] 0)).heap.size = w3.heap.size + 1 := by simp
  have hfin := bcl (bcl (bcl HB2.out hb23) hb34) hb45
  have hsz := HB2.out.size
  refine ⟨(w3.alloc (.map #[] 0)).heap.size, w2.heap.size, w3.heap.size, by simp, ⟨⟨A2, c2, by rw [HL.out]; exact hp, ho4.keep (by omega) hb45⟩, hs4.keep hb45, ⟨_, _, _, hm4.keep hb45, fun a => rfl⟩, by omega, by omega, HR.out, HO.out, Cok.zero⟩, hfin, by omega, by omega, by omega⟩
set_option maxHeartbeats 800000 in
theorem cpnew_no {w : World} (A : Option Addr) (c : Nat) (l : List Ru) (hm : l.length ≤ maxLen) (hA : Rls w A l) (hr : rulE l ≠ 0) (ho : okR l) :
    Calls Tryd.prog 9 #[.slice A l.length c] w fun e w' => e = .returned (.tuple #[.pointer none, errV (rulE l)]) ∧ Below w.heap.size w w' := by
  have cr := rucheck_any A c l hm ho w hA
  rw [eV_of hr] at cr
  have CR := Lib.hid cr
  clear cr hA ho hr hm
  generalize rulE l = E at *
  go_enter Tryd.func9, Tryd.ntmps9
  go_wp2_with (go_at_call 40; refine CR.out.mono ?_; rintro e w1 ⟨rfl, hb1⟩)
  go_ret2
  exact ⟨rfl, hb1⟩
end Go.Proofs.YthkaaheeblehhaaDoor
