/- Space.Take, and the outer array behind slices.Delete. -/
import Derived.Test.YtfelefkmbbfdjaaGreatDoorSpcDel
namespace Go.Proofs.YtfelefkmbbfdjaaGreatDoor
open Go.ChangeShapes Go.WideShapes Go.ChangeAt Go.RowKit Go.Sort Go.Lib
set_option linter.unusedVariables false

theorem heap_putRow (w : World) (g : Nat) (D : Array Value) (b : Nat) (h : b ≠ g) : (putRow id w g 0 D).heap[b]? = w.heap[b]? := by
  simp only [putRow, mapBlock, Array.getElem?_modify]
  rw [if_neg (fun e => h e.symm)]
theorem heap_putRow_at (w : World) (g : Nat) (D : Array Value) {cur : Array Value} {t : TypeId} {fr : Nat × Nat} (h : w.heap[g]? = some (.cells cur t fr)) : (putRow id w g 0 D).heap[g]? = some (.cells (putCells id 0 D cur) t fr) := by
  simp only [putRow, mapBlock, Array.getElem?_modify]
  rw [if_pos trivial, h]; rfl
theorem take_list {vs : List Value} {cur : Array Value} {i : Nat} (hi : i < vs.length) (hc : cur.toList.take vs.length = vs) :
    (putCells id 0 (vs.take i ++ vs.drop (i + 1) ++ [Value.slice none 0 0]).toArray cur).toList.take (vs.length - 1) = vs.eraseIdx i := by
  have hcl : vs.length ≤ cur.size := by
    have := congrArg List.length hc; simp at this; omega
  apply List.ext_getElem?
  intro j
  rw [List.getElem?_take]
  by_cases hj : j < vs.length - 1
  · rw [if_pos hj, List.getElem?_eraseIdx, Array.getElem?_toList, putCells, Array.getElem?_mapIdx, Array.getElem?_eq_getElem (by omega), Option.map_some]
    have hs : ((vs.take i ++ vs.drop (i + 1) ++ [Value.slice none 0 0]).toArray).size = vs.length := by simp; omega
    rw [if_pos ⟨Nat.zero_le _, by rw [hs]; omega⟩, Nat.sub_zero, getElem!_pos _ j (by rw [hs]; omega), id]
    rw [List.getElem_toArray, ← List.getElem?_eq_getElem]
    have l1 : (vs.take i).length = i := by simp; omega
    rw [List.getElem?_append_left (by simp; omega)]
    by_cases h1 : j < i
    · rw [if_pos h1, List.getElem?_append_left (by omega), List.getElem?_take, if_pos h1]
    · rw [if_neg h1, List.getElem?_append_right (by omega), l1, List.getElem?_drop, show i + 1 + (j - i) = j + 1 by omega]
  · rw [if_neg hj, List.getElem?_eq_none (by rw [List.length_eraseIdx]; split <;> omega)]
section
variable {α : Type} {Q : World → Option Addr → List α → Prop} {t e : TypeId} {w : World} {base c : Nat} {A : Option Addr} {L : List (List α)}
theorem gg_erase {L : List (List α)} {i j : Nat} : gg (L.eraseIdx i) j = if j < i then gg L j else gg L (j + 1) := by
  simp only [gg, List.getD_eq_getElem?_getD, List.getElem?_eraseIdx]; split <;> rfl
theorem OMany.erase (hQ : QStay Q) (hte : t ≠ e) (h : OMany Q t e w base A c L) (hb : base ≤ w.heap.size) {i : Nat} (hi : i < L.length) :
    ∃ (g : Nat) (vs : List Value), A = some ⟨g, 0, none⟩ ∧ g < w.heap.size ∧ vs.length = L.length ∧ L.length ≤ c ∧ c ≤ maxLen ∧ (∀ u ∈ vs, u.oneCell' = true) ∧ Holds id w g 0 vs.toArray ∧
      OMany Q t e (putRow id (Sort.ahead w 1) g 0 (vs.take i ++ vs.drop (i + 1) ++ [Value.slice none 0 0]).toArray) base A c (L.eraseIdx i) := by
  obtain ⟨vs, h1, h2⟩ := h
  have hvl : vs.length = L.length := by have := h1.1; simpa using this
  rcases h1.2 with ⟨_, h0⟩ | ⟨g, cap, cur, h3, h4, h5, h6, h7, h8, h9⟩
  · omega
  injection h3 with ha _ hc
  subst hc
  subst ha
  rw [Nat.mul_one] at h8 h9
  have hne : ∀ b, (b < base ∨ kin w b e) → b ≠ g := fun b hbk e' => by
    subst e'
    rcases hbk with h | h
    · omega
    · exact hte (kin.ne ⟨cur, h5⟩ h)
  have hel : (L.eraseIdx i).length = L.length - 1 := by rw [List.length_eraseIdx, if_pos hi]
  refine ⟨g, vs, rfl, (Array.getElem?_eq_some_iff.1 h5).1, hvl, h6, h7, fun u hu => ?_, fun j hj => ?_, vs.eraseIdx i, ⟨?_, .inr ⟨g, c, _, ?_, h4, heap_putRow_at _ g _ h5, by omega, h7, ?_, ?_⟩⟩, fun k hk => ?_⟩
  · obtain ⟨k, hk, rfl⟩ := List.getElem_of_mem hu
    obtain ⟨B, C, e1, _⟩ := h2 k (by omega)
    rw [List.getElem?_eq_getElem hk] at e1
    rw [Option.some.inj e1]; rfl
  · rw [List.size_toArray] at hj
    constructor
    · rw [Nat.zero_add, cell_of_row w g j cur t _ h5, getElem!_pos _ j (by simpa using hj), id, List.getElem_toArray, ← List.getElem?_eq_getElem]
      have : (cur.toList.take L.length)[j]? = vs[j]? := by rw [h9]
      rw [List.getElem?_take, if_pos (by omega), Array.getElem?_toList] at this
      exact this
    · simp [World.frozen?, h5]
  · rw [hel, Nat.mul_one, List.length_eraseIdx, if_pos (by omega)]; omega
  · rw [hel]
  · simp [putCells]; omega
  · rw [hel, Nat.mul_one, ← hvl]
    exact take_list (by omega) (by rw [hvl]; exact h9)
  · rw [hel] at hk
    have hk' : k < i ∧ k < L.length ∨ ¬ k < i ∧ k + 1 < L.length := by omega
    have key : ∀ m, m < L.length → (vs.eraseIdx i)[k]? = vs[m]? → gg (L.eraseIdx i) k = gg L m → ∃ B C, (vs.eraseIdx i)[k]? = some (.slice B (gg (L.eraseIdx i) k).length C) ∧ Q (putRow id (Sort.ahead w 1) g 0 (vs.take i ++ vs.drop (i + 1) ++ [Value.slice none 0 0]).toArray) B (gg (L.eraseIdx i) k) ∧ (gg (L.eraseIdx i) k).length ≤ C ∧ C ≤ maxLen ∧ Inn (putRow id (Sort.ahead w 1) g 0 (vs.take i ++ vs.drop (i + 1) ++ [Value.slice none 0 0]).toArray) base e B := fun m hm em eg => by
      obtain ⟨B, C, e1, q, k1, k2, k3⟩ := h2 m hm
      have hst : ∀ a, B = some a → (putRow id (Sort.ahead w 1) g 0 (vs.take i ++ vs.drop (i + 1) ++ [Value.slice none 0 0]).toArray).heap[a.block]? = w.heap[a.block]? := fun a ha => heap_putRow _ _ _ _ (hne _ (k3 a ha))
      rw [em, eg]
      exact ⟨B, C, e1, hQ _ _ _ _ (by rw [size_putRow]; exact Nat.le_refl _) hst q, k1, k2, k3.stay hst⟩
    rcases hk' with ⟨h, h'⟩ | ⟨h, h'⟩
    · exact key k h' (by rw [List.getElem?_eraseIdx, if_pos h]) (by rw [gg_erase, if_pos h])
    · exact key (k + 1) h' (by rw [List.getElem?_eraseIdx, if_neg h]) (by rw [gg_erase, if_neg h])
theorem OMany.vat (h : OMany Q t e w base A c L) {i : Nat} (hi : i < L.length) :
    ∃ (g : Nat) (B : Option Addr) (C : Nat), A = some ⟨g, 0, none⟩ ∧ w.cell? ⟨g, i, none⟩ = some (.slice B (gg L i).length C) ∧ Q w B (gg L i) ∧ (gg L i).length ≤ C ∧ C ≤ maxLen ∧ Inn w base e B := by
  obtain ⟨vs, h1, h2⟩ := h
  obtain ⟨B, C, e1, q, k1, k2, k3⟩ := h2 i hi
  rcases h1.2 with ⟨_, h0⟩ | ⟨g, cap, cur, h3, h4, h5, h6, h7, h8, h9⟩
  · omega
  injection h3 with ha _ hc
  subst hc
  refine ⟨g, B, C, ha, ?_, q, k1, k2, k3⟩
  rw [Nat.mul_one] at h9
  rw [cell_of_row w g i cur t _ h5, ← e1, ← h9, List.getElem?_take, if_pos hi, Array.getElem?_toList]
end
theorem Spc.inn {w w' : World} {base p : Nat} {g : Option Nat} {L : List (List Va)} (h : Spc w base p g L) (k : Chg p g w w') {B : Option Addr} (hi : Inn w base 31 B) : ∀ a, B = some a → w'.heap[a.block]? = w.heap[a.block]? := fun a ha => by
  refine k.block _ (hi.lt h.hb ha) (fun e => ?_) (fun e => ?_)
  · rcases hi a ha with h1 | h1
    · have := h.hp; omega
    · exact kin_ne h1 h.kin (by decide) e
  · obtain ⟨h2, h3⟩ := h.gkin e.symm
    rcases hi a ha with h1 | h1
    · omega
    · exact kin_ne h1 h3 (by decide) rfl
theorem plc_at {a : List Va} {L : List (List Va)} (h : ¬ plc a L < 0) : ∃ k : Nat, k < L.length ∧ plc a L = (k : Int) ∧ fitB a (gg L k) = true ∧ ∀ j, j < k → fitB a (gg L j) = false := by
  unfold plc idx at *
  cases hf : fst' (fun i => fitB a (gg L i)) L.length with
  | none => rw [hf] at h; exact absurd (by decide) h
  | some k => obtain ⟨h1, h2, h3⟩ := fst_first hf; exact ⟨k, h1, rfl, h2, h3⟩
set_option maxHeartbeats 800000 in
set_option maxRecDepth 100000 in
theorem sptake_no (base p : Nat) (g : Option Nat) (L : List (List Va)) (A : Option Addr) (c : Nat) (a : List Va) (hm : a.length ≤ maxLen) (hok : okL a) (w : World) (hS : Spc w base p g L) (hA : Vals w A a) (h : finE a L ≠ 0) :
    Calls Tryz.prog 65 #[.pointer (some ⟨p, 0, none⟩), .slice A a.length c] w fun e w' => e = .returned (.tuple #[.slice none 0 0, errV (finE a L)]) ∧ Below w.heap.size w w' := by
  obtain ⟨E, n, q1, q2, q3⟩ := hS.there
  have hl := hS.len
  have c1 := spfind_any p A c a hm hok E n L (by unfold maxLen; omega) w hA q3.many (cell_of_one q1).1
  rw [finV, if_neg h, eV_of h] at c1
  generalize finE a L = X at *
  have C1 := Lib.hid c1; clear c1 h
  go_enter Tryz.func65, Tryz.ntmps65
  go_wp2_with (go_at_call 88; refine C1.out.mono ?_; rintro e w1 ⟨rfl, hb1⟩)
  go_ret2
  exact ⟨rfl, hb1⟩
set_option maxHeartbeats 800000 in
set_option maxRecDepth 100000 in
theorem sptake_ok (base p : Nat) (g : Option Nat) (L : List (List Va)) (A : Option Addr) (c : Nat) (a : List Va) (hm : a.length ≤ maxLen) (hok : okL a) (w : World) (hS : Spc w base p g L) (hA : Vals w A a) (h : finE a L = 0) :
    ∃ k : Nat, k < L.length ∧ plc a L = (k : Int) ∧ fitB a (gg L k) = true ∧ (∀ j, j < k → fitB a (gg L j) = false) ∧
    Calls Tryz.prog 65 #[.pointer (some ⟨p, 0, none⟩), .slice A a.length c] w fun e w' => ∃ B C, e = .returned (.tuple #[.slice B (gg L k).length C, .nilIface]) ∧ Vals w' B (gg L k) ∧ (gg L k).length ≤ C ∧ C ≤ maxLen ∧ Inn w' base 31 B ∧ Spc w' base p g (L.eraseIdx k) ∧ Chg p g w w' := by
  obtain ⟨E, n, q1, q2, q3⟩ := hS.there
  have q1 : AtP w p (.slice E L.length n) := q1
  have hl := hS.len
  have c1 := spfind_any p A c a hm hok E n L (by unfold maxLen; omega) w hA q3.many q1.cell
  have hpl : ¬ plc a L < 0 := by
    intro hn
    unfold finE at h
    split at h
    · rename_i h1; exact h1 h
    · simp at h
  obtain ⟨k, hk, hpk, hf, hff⟩ := plc_at hpl
  refine ⟨k, hk, hpk, hf, hff, ?_⟩
  rw [finV, if_pos h, h, eV_zero, hpk] at c1
  have HS := Lib.hid hS
  have C1 := Lib.hid c1; clear c1 h hpk hf hff hpl hm hok
  go_enter Tryz.func65, Tryz.ntmps65
  go_wp2_with (go_at_call 88; refine C1.out.mono ?_; rintro e w1 ⟨rfl, hb1⟩; have hc1 := (q1.below hb1).cell; have hf1 := (q1.below hb1).frozen; have q4 := q3.keep vals_stay HS.out.hb hb1; obtain ⟨b, B, C, rfl, hcc, hv, hC1, hC2, hin⟩ := q4.vat hk)
  obtain ⟨b', vs, e, hgl, hvl, hlc, hcm, hone, hH, ho⟩ := q4.erase vals_stay (by decide) (Nat.le_trans HS.out.hb hb1.size) hk
  obtain rfl : b = b' := by simpa using e
  have hpb : p ≠ b := fun e => kin_ne (HS.out.keep hb1).kin (q4.gkin rfl).2 (by decide) e
  have cd := spdel_any b n k vs.toArray w1 hH (by simpa using hone) (by simpa [hvl] using hlc) (by unfold maxLen at hcm; exact hcm) (by simpa [hvl] using hk)
  rw [List.size_toArray, hvl] at cd
  refine cd.mono ?_
  rintro e w2 ⟨rfl, hw2⟩
  have q5 : AtP w2 p (.slice (some ⟨b, 0, none⟩) L.length n) := by
    have q6 : AtP w1 p (.slice (some ⟨b, 0, none⟩) L.length n) := q1.below hb1
    rw [hw2]; exact (heap_putRow (Sort.ahead w1 1) _ _ _ hpb).trans q6
  have hc2 := q5.cell
  have hf2 := q5.frozen
  have hx2 : Chg p (some b) w1 w2 := by
    rw [hw2]
    exact ⟨rfl, rfl, rfl, by rw [size_putRow]; exact Nat.le_refl _, fun x _ _ h2 => heap_putRow (Sort.ahead w1 1) _ _ _ (fun e => h2 (by rw [e]))⟩
  rw [← hw2] at ho
  have HO := Lib.hid ho; have HX := Lib.hid hx2; have HQ := Lib.hid q5; have HV := Lib.hid hv; have HI := Lib.hid hin
  clear cd hH ho hx2 q5 hw2 hv hin hone hcc hc1 hf1
  go_wp2_with fail
  go_ret2
  have hlen : (L.eraseIdx k).length = L.length - 1 := by rw [List.length_eraseIdx, if_pos hk]
  have hbz := Nat.le_trans HS.out.hb (Nat.le_trans hb1.size HX.out.size)
  have hs := spc_store (g := some b) HQ.out HS.out.hp hbz HO.out rfl (by rw [hlen]; omega) (fun l hl => HS.out.ok l (List.mem_of_mem_eraseIdx hl))
  rw [hlen] at hs
  have hg2 : g = some b := by rw [← q2]; rfl
  subst hg2
  have hx : Chg p (some b) w1 (w2.setCell ⟨p, 0, none⟩ (.slice (some ⟨b, 0, none⟩) (L.length - 1) n)) := HX.out.trans ⟨rfl, rfl, rfl, ((Below.refl 0 w2).setCell (p := ⟨p, 0, none⟩) (Nat.zero_le _) _).size, fun x _ h1 _ => Below.heap_setCell w2 ⟨p, 0, none⟩ _ x h1⟩ (Nw.refl _ _)
  have hst := (HS.out.keep hb1).inn hx HI.out
  exact ⟨B, C, rfl, vals_stay _ _ _ _ hx.size hst HV.out, hC1, hC2, HI.out.stay hst, hs, (Chg.of_below hb1).trans hx (Nw.refl _ _)⟩
theorem fin_zero {a : List Va} {L : List (List Va)} (h : finE a L = 0) : liE a = 0 ∧ ¬ plc a L < 0 := by
  unfold finE at h
  split at h
  · rename_i h1; exact absurd h h1
  · rename_i h1
    split at h
    · cases h
    · rename_i h2; exact ⟨Classical.not_not.1 h1, h2⟩
end Go.Proofs.YtfelefkmbbfdjaaGreatDoor
