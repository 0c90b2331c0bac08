/- Space.All and package once. -/
import Derived.Test.YtfelefkmbbfdjaaGreatDoorSpcTake
import Derived.LaidEqlPtr
namespace Go.Proofs.YtfelefkmbbfdjaaGreatDoor
open Go.ChangeShapes Go.WideShapes Go.ChangeAt Go.RowKit
set_option linter.unusedVariables false

set_option maxHeartbeats 800000 in
set_option maxRecDepth 100000 in
theorem spall_any (base p : Nat) (g : Option Nat) (L : List (List Va)) (w : World) (hS : Spc w base p g L) :
    Calls Tryz.prog 51 #[.pointer (some ⟨p, 0, none⟩)] w fun e w' => ∃ A' c', e = .returned (.slice A' L.length c') ∧ OMany Vals 32 31 w' w.heap.size A' c' L ∧ Below w.heap.size w w' := by
  obtain ⟨E, n, q1, q2, q3⟩ := hS.there
  have q1 : AtP w p (.slice E L.length n) := q1
  have hc0 := q1.cell
  have hl := hS.len
  have hM := q3.many
  have hL1 : ∀ k, k < L.length → 0 < (gg L k).length ∧ (gg L k).length ≤ 5 := fun k hk => by
    have hm : gg L k ∈ L := by simp only [gg, List.getD_eq_getElem?_getD, List.getElem?_eq_getElem hk, Option.getD_some]; exact List.getElem_mem hk
    exact tu_len (hS.ok _ hm).2
  have HL1 := Lib.hid hL1
  clear hL1 q3
  go_enter Tryz.func51, Tryz.ntmps51
  go_wp2_with fail
  go_loopw [3, 11] (fun o i wr => ∃ (k : Nat) (A' : Option Addr) (c' : Nat), k ≤ L.length ∧ i = .int .i64 k ∧ o = .slice A' k c' ∧ OMany Vals 32 31 wr w.heap.size A' c' (L.take k) ∧ Below w.heap.size w wr) (fun o i _ => L.length - (intOf i).toNat)
  case atStart => exact ⟨0, none, 0, Nat.zero_le _, rfl, rfl, OMany.nil, Below.refl _ _⟩
  case round =>
    obtain ⟨k, A', c', hk, rfl, rfl, ho, hb⟩ := hrel
    by_cases hlt : k < L.length
    · obtain ⟨b, off, B, C, rfl, hbl, hcc, hv, hC1, hC2⟩ := (many_below hM hb).vat (i := k) hlt
      have htk : (L.take k).length = k := by simp; omega
      have ht1 : L.take (k + 1) = L.take k ++ [gg L k] := by
        rw [List.take_add_one, List.getElem?_eq_getElem hlt]; simp [gg, List.getD_eq_getElem?_getD, List.getElem?_eq_getElem hlt]
      obtain ⟨z0, z5⟩ := HL1.out k hlt
      have cc := fun (W : World) (hW : Vals W B (gg L k)) => clone_any B C (gg L k) z0 (by omega) W hW
      have CC := Lib.hid cc; have HT := Lib.hid ht1; have HTK := Lib.hid htk; have HO := Lib.hid ho; have HV := Lib.hid hv
      clear cc ht1 htk ho z0 z5 hv
      have hz := hb.size
      go_wp2_with (first
        | (go_at_call 40; refine (CC.out _ HV.out).mono ?_; rintro e w2 ⟨A2, c2, rfl, ho2, hb2⟩; have HO2 := Lib.hid ho2; clear ho2; have hb3 := bcl hb hb2)
        | (at_builtin; refine wpList_append_many vals_stay rfl _ _ 72 32 31 rfl Tryz.underlying72 infoVals (by decide) w.heap.size A' c' (L.take k) (by rw [HTK.out]; rfl) (HO.out.keep vals_stay hz (bal hb2 _)) w2.heap.size A2 (gg L k) c2 rfl (cell_new1 _ _ _) (Sl.alloc HO2.out.vals _) HO2.out.cap.1 HO2.out.cap.2 ((Inn.own HO2.out).alloc hb3.size _) (by rw [HTK.out]; omega) (le_al hb3.size _) ?_; intro A3 c3 w3 ho3 hb4; rw [← HT.out] at ho3; rw [HTK.out]))
      go_roundw
      case rel => exact ⟨k + 1, A3, c3, by omega, by go_num, rfl, ho3, (bal hb3 _).trans hb4⟩
      case measure => simp [intOf]; omega
    · obtain rfl : k = L.length := by omega
      rw [List.take_length] at ho
      go_wp2_with fail
      go_ret
      exact ⟨A', c', rfl, ho, hb⟩
/-- a tuple that stays while a space is changed -/
def Vin (w : World) (base : Nat) (A : Option Addr) (a : List Va) : Prop := Vals w A a ∧ (0 < a.length → Inn w base 31 A)
theorem Vin.of_arg {w : World} {base : Nat} {A : Option Addr} {a : List Va} (h : Vals w A a) (hb : w.heap.size ≤ base) : Vin w base A a := ⟨h, fun h0 x hx => by
  obtain ⟨b, off, e, hl, _⟩ := h h0
  rw [e] at hx
  injection hx with hx
  subst hx
  exact .inl (by show b < base; omega)⟩
theorem Vin.below {w w' : World} {base B : Nat} {A : Option Addr} {a : List Va} (h : Vin w base A a) (hb : Below B w w') (hB : w.heap.size ≤ B) (hbs : base ≤ w.heap.size) : Vin w' base A a :=
  ⟨h.1.below hb hB, fun h0 => (h.2 h0).stay fun x hx => hb.block _ (by have := (h.2 h0).lt hbs hx; omega)⟩
theorem Vin.chg {w w' : World} {base p : Nat} {g : Option Nat} {L : List (List Va)} {A : Option Addr} {a : List Va} (h : Vin w base A a) (hS : Spc w base p g L) (k : Chg p g w w') : Vin w' base A a := by
  rcases Nat.eq_zero_or_pos a.length with h0 | h0
  · exact ⟨by unfold Vals; rw [h0]; exact Sl.zero, fun h => by omega⟩
  · have hst := hS.inn k (h.2 h0)
    exact ⟨vals_stay _ _ _ _ k.size hst h.1, fun _ => (h.2 h0).stay hst⟩
/-- n times the first that fits goes over -/
inductive Mv (a : List Va) (L1 L2 : List (List Va)) : Nat → List (List Va) → List (List Va) → Prop
  | zero : Mv a L1 L2 0 L1 L2
  | step {n : Nat} {M1 M2 : List (List Va)} {k : Nat} (h : Mv a L1 L2 n M1 M2) (hk : k < M1.length) (hf : fitB a (gg M1 k) = true) (hn : ∀ j, j < k → fitB a (gg M1 j) = false) (h2 : M2.length ≠ 20) : Mv a L1 L2 (n + 1) (M1.eraseIdx k) (M2 ++ [gg M1 k])
theorem Mv.len {a : List Va} {L1 L2 M1 M2 : List (List Va)} {n : Nat} (h : Mv a L1 L2 n M1 M2) : M1.length + n = L1.length ∧ M2.length = L2.length + n := by
  induction h with
  | zero => exact ⟨rfl, rfl⟩
  | step h hk hf hn h2 ih =>
    rw [List.length_eraseIdx, if_pos hk, List.length_append, List.length_singleton]
    omega
theorem cnt_take (a : List Va) (L M : List (List Va)) (k : Nat) (h : ∀ i, i < k → gg L i = gg M i) : cnt a L k = cnt a M k := by
  induction k with
  | zero => rfl
  | succ k ih => rw [cnt, cnt, ih fun i hi => h i (by omega), h k (by omega)]
theorem cnt_append (a : List Va) (L : List (List Va)) (t : List Va) : cnt a (L ++ [t]) (L ++ [t]).length = if fitB a t = true then cnt a L L.length + 1 else cnt a L L.length := by
  rw [List.length_append, List.length_singleton, cnt, gg_append_eq, cnt_take a (L ++ [t]) L L.length fun i hi => gg_append_lt hi]
theorem Mv.cnt {a : List Va} {L1 L2 M1 M2 : List (List Va)} {n : Nat} (h : Mv a L1 L2 n M1 M2) : Go.Proofs.YtfelefkmbbfdjaaGreatDoor.cnt a M2 M2.length = Go.Proofs.YtfelefkmbbfdjaaGreatDoor.cnt a L2 L2.length + n := by
  induction h with
  | zero => rfl
  | step h hk hf hn h2 ih => rw [cnt_append, if_pos hf, ih]; omega
theorem cnt_none {a : List Va} {L : List (List Va)} {k : Nat} (h : ∀ i, i < k → fitB a (gg L i) = false) : cnt a L k = 0 := by
  induction k with
  | zero => rfl
  | succ k ih => rw [cnt, if_neg (by rw [h k (by omega)]; decide), ih fun i hi => h i (by omega)]
theorem plc_none {a : List Va} {L : List (List Va)} (h : plc a L < 0) : cnt a L L.length = 0 := cnt_none (idx_neg.1 h)
end Go.Proofs.YtfelefkmbbfdjaaGreatDoor
