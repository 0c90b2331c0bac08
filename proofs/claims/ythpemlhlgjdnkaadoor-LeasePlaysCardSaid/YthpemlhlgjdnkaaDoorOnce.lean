/- Space.All and package once. -/
import Derived.Test.YthpemlhlgjdnkaaDoorSpcTake
import Derived.LaidEqlPtr
namespace Go.Proofs.YthpemlhlgjdnkaaDoor
open Go.ChangeShapes Go.WideShapes Go.ChangeAt Go.RowKit
set_option linter.unusedVariables false

set_option maxHeartbeats 800000 in
set_option maxRecDepth 100000 in
theorem spall_any (base p : Nat) (g : Option Nat) (L : List (List Va)) (w : World) (hS : Spc w base p g L) :
    Calls Tryd.prog 30 #[.pointer (some ⟨p, 0, none⟩)] w fun e w' => ∃ A' c', e = .returned (.slice A' L.length c') ∧ OMany Vals 29 28 w' w.heap.size A' c' L ∧ Below w.heap.size w w' := by
  obtain ⟨E, n, q1, q2, q3⟩ := hS.there
  have q1 : AtP w p (.slice E L.length n) := q1
  have hc0 := q1.cell
  have hl := hS.len
  have hM := q3.many
  have hL1 : ∀ k, k < L.length → 0 < (gg L k).length ∧ (gg L k).length ≤ 5 := fun k hk => by
    have hm : gg L k ∈ L := by simp only [gg, List.getD_eq_getElem?_getD, List.getElem?_eq_getElem hk, Option.getD_some]; exact List.getElem_mem hk
    exact tu_len (hS.ok _ hm).2
  have HL1 := Lib.hid hL1
  clear hL1 q3
  go_enter Tryd.func30, Tryd.ntmps30
  go_wp2_with fail
  go_loopw [3, 11] (fun o i wr => ∃ (k : Nat) (A' : Option Addr) (c' : Nat), k ≤ L.length ∧ i = .int .i64 k ∧ o = .slice A' k c' ∧ OMany Vals 29 28 wr w.heap.size A' c' (L.take k) ∧ Below w.heap.size w wr) (fun o i _ => L.length - (intOf i).toNat)
  case atStart => exact ⟨0, none, 0, Nat.zero_le _, rfl, rfl, OMany.nil, Below.refl _ _⟩
  case round =>
    obtain ⟨k, A', c', hk, rfl, rfl, ho, hb⟩ := hrel
    by_cases hlt : k < L.length
    · obtain ⟨b, off, B, C, rfl, hbl, hcc, hv, hC1, hC2⟩ := (many_below hM hb).vat (i := k) hlt
      have htk : (L.take k).length = k := by simp; omega
      have ht1 : L.take (k + 1) = L.take k ++ [gg L k] := by
        rw [List.take_add_one, List.getElem?_eq_getElem hlt]; simp [gg, List.getD_eq_getElem?_getD, List.getElem?_eq_getElem hlt]
      obtain ⟨z0, z5⟩ := HL1.out k hlt
      have cc := fun (W : World) (hW : Vals W B (gg L k)) => clone_any B C (gg L k) z0 (by omega) W hW
      have CC := Lib.hid cc; have HT := Lib.hid ht1; have HTK := Lib.hid htk; have HO := Lib.hid ho; have HV := Lib.hid hv
      clear cc ht1 htk ho z0 z5 hv
      have hz := hb.size
      go_wp2_with (first
        | (go_at_call 72; refine (CC.out _ HV.out).mono ?_; rintro e w2 ⟨A2, c2, rfl, ho2, hb2⟩; have HO2 := Lib.hid ho2; clear ho2; have hb3 := bcl hb hb2)
        | (at_builtin; refine wpList_append_many vals_stay rfl _ _ 47 29 28 rfl Tryd.underlying47 infoVals (by decide) w.heap.size A' c' (L.take k) (by rw [HTK.out]; rfl) (HO.out.keep vals_stay hz (bal hb2 _)) w2.heap.size A2 (gg L k) c2 rfl (cell_new1 _ _ _) (Sl.alloc HO2.out.vals _) HO2.out.cap.1 HO2.out.cap.2 ((Inn.own HO2.out).alloc hb3.size _) (by rw [HTK.out]; omega) (le_al hb3.size _) ?_; intro A3 c3 w3 ho3 hb4; rw [← HT.out] at ho3; rw [HTK.out]))
      go_roundw
      case rel => exact ⟨k + 1, A3, c3, by omega, by go_num, rfl, ho3, (bal hb3 _).trans hb4⟩
      case measure => simp [intOf]; omega
    · obtain rfl : k = L.length := by omega
      rw [List.take_length] at ho
      go_wp2_with fail
      go_ret
      exact ⟨A', c', rfl, ho, hb⟩
/-- a tuple that stays while a space is changed -/
def Vin (w : World) (base : Nat) (A : Option Addr) (a : List Va) : Prop := Vals w A a ∧ (0 < a.length → Inn w base 28 A)
theorem Vin.of_arg {w : World} {base : Nat} {A : Option Addr} {a : List Va} (h : Vals w A a) (hb : w.heap.size ≤ base) : Vin w base A a := ⟨h, fun h0 x hx => by
  obtain ⟨b, off, e, hl, _⟩ := h h0
  rw [e] at hx
  injection hx with hx
  subst hx
  exact .inl (by show b < base; omega)⟩
theorem Vin.below {w w' : World} {base B : Nat} {A : Option Addr} {a : List Va} (h : Vin w base A a) (hb : Below B w w') (hB : w.heap.size ≤ B) (hbs : base ≤ w.heap.size) : Vin w' base A a :=
  ⟨h.1.below hb hB, fun h0 => (h.2 h0).stay fun x hx => hb.block _ (by have := (h.2 h0).lt hbs hx; omega)⟩
theorem Vin.chg {w w' : World} {base p : Nat} {g : Option Nat} {L : List (List Va)} {A : Option Addr} {a : List Va} (h : Vin w base A a) (hS : Spc w base p g L) (k : Chg p g w w') : Vin w' base A a := by
  rcases Nat.eq_zero_or_pos a.length with h0 | h0
  · exact ⟨by unfold Vals; rw [h0]; exact Sl.zero, fun h => by omega⟩
  · have hst := hS.inn k (h.2 h0)
    exact ⟨vals_stay _ _ _ _ k.size hst h.1, fun _ => (h.2 h0).stay hst⟩
/-- n times the first that fits goes over -/
inductive Mv (a : List Va) (L1 L2 : List (List Va)) : Nat → List (List Va) → List (List Va) → Prop
  | zero : Mv a L1 L2 0 L1 L2
  | step {n : Nat} {M1 M2 : List (List Va)} {k : Nat} (h : Mv a L1 L2 n M1 M2) (hk : k < M1.length) (hf : fitB a (gg M1 k) = true) (hn : ∀ j, j < k → fitB a (gg M1 j) = false) (h2 : M2.length ≠ 20) : Mv a L1 L2 (n + 1) (M1.eraseIdx k) (M2 ++ [gg M1 k])
theorem Mv.len {a : List Va} {L1 L2 M1 M2 : List (List Va)} {n : Nat} (h : Mv a L1 L2 n M1 M2) : M1.length + n = L1.length ∧ M2.length = L2.length + n := by
  induction h with
  | zero => exact ⟨rfl, rfl⟩
  | step h hk hf hn h2 ih =>
    rw [List.length_eraseIdx, if_pos hk, List.length_append, List.length_singleton]
    omega
theorem cnt_take (a : List Va) (L M : List (List Va)) (k : Nat) (h : ∀ i, i < k → gg L i = gg M i) : cnt a L k = cnt a M k := by
  induction k with
  | zero => rfl
  | succ k ih => rw [cnt, cnt, ih fun i hi => h i (by omega), h k (by omega)]
theorem cnt_append (a : List Va) (L : List (List Va)) (t : List Va) : cnt a (L ++ [t]) (L ++ [t]).length = if fitB a t = true then cnt a L L.length + 1 else cnt a L L.length := by
  rw [List.length_append, List.length_singleton, cnt, gg_append_eq, cnt_take a (L ++ [t]) L L.length fun i hi => gg_append_lt hi]
theorem Mv.cnt {a : List Va} {L1 L2 M1 M2 : List (List Va)} {n : Nat} (h : Mv a L1 L2 n M1 M2) : Go.Proofs.YthpemlhlgjdnkaaDoor.cnt a M2 M2.length = Go.Proofs.YthpemlhlgjdnkaaDoor.cnt a L2 L2.length + n := by
  induction h with
  | zero => rfl
  | step h hk hf hn h2 ih => rw [cnt_append, if_pos hf, ih]; omega
theorem cnt_none {a : List Va} {L : List (List Va)} {k : Nat} (h : ∀ i, i < k → fitB a (gg L i) = false) : cnt a L k = 0 := by
  induction k with
  | zero => rfl
  | succ k ih => rw [cnt, if_neg (by rw [h k (by omega)]; decide), ih fun i hi => h i (by omega)]
theorem plc_none {a : List Va} {L : List (List Va)} (h : plc a L < 0) : cnt a L L.length = 0 := cnt_none (idx_neg.1 h)
theorem infoSp : (Tryd.prog.info? 106).map (fun i => (i.zero, i.size, i.bytes)) = some (some (.agg #[.slice none 0 0]), 1, 24) := by kernel_rfl
theorem ptr_ne {w : World} {p1 p2 : Nat} {v1 v2 : Value} (h1 : AtP w p1 v1) (h2 : AtP w p2 v2) (hp : p1 ≠ p2) : (binOp .eql 45 (.pointer (some ⟨p1, 0, none⟩)) (.pointer (some ⟨p2, 0, none⟩))).run Tryd.prog w = .ok (.bool false) w := by
  obtain ⟨i0, hi0, hz0, hz1, hz2⟩ := info_parts infoSp
  exact run_eql_ptr_other w Tryd.underlying45 hi0 (by rw [hz1]; decide) (fun e => hp (congrArg Addr.block e)) h1 h2
set_option maxHeartbeats 400000 in
set_option maxRecDepth 100000 in
theorem move_no (v1 v2 : Value) (A : Option Addr) (c : Nat) (a : List Va) (hm : a.length ≤ maxLen) (hok : okL a) (w : World) (hA : Vals w A a) (h : liE a ≠ 0) :
    Calls Tryd.prog 61 #[v1, v2, .slice A a.length c] w fun e w' => e = .returned (.tuple #[.int .i64 0, errV (liE a)]) ∧ Below w.heap.size w w' := by
  have c1 := tlike_any A c a hm hok w hA
  rw [eV_of h] at c1
  generalize liE a = E at *
  have C1 := Lib.hid c1; clear c1 h
  go_enter Tryd.func61, Tryd.ntmps61
  go_wp2_with (go_at_call 56; refine C1.out.mono ?_; rintro e w1 ⟨rfl, hb1⟩)
  go_ret2
  exact ⟨rfl, hb1⟩
/-- what Move leaves: it ends when all that fits is over, or there is no room -/
structure Moved (w : World) (base p1 p2 : Nat) (a : List Va) (L1 L2 : List (List Va)) (n : Nat) (M1 M2 : List (List Va)) (g1 g2 : Option Nat) : Prop where
  mv : Mv a L1 L2 n M1 M2
  one : Spc w base p1 g1 M1
  two : Spc w base p2 g2 M2
  apart : ∀ b, g1 = some b → g2 ≠ some b
set_option maxHeartbeats 1600000 in
set_option maxRecDepth 100000 in
theorem move_any (base p1 p2 : Nat) (g1 g2 : Option Nat) (L1 L2 : List (List Va)) (hp : p1 ≠ p2) (A : Option Addr) (c : Nat) (a : List Va) (hm : a.length ≤ maxLen) (hok : okL a) (w : World) (hA : Vin w base A a) (h1 : Spc w base p1 g1 L1) (h2 : Spc w base p2 g2 L2) (hg : ∀ b, g1 = some b → g2 ≠ some b) (h : liE a = 0) :
    Calls Tryd.prog 61 #[.pointer (some ⟨p1, 0, none⟩), .pointer (some ⟨p2, 0, none⟩), .slice A a.length c] w fun e w' =>
      ∃ (n : Nat) (M1 M2 : List (List Va)) (g2' : Option Nat), e = .returned (.tuple #[.int .i64 n, .nilIface]) ∧ Moved w' base p1 p2 a L1 L2 n M1 M2 g1 g2' ∧ (plc a M1 < 0 ∨ M2.length = 20) ∧ Below base w w' := by
  have hbs := h1.hb
  have c1 := tlike_any A c a hm hok w hA.1
  rw [h, eV_zero] at c1
  have C1 := Lib.hid c1; have HL := Lib.hid h; have HM := Lib.hid hm; have HO := Lib.hid hok
  have HA := Lib.hid hA; have H1 := Lib.hid h1; have H2 := Lib.hid h2; have HG := Lib.hid hg
  have hlen1 := h1.len
  obtain ⟨E1', m1', hp1', _⟩ := h1.there
  obtain ⟨E2', m2', hp2', _⟩ := h2.there
  have hp1' : AtP w p1 (.slice E1' L1.length m1') := hp1'
  have hp2' : AtP w p2 (.slice E2' L2.length m2') := hp2'
  have HP1 := Lib.hid hp1'; have HP2 := Lib.hid hp2'
  clear c1 h hm hok hA h1 h2 hg hp1' hp2'
  go_enter Tryd.func61, Tryd.ntmps61
  go_wp2_with (go_at_call 56; refine C1.out.mono ?_; rintro e w1 ⟨rfl, hb1⟩; have hrun := ptr_ne (HP1.out.below hb1) (HP2.out.below hb1) hp)
  clear hrun
  go_loopw [9] (fun i wr => ∃ (n : Nat) (M1 M2 : List (List Va)) (g2' : Option Nat), i = .int .i64 n ∧ Hid (Moved wr base p1 p2 a L1 L2 n M1 M2 g1 g2') ∧ Hid (Vin wr base A a) ∧ Below base w wr) (fun i _ => 21 - (intOf i).toNat)
  case atStart => exact ⟨0, L1, L2, g2, rfl, ⟨Mv.zero, H1.out.keep hb1, H2.out.keep hb1, HG.out⟩, HA.out.below hb1 (Nat.le_refl _) hbs, hb1.mono hbs⟩
  case round =>
    obtain ⟨n, M1, M2, g2', rfl, HX, HV, hb⟩ := hrel
    have hn20 : M1.length + n ≤ 20 := by have := HX.out.mv.len; omega
    obtain ⟨E2, m2, x1, x2, x3⟩ := HX.out.two.there
    have x1 : AtP wr p2 (.slice E2 M2.length m2) := x1
    have cf := spfull_any p2 M2.length m2 E2 wr x1.cell
    by_cases hfull : M2.length = 20
    · rw [show (((M2.length : Nat) : Int) == 20) = true by simp; omega] at cf
      have CF := Lib.hid cf; have HF := Lib.hid hfull; clear cf x1 x2 x3 hfull
      go_wp2_with (go_at_call 75; refine CF.out.mono ?_; rintro e w2 ⟨rfl, rfl⟩)
      go_ret2
      exact ⟨n, M1, M2, g2', rfl, HX.out, .inr HF.out, hb⟩
    · rw [show (((M2.length : Nat) : Int) == 20) = false by simp; omega] at cf
      have CF := Lib.hid cf; have HF := Lib.hid hfull; clear cf x1 x2 x3 hfull
      by_cases hpl : plc a M1 < 0
      · have hfe : finE a M1 = 5 := by rw [finE, if_neg (by rw [HL.out]; decide), if_pos hpl]
        have ct := sptake_no base p1 g1 M1 A c a HM.out HO.out wr HX.out.one HV.out.1 (by rw [hfe]; decide)
        rw [hfe] at ct
        have CT := Lib.hid ct; have HPL := Lib.hid hpl; clear ct hfe hpl
        go_wp2_with (first | (go_at_call 75; refine CF.out.mono ?_; rintro e w2 ⟨rfl, rfl⟩) | (go_at_call 52; refine CT.out.mono ?_; rintro e w3 ⟨rfl, hb3⟩))
        go_ret2
        exact ⟨n, M1, M2, g2', rfl, ⟨HX.out.mv, HX.out.one.keep hb3, HX.out.two.keep hb3, HX.out.apart⟩, .inl HPL.out, hb.trans (hb3.mono HX.out.one.hb)⟩
      · have hfe : finE a M1 = 0 := by rw [finE, if_neg (by rw [HL.out]; decide), if_neg hpl]
        obtain ⟨k, hk, hpk, hf, hff, ct⟩ := sptake_ok base p1 g1 M1 A c a HM.out HO.out wr HX.out.one HV.out.1 hfe
        have hmem : gg M1 k ∈ M1 := by simp only [gg, List.getD_eq_getElem?_getD, List.getElem?_eq_getElem hk, Option.getD_some]; exact List.getElem_mem hk
        obtain ⟨ho1, ht1⟩ := HX.out.one.ok _ hmem
        have htl := (tu_len ht1).2
        have hpe : putE M2 (gg M1 k) = 0 := by rw [putE, if_neg (by rw [ht1]; decide), if_neg HF.out]
        have cp := fun (W : World) (B : Option Addr) (C : Nat) (hS : Spc W base p2 g2' M2) (hv : Vals W B (gg M1 k)) => spput_any base p2 g2' M2 B C (gg M1 k) (by unfold maxLen; omega) ho1 W hS hv
        rw [putL, hpe, if_pos rfl, eV_zero] at cp
        have HMV := Lib.hid (HX.out.mv.step hk hf hff HF.out)
        have CT := Lib.hid ct; have CP := Lib.hid cp
        clear ct cp hpe hmem ho1 ht1 htl hf hff hpk hfe hpl
        generalize gg M1 k = t at *
        go_wp2_with (first | (go_at_call 75; refine CF.out.mono ?_; rintro e w2 ⟨rfl, rfl⟩) | (go_at_call 52; refine CT.out.mono ?_; rintro e w3 ⟨B, C, rfl, hv, hc1, hc2, hin, hs1, hx⟩; have hs2 := HX.out.two.far hx hp.symm HX.out.one.kin HX.out.one.hp (fun b e => ⟨(HX.out.one.gkin e).1, (HX.out.one.gkin e).2, HX.out.apart b e⟩); have HS1 := Lib.hid hs1; have HX3 := Lib.hid hx; clear hin hs1 hx) | (go_at_call 31; refine (CP.out _ _ _ hs2 hv).mono ?_; rintro e w4 ⟨rfl, g3, hs3, hy, hnw⟩))
        have hap : ∀ b, g1 = some b → g3 ≠ some b := fun b e => by
          rcases hnw with h | ⟨d, h, hd⟩
          · rw [h]; exact HX.out.apart b e
          · rw [h]; intro e2; injection e2 with e2
            have := (HS1.out.gkin e).2.lt
            omega
        have hs1' := HS1.out.far hy hp hs2.kin hs2.hp (fun b e => ⟨(hs2.gkin e).1, (hs2.gkin e).2, fun e2 => HX.out.apart b e2 e⟩)
        have hv1 := (HV.out.chg HX.out.one HX3.out).chg hs2 hy
        have hb4 := (hb.trans (HX.out.one.below HX3.out)).trans (hs2.below hy)
        have HR := Lib.hid (show Moved w4 base p1 p2 a L1 L2 (n + 1) (M1.eraseIdx k) (M2 ++ [t]) g1 g3 from ⟨HMV.out, hs1', hs3, hap⟩)
        clear hap hs1' hs3 hy hnw hs2 hv
        go_roundw
        case rel => exact ⟨n + 1, M1.eraseIdx k, M2 ++ [t], g3, by go_num, HR, hv1, hb4⟩
        case measure => simp [intOf]; omega
end Go.Proofs.YthpemlhlgjdnkaaDoor
