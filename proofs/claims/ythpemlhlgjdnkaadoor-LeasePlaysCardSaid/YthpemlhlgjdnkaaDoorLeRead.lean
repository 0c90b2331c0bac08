/- Package lease: Read. -/
import Derived.Test.YthpemlhlgjdnkaaDoorLeRen
namespace Go.Proofs.YthpemlhlgjdnkaaDoor
open Go.ChangeShapes Go.WideShapes Go.ChangeAt Go.RowKit
set_option linter.unusedVariables false

/-- the place of the oldest that fits -/
def lpl (a : List Va) (L : List On) : Int := idx (fun i => fitB a (ong L i).t) L.length
def lreE (a : List Va) (L : List On) : Int := if liE a ≠ 0 then liE a else if lpl a L < 0 then 5 else 0
def lreV (a : List Va) (L : List On) : List Va := if lreE a L = 0 then (ong L (lpl a L).toNat).t else []
theorem lpl_none {a : List Va} {L : List On} (h : fst' (fun i => fitB a (ong L i).t) L.length = none) : lpl a L = -1 := idx_none h
theorem lpl_some {a : List Va} {L : List On} {k : Nat} (h : fst' (fun i => fitB a (ong L i).t) k = none) (hk : k < L.length) (hf : fitB a (ong L k).t = true) : lpl a L = (k : Int) :=
  idx_some (k := k + 1) (by simp only [fst', h, hf, if_true]) (by omega)
set_option maxHeartbeats 1600000 in
set_option maxRecDepth 100000 in
theorem lread_any (base p : Nat) (g : Option Nat) (T last : Int) (L : List On) (A' : Option Addr) (c' : Nat) (a : List Va) (hm : a.length ≤ maxLen) (hok : okL a) (w : World) (hQ : Les w base p g T last L) (hA : Vals w A' a) :
    Calls Tryd.prog 47 #[.pointer (some ⟨p, 0, none⟩), .slice A' a.length c'] w fun e w' => ∃ A2 c2, e = .returned (.tuple #[.slice A2 (lreV a L).length c2, eV (lreE a L)]) ∧ OVals w' w.heap.size A2 c2 (lreV a L) ∧ Below w.heap.size w w' := by
  have c1 := tlike_any A' c' a hm hok w hA
  obtain ⟨A, c, X, h1, h2, h3, h4, h5⟩ := hQ.there
  have hpl := h1.lt
  have hXl : X.length = L.length := by rw [← h3, List.length_map]
  have hll := hQ.len
  by_cases e0 : liE a = 0
  · rw [e0, eV_zero] at c1
    have hE : lreE a L = if lpl a L < 0 then 5 else 0 := by rw [lreE, if_neg (by rw [e0]; decide)]
    have C1 := Lib.hid c1; have H1 := Lib.hid h1; have H3 := Lib.hid h3; have H4 := Lib.hid h4; have H5 := Lib.hid h5; have HE := Lib.hid hE; have HA := Lib.hid hA; have HQ := Lib.hid hQ; have HM := Lib.hid hm
    clear c1 h1 h2 h3 h4 h5 hE e0 hA hQ hm
    go_enter Tryd.func47, Tryd.ntmps47
    go_wp2_with (go_at_call 56; refine C1.out.mono ?_; rintro e w1 ⟨rfl, hb1⟩; have p2 := (H1.out.below hb1 hpl).cell (i := 2) rfl)
    go_loopw [19] (fun i wr => ∃ k : Nat, k ≤ L.length ∧ i = .int .i64 k ∧ Hid (fst' (fun i => fitB a (ong L i).t) k = none) ∧ Below w.heap.size w wr) (fun i _ => L.length - (intOf i).toNat)
    case atStart => exact ⟨0, Nat.zero_le _, rfl, rfl, hb1⟩
    case round =>
      obtain ⟨k, hk, rfl, hf, hb⟩ := hrel
      clear C1 p2 hb1
      by_cases hlt : k < L.length
      · obtain ⟨b, off, rfl, hbl, c0, c1, c2⟩ := (H4.out.keep hb).oxs k _ (oxg_at (by omega))
        have hx := H5.out (oxg X k) (List.mem_of_getElem? (oxg_at (by omega)))
        have hx := hx.chs (M := fun _ => False) HQ.out.hb (Chs.of_below _ hb) (fun b hb => hb.elim)
        have ho : (oxg X k).1 = ong L k := ong_oxg H3.out k (by omega)
        rw [ho] at c0 c1 c2
        obtain ⟨q1, q2, q3, q4, q5, q6, q7⟩ := hx
        rw [ho] at q1 q6 q7
        have q1' := q1.below (bal1 wr (.cells #[.int .i64 (ong L k).id, .int .i64 (ong L k).un, .slice (oxg X k).2.1 (ong L k).t.length (oxg X k).2.2] 115)) (Nat.le_refl _)
        have hAr := (HA.out.below hb (Nat.le_refl _)).below (bal1 wr (.cells #[.int .i64 (ong L k).id, .int .i64 (ong L k).un, .slice (oxg X k).2.1 (ong L k).t.length (oxg X k).2.2] 115)) (Nat.le_refl _)
        have ct := tis_any A' c' a (oxg X k).2.1 (oxg X k).2.2 (ong L k).t HM.out _ hAr q1'
        have hbx := AtB.new wr #[.int .i64 (ong L k).id, .int .i64 (ong L k).un, .slice (oxg X k).2.1 (ong L k).t.length (oxg X k).2.2] 115
        have z1 : (0 : Int) ≤ k := by omega
        have z2 : (k : Int) < L.length := by omega
        cases hpk : fitB a (ong L k).t with
        | true =>
          rw [hpk] at ct
          have hv := lpl_some hf.out hlt hpk
          have hE0 : lreE a L = 0 := by rw [HE.out, hv, if_neg (by omega)]
          have hV : lreV a L = (ong L k).t := by rw [lreV, hE0, if_pos rfl, hv]; rfl
          have CT := Lib.hid ct; have HE0 := Lib.hid hE0; have HV := Lib.hid hV; have HBX := Lib.hid hbx; have Q1 := Lib.hid q1'; have HO := Lib.hid ho
          have cc := fun W hW => clone_any (oxg X k).2.1 (oxg X k).2.2 (ong L k).t q6 (by omega) W hW
          have CC := Lib.hid cc
          clear ct hE0 hV hbx q1' ho hpk hv q1 q2 q3 q4 q5 q6 q7 hAr HE H5 HQ cc HA
          generalize (oxg X k).2.1 = xA at *
          generalize (oxg X k).2.2 = xc at *
          generalize ong L k = o at *
          obtain ⟨oi, ou, ot⟩ := o
          simp only at *
          go_wp2_with (first | (go_at_call 76; refine CT.out.mono ?_; rintro e w2 ⟨rfl, hb2⟩; have k2 := (HBX.out.below hb2 HBX.out.lt).cell (i := 2) rfl) | (go_at_call 72; refine (CC.out _ (Q1.out.below hb2 (Nat.le_refl _))).mono ?_; rintro e w3 ⟨A2, c2', rfl, ho2, hb3⟩))
          go_ret2
          rw [HV.out, HE0.out, eV_zero]
          refine ⟨A2, c2', rfl, own_mono ho2 ?_, bcl hb (bcl (bal1 _ _) (bcl hb2 hb3))⟩
          have r1 := hb.size; have r2 := hb2.size; simp at r2; omega
        | false =>
          rw [hpk] at ct
          have hn' : fst' (fun i => fitB a (ong L i).t) (k + 1) = none := by simp [fst', hf.out, hpk]
          have HN := Lib.hid hn'
          have CT := Lib.hid ct; have HBX := Lib.hid hbx
          clear ct hbx q1' ho hpk q1 q2 q3 q4 q5 q6 q7 hAr HE H5 HQ HA hn'
          generalize (oxg X k).2.1 = xA at *
          generalize (oxg X k).2.2 = xc at *
          generalize ong L k = o at *
          obtain ⟨oi, ou, ot⟩ := o
          simp only at *
          go_wp2_with (go_at_call 76; refine CT.out.mono ?_; rintro e w2 ⟨rfl, hb2⟩; have k2 := (HBX.out.below hb2 HBX.out.lt).cell (i := 2) rfl)
          go_roundw
          case rel => exact ⟨k + 1, by omega, by go_num, HN, bcl hb (bcl (bal1 _ _) hb2)⟩
          case measure => simp [intOf]; omega
      · obtain rfl : k = L.length := by omega
        have hv := lpl_none hf.out
        have hE0 : lreE a L = 5 := by rw [HE.out, hv]; rfl
        have hV : lreV a L = [] := by rw [lreV, hE0]; rfl
        have HE0 := Lib.hid hE0; have HV := Lib.hid hV
        clear hE0 hV hv HE H5 HQ HA H4
        go_wp2_with fail
        go_ret2
        rw [HV.out, HE0.out]
        exact ⟨none, 0, rfl, OVals.nil, hb⟩
  · have hE : lreE a L = liE a := by rw [lreE, if_pos e0]
    have hV : lreV a L = [] := by rw [lreV, hE, if_neg e0]
    rw [hE, hV, eV_of e0]
    rw [eV_of e0] at c1
    generalize liE a = E at *
    have C1 := Lib.hid c1; clear c1 h1 h2 h3 h4 h5 hQ hE hV e0 hA hok hm
    go_enter Tryd.func47, Tryd.ntmps47
    go_wp2_with (go_at_call 56; refine C1.out.mono ?_; rintro e w1 ⟨rfl, hb1⟩)
    go_ret2
    exact ⟨none, 0, rfl, OVals.nil, hb1⟩
end Go.Proofs.YthpemlhlgjdnkaaDoor
