/- Package once: Put, Change. -/
import Derived.Test.YthpemlhlgjdnkaaDoorOnce
namespace Go.Proofs.YthpemlhlgjdnkaaDoor
open Go.ChangeShapes Go.WideShapes Go.ChangeAt Go.RowKit
set_option linter.unusedVariables false

theorem count_spc (base p : Nat) (g : Option Nat) (L : List (List Va)) (A : Option Addr) (c : Nat) (a : List Va) (hm : a.length ≤ maxLen) (hok : okL a) (h : liE a = 0) (x : Nat) (hx : cnt a L L.length = x) (w : World) (hS : Spc w base p g L) (hA : Vals w A a) :
    Calls Tryd.prog 32 #[.pointer (some ⟨p, 0, none⟩), .slice A a.length c] w fun e w' => e = .returned (.tuple #[.int .i64 x, .nilIface]) ∧ Below w.heap.size w w' := by
  obtain ⟨E, n, q1, q2, q3⟩ := hS.there
  have hl := hS.len
  have := spcount_any p A c a hm hok E n L (by unfold maxLen; omega) w hA q3.many (cell_of_one q1).1
  rw [h, if_pos rfl, hx] at this
  exact this
theorem all_spc (base p : Nat) (g : Option Nat) (L : List (List Va)) (n : Nat) (hn : L.length = n) (w : World) (hS : Spc w base p g L) :
    Calls Tryd.prog 30 #[.pointer (some ⟨p, 0, none⟩)] w fun e w' => ∃ A' c', e = .returned (.slice A' n c') ∧ Below w.heap.size w w' := by
  subst hn
  exact (spall_any base p g L w hS).mono fun e w' ⟨A', c', h1, _, h2⟩ => ⟨A', c', h1, h2⟩
/-- what is wrong with what is asked for, and a tuple -/
def ocE (a t : List Va) : Int := if liE a ≠ 0 then liE a else tuE t
set_option maxHeartbeats 400000 in
set_option maxRecDepth 100000 in
theorem oncheck_any (A : Option Addr) (c : Nat) (a : List Va) (B : Option Addr) (d : Nat) (t : List Va) (hm : a.length ≤ maxLen) (hm2 : t.length ≤ maxLen) (ha : okL a) (ht : okL t) (w : World) (hA : Vals w A a) (hB : Vals w B t) :
    Calls Tryd.prog 95 #[.slice A a.length c, .slice B t.length d] w fun e w' => e = .returned (eV (ocE a t)) ∧ Below w.heap.size w w' := by
  have c1 := tlike_any A c a hm ha w hA
  have c2 := fun (W : World) (hW : Vals W B t) => tcheck_any B d t hm2 ht W hW
  by_cases h : liE a = 0
  · have hv : ocE a t = tuE t := by rw [ocE, if_neg (by simp [h])]
    rw [hv]
    rw [h, eV_zero] at c1
    generalize tuE t = E at *
    have C1 := Lib.hid c1; have C2 := Lib.hid c2; clear c1 c2 hv h
    go_enter Tryd.func95, Tryd.ntmps95
    go_wp2_with (first | (go_at_call 56; refine C1.out.mono ?_; rintro e w1 ⟨rfl, hb1⟩) | (go_at_call 45; refine (C2.out _ (hB.below hb1 (Nat.le_refl _))).mono ?_; rintro e w2 ⟨rfl, hb2⟩))
    go_ret
    exact ⟨rfl, (by repeat (first | exact Below.refl _ _ | assumption | refine bal ?_ _ | refine bdn ?_ _ | refine bdr ?_ | refine bcl ?_ (by assumption)))⟩
  · have hv : ocE a t = liE a := by rw [ocE, if_pos h]
    rw [hv, eV_of h]
    rw [eV_of h] at c1
    generalize liE a = E at *
    have C1 := Lib.hid c1; clear c1 c2 hv h
    go_enter Tryd.func95, Tryd.ntmps95
    go_wp2_with (go_at_call 56; refine C1.out.mono ?_; rintro e w1 ⟨rfl, hb1⟩)
    go_ret
    exact ⟨rfl, (by repeat (first | exact Below.refl _ _ | assumption | refine bal ?_ _ | refine bdn ?_ _ | refine bdr ?_ | refine bcl ?_ (by assumption)))⟩
theorem ocE_zero {a t : List Va} (h : ocE a t = 0) : liE a = 0 ∧ tuE t = 0 := by
  unfold ocE at h; split at h
  · rename_i h1; exact absurd h h1
  · rename_i h1; exact ⟨by simpa using h1, h⟩
set_option maxHeartbeats 400000 in
set_option maxRecDepth 100000 in
theorem onput_bad (v : Value) (A : Option Addr) (c : Nat) (a : List Va) (B : Option Addr) (d : Nat) (t : List Va) (hm : a.length ≤ maxLen) (hm2 : t.length ≤ maxLen) (ha : okL a) (ht : okL t) (w : World) (hA : Vals w A a) (hB : Vals w B t) (h : ocE a t ≠ 0) :
    Calls Tryd.prog 62 #[v, .slice A a.length c, .slice B t.length d] w fun e w' => e = .returned (.tuple #[.bool false, errV (ocE a t)]) ∧ Below w.heap.size w w' := by
  have c1 := oncheck_any A c a B d t hm hm2 ha ht w hA hB
  rw [eV_of h] at c1
  generalize ocE a t = E at *
  have C1 := Lib.hid c1; clear c1 h
  go_enter Tryd.func62, Tryd.ntmps62
  go_wp2_with (go_at_call 95; refine C1.out.mono ?_; rintro e w1 ⟨rfl, hb1⟩)
  go_ret2
  exact ⟨rfl, hb1⟩
set_option maxHeartbeats 400000 in
set_option maxRecDepth 100000 in
theorem onput_no (base p : Nat) (g : Option Nat) (L : List (List Va)) (A : Option Addr) (c : Nat) (a : List Va) (B : Option Addr) (d : Nat) (t : List Va) (hm : a.length ≤ maxLen) (hm2 : t.length ≤ maxLen) (ha : okL a) (ht : okL t) (w : World) (hA : Vals w A a) (hB : Vals w B t) (hS : Spc w base p g L) (h : ocE a t = 0) (hc : cnt a L L.length ≠ 0) :
    Calls Tryd.prog 62 #[.pointer (some ⟨p, 0, none⟩), .slice A a.length c, .slice B t.length d] w fun e w' => e = .returned (.tuple #[.bool false, .nilIface]) ∧ Below w.heap.size w w' := by
  have c1 := oncheck_any A c a B d t hm hm2 ha ht w hA hB
  have c2 := fun (W : World) (hS : Spc W base p g L) (hA : Vals W A a) => count_spc base p g L A c a hm ha (ocE_zero h).1 _ rfl W hS hA
  rw [h, eV_zero] at c1
  have hl := cnt_le a L L.length
  generalize cnt a L L.length = x at *
  have hq : decide (0 < x) = true := decide_eq_true (by omega)
  have C1 := Lib.hid c1; have C2 := Lib.hid c2; clear c1 c2 h hc
  go_enter Tryd.func62, Tryd.ntmps62
  go_wp2_with (first | (go_at_call 95; refine C1.out.mono ?_; rintro e w1 ⟨rfl, hb1⟩) | (go_at_call 32; refine (C2.out _ (hS.keep hb1) (hA.below hb1 (Nat.le_refl _))).mono ?_; rintro e w2 ⟨rfl, hb2⟩))
  go_ret2
  exact ⟨rfl, (by repeat (first | exact Below.refl _ _ | assumption | refine bal ?_ _ | refine bdn ?_ _ | refine bdr ?_ | refine bcl ?_ (by assumption)))⟩
set_option maxHeartbeats 800000 in
set_option maxRecDepth 100000 in
theorem onput_ok (base p : Nat) (g : Option Nat) (L : List (List Va)) (A : Option Addr) (c : Nat) (a : List Va) (B : Option Addr) (d : Nat) (t : List Va) (hm : a.length ≤ maxLen) (hm2 : t.length ≤ maxLen) (ha : okL a) (ht : okL t) (w : World) (hA : Vals w A a) (hB : Vals w B t) (hS : Spc w base p g L) (h : ocE a t = 0) (hc : cnt a L L.length = 0) (hl : L.length ≠ 20) :
    Calls Tryd.prog 62 #[.pointer (some ⟨p, 0, none⟩), .slice A a.length c, .slice B t.length d] w fun e w' => e = .returned (.tuple #[.bool true, .nilIface]) ∧ ∃ g', Spc w' base p g' (L ++ [t]) ∧ Chg p g w w' ∧ Nw g g' w.heap.size := by
  have c1 := oncheck_any A c a B d t hm hm2 ha ht w hA hB
  have c2 := fun (W : World) (hS : Spc W base p g L) (hA : Vals W A a) => count_spc base p g L A c a hm ha (ocE_zero h).1 _ hc W hS hA
  have hpe : putE L t = 0 := by rw [putE, if_neg (by rw [(ocE_zero h).2]; decide), if_neg hl]
  have c3 := fun (W : World) (hS : Spc W base p g L) (hB : Vals W B t) => spput_any base p g L B d t hm2 ht W hS hB
  rw [putL, hpe, if_pos rfl, eV_zero] at c3
  rw [h, eV_zero] at c1
  have C1 := Lib.hid c1; have C2 := Lib.hid c2; have C3 := Lib.hid c3; clear c1 c2 c3 h hc hpe
  go_enter Tryd.func62, Tryd.ntmps62
  go_wp2_with (first | (go_at_call 95; refine C1.out.mono ?_; rintro e w1 ⟨rfl, hb1⟩) | (go_at_call 32; refine (C2.out _ (hS.keep hb1) (hA.below hb1 (Nat.le_refl _))).mono ?_; rintro e w2 ⟨rfl, hb2⟩; have hb3 := bcl hb1 hb2) | (go_at_call 31; refine (C3.out _ (hS.keep hb3) (hB.below hb3 (Nat.le_refl _))).mono ?_; rintro e w3 ⟨rfl, g', hs, hx, hn⟩))
  go_ret2
  exact ⟨rfl, g', hs, (Chg.of_below hb3).trans hx (Nw.refl _ _), by
    rcases hn with h | ⟨b, h, hb⟩
    · exact .inl h
    · exact .inr ⟨b, h, Nat.le_trans hb3.size hb⟩⟩
/-- what is wrong with what is to be changed -/
def chE (a t : List Va) (L : List (List Va)) : Int := if ocE a t ≠ 0 then ocE a t else finE a L
theorem chE_zero {a t : List Va} {L : List (List Va)} (h : chE a t L = 0) : ocE a t = 0 ∧ finE a L = 0 := by
  unfold chE at h; split at h
  · rename_i h1; exact absurd h h1
  · rename_i h1; exact ⟨by simpa using h1, h⟩
set_option maxHeartbeats 400000 in
set_option maxRecDepth 100000 in
theorem onchange_no (base p : Nat) (g : Option Nat) (L : List (List Va)) (A : Option Addr) (c : Nat) (a : List Va) (B : Option Addr) (d : Nat) (t : List Va) (hm : a.length ≤ maxLen) (hm2 : t.length ≤ maxLen) (ha : okL a) (ht : okL t) (w : World) (hA : Vals w A a) (hB : Vals w B t) (hS : Spc w base p g L) (h : chE a t L ≠ 0) :
    Calls Tryd.prog 60 #[.pointer (some ⟨p, 0, none⟩), .slice A a.length c, .slice B t.length d] w fun e w' => e = .returned (.tuple #[.slice none 0 0, errV (chE a t L)]) ∧ Below w.heap.size w w' := by
  have c1 := oncheck_any A c a B d t hm hm2 ha ht w hA hB
  by_cases h1 : ocE a t = 0
  · rw [chE, if_neg (by rw [h1]; decide)] at h ⊢
    have c2 := fun (W : World) (hS : Spc W base p g L) (hA : Vals W A a) => sptake_no base p g L A c a hm ha W hS hA h
    rw [h1, eV_zero] at c1
    generalize finE a L = E at *
    have C1 := Lib.hid c1; have C2 := Lib.hid c2; clear c1 c2 h h1
    go_enter Tryd.func60, Tryd.ntmps60
    go_wp2_with (first | (go_at_call 95; refine C1.out.mono ?_; rintro e w1 ⟨rfl, hb1⟩) | (go_at_call 52; refine (C2.out _ (hS.keep hb1) (hA.below hb1 (Nat.le_refl _))).mono ?_; rintro e w2 ⟨rfl, hb2⟩))
    go_ret2
    exact ⟨rfl, (by repeat (first | exact Below.refl _ _ | assumption | refine bal ?_ _ | refine bdn ?_ _ | refine bdr ?_ | refine bcl ?_ (by assumption)))⟩
  · rw [chE, if_pos h1]
    rw [eV_of h1] at c1
    generalize ocE a t = E at *
    have C1 := Lib.hid c1; clear c1 h h1
    go_enter Tryd.func60, Tryd.ntmps60
    go_wp2_with (go_at_call 95; refine C1.out.mono ?_; rintro e w1 ⟨rfl, hb1⟩)
    go_ret2
    exact ⟨rfl, (by repeat (first | exact Below.refl _ _ | assumption | refine bal ?_ _ | refine bdn ?_ _ | refine bdr ?_ | refine bcl ?_ (by assumption)))⟩
set_option maxHeartbeats 800000 in
set_option maxRecDepth 100000 in
theorem onchange_ok (base p : Nat) (g : Option Nat) (L : List (List Va)) (A : Option Addr) (c : Nat) (a : List Va) (B : Option Addr) (d : Nat) (t : List Va) (hm : a.length ≤ maxLen) (hm2 : t.length ≤ maxLen) (ha : okL a) (ht : okL t) (w : World) (hA : Vals w A a) (hB : Vin w base B t) (hS : Spc w base p g L) (h : chE a t L = 0) :
    Calls Tryd.prog 60 #[.pointer (some ⟨p, 0, none⟩), .slice A a.length c, .slice B t.length d] w fun e w' => ∃ (k : Nat) (B2 : Option Addr) (C : Nat) (g' : Option Nat), k < L.length ∧ fitB a (gg L k) = true ∧ (∀ j, j < k → fitB a (gg L j) = false) ∧ e = .returned (.tuple #[.slice B2 (gg L k).length C, .nilIface]) ∧ Vals w' B2 (gg L k) ∧ Spc w' base p g' (L.eraseIdx k ++ [t]) ∧ Chg p g w w' ∧ Nw g g' w.heap.size := by
  obtain ⟨h1, h2⟩ := chE_zero h
  have c1 := oncheck_any A c a B d t hm hm2 ha ht w hA hB.1
  rw [h1, eV_zero] at c1
  have hpl : ¬ plc a L < 0 := by
    intro hn
    unfold finE at h2
    split at h2
    · rename_i h1; exact h1 h2
    · simp at h2
  have htu := (ocE_zero h1).2
  have C1 := Lib.hid c1; have HM := Lib.hid hm; have HM2 := Lib.hid hm2; have HA := Lib.hid ha; have HT := Lib.hid ht; have H2 := Lib.hid h2; have HU := Lib.hid htu; have HB := Lib.hid hB; have HS := Lib.hid hS
  have hbs := hS.hb
  clear c1 h h1 h2 hpl htu hm hm2 ha ht hB hS
  go_enter Tryd.func60, Tryd.ntmps60
  go_wp2_with (go_at_call 95; refine C1.out.mono ?_; rintro e w1 ⟨rfl, hb1⟩)
  obtain ⟨k, hk, hpk, hf, hff, ct⟩ := sptake_ok base p g L A c a HM.out HA.out w1 (HS.out.keep hb1) (hA.below hb1 (Nat.le_refl _)) H2.out
  have hel : (L.eraseIdx k).length = L.length - 1 := by rw [List.length_eraseIdx, if_pos hk]
  have hl := HS.out.len
  have hpe : putE (L.eraseIdx k) t = 0 := by rw [putE, if_neg (by rw [HU.out]; decide), if_neg (by omega)]
  have c3 := fun (W : World) (hS : Spc W base p g (L.eraseIdx k)) (hB : Vals W B t) => spput_any base p g (L.eraseIdx k) B d t HM2.out HT.out W hS hB
  rw [putL, hpe, if_pos rfl, eV_zero] at c3
  have C3 := Lib.hid c3; have HF := Lib.hid hf; have HFF := Lib.hid hff
  clear c3 hpe hf hff hpk
  refine ct.mono ?_
  rintro e w2 ⟨B2, C, rfl, hv, hc1, hc2, hin, hs1, hx⟩
  have hV2 := (HB.out.below hb1 (Nat.le_refl _) hbs).chg (HS.out.keep hb1) hx
  have HV := Lib.hid hv; have HIN := Lib.hid hin
  clear ct hv hin
  go_wp2_with (go_at_call 31; refine (C3.out _ hs1 hV2.1).mono ?_; rintro e w3 ⟨rfl, g', hs, hy, hn⟩)
  go_ret2
  have hst := hs1.inn hy HIN.out
  exact ⟨k, B2, C, g', hk, HF.out, HFF.out, rfl, vals_stay _ _ _ _ hy.size hst HV.out, hs, ((Chg.of_below hb1).trans hx (Nw.refl _ _)).trans hy (Nw.refl _ _), by
    rcases hn with h | ⟨b, h, hb⟩
    · exact .inl h
    · exact .inr ⟨b, h, Nat.le_trans (Nat.le_trans hb1.size hx.size) hb⟩⟩
end Go.Proofs.YthpemlhlgjdnkaaDoor
