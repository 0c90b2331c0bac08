/- cover.Tuple and Like; the reference's Shows and Cover. -/
import Derived.Test.YthkaaheeblehhaaDoorCover
namespace Go.Proofs.YthkaaheeblehhaaDoor
open Go.RowKit Go.Joins
set_option linter.unusedVariables false

theorem tu_vaE {t : List Va} (h : liE t = 0) : 0 < t.length ∧ t.length ≤ 5 ∧ ∀ i, i < t.length → vaE (va t i) = 0 := by
  obtain ⟨h1, h2, h3⟩ := liE_zero h
  exact ⟨h1, h2, fun i hi => lsE_zero h3 hi⟩
/-- what is wrong with a tuple, and how it is shown -/
def ctE (t : List Va) (s : List Int) : Int := if tuE t ≠ 0 then tuE t else shE' t.length s
def clE (t : List Va) (s : List Int) : Int := if liE t ≠ 0 then liE t else shE' t.length s
theorem ctE_zero {t : List Va} {s : List Int} (h : ctE t s = 0) : tuE t = 0 ∧ shE' t.length s = 0 := by
  unfold ctE at h
  split at h
  · rename_i h1; exact absurd h h1
  · rename_i h1; exact ⟨Classical.not_not.1 h1, h⟩
theorem clE_zero {t : List Va} {s : List Int} (h : clE t s = 0) : liE t = 0 ∧ shE' t.length s = 0 := by
  unfold clE at h
  split at h
  · rename_i h1; exact absurd h h1
  · rename_i h1; exact ⟨Classical.not_not.1 h1, h⟩
set_option maxHeartbeats 800000 in
theorem cotuple_no (A : Option Addr) (c : Nat) (t : List Va) (S : Option Addr) (d : Nat) (s : List Int) (hm : t.length ≤ maxLen) (hms : s.length ≤ maxLen) (hok : okL t) (w : World) (hA : Vals w A t) (hS : Ints w S s) (h : ctE t s ≠ 0) :
    Calls Tryd.prog 19 #[.slice A t.length c, .slice S s.length d] w fun e w' => e = .returned (.tuple #[.slice none 0 0, errV (ctE t s)]) ∧ Below w.heap.size w w' := by
  have c1 := tcheck_any A c t hm hok w hA
  by_cases h0 : tuE t = 0
  · have hv : ctE t s = shE' t.length s := by rw [ctE, if_neg (by simp [h0])]
    rw [hv] at h ⊢
    have c2 := fun (W : World) (hb : Below w.heap.size w W) => cocheck_any A c t.length hm S d s hms W (hS.below hb (Nat.le_refl _))
    rw [h0, eV_zero] at c1
    rw [eV_of h] at c2
    generalize shE' t.length s = E at *
    have C1 := Lib.hid c1; have C2 := Lib.hid c2; clear c1 c2 h h0 hv
    go_enter Tryd.func19, Tryd.ntmps19
    go_wp2_with (first | (go_at_call 52; refine C1.out.mono ?_; rintro e w1 ⟨rfl, hb1⟩) | (go_at_call 53; refine (C2.out _ hb1).mono ?_; rintro e w2 ⟨rfl, hb2⟩))
    go_ret2
    exact ⟨rfl, (by repeat (first | exact Below.refl _ _ | assumption | refine bal ?_ _ | refine bdn ?_ _ | refine bdr ?_ | refine bcl ?_ (by assumption)))⟩
  · have hv : ctE t s = tuE t := by rw [ctE, if_pos h0]
    rw [hv]
    rw [eV_of h0] at c1
    generalize tuE t = E at *
    have C1 := Lib.hid c1; clear c1 h h0 hv
    go_enter Tryd.func19, Tryd.ntmps19
    go_wp2_with (first | (go_at_call 52; refine C1.out.mono ?_; rintro e w1 ⟨rfl, hb1⟩))
    go_ret2
    exact ⟨rfl, (by repeat (first | exact Below.refl _ _ | assumption | refine bal ?_ _ | refine bdn ?_ _ | refine bdr ?_ | refine bcl ?_ (by assumption)))⟩
set_option maxHeartbeats 800000 in
theorem cotuple_ok (A : Option Addr) (c : Nat) (t : List Va) (S : Option Addr) (d : Nat) (s : List Int) (hm : t.length ≤ maxLen) (hms : s.length ≤ maxLen) (hok : okL t) (w : World) (ht : TT w) (hA : Vals w A t) (hS : Ints w S s) (h : ctE t s = 0) :
    Calls Tryd.prog 19 #[.slice A t.length c, .slice S s.length d] w fun e w' => ∃ A' c', e = .returned (.tuple #[.slice A' t.length c', .nilIface]) ∧ OVals w' w.heap.size A' c' (covL t s Va.zero) ∧ Below w.heap.size w w' := by
  have c1 := tcheck_any A c t hm hok w hA
  obtain ⟨h0, h1⟩ := ctE_zero h
  have c2 := fun (W : World) (hb : Below w.heap.size w W) => cocheck_any A c t.length hm S d s hms W (hS.below hb (Nat.le_refl _))
  obtain ⟨t0, t5, tv⟩ := tu_vaE (tuE_zero h0).1
  have c3 := fun (W : World) (hb : Below w.heap.size w W) => covered_any A c t S d s Va.zero t0 t5 (shE'_zero h1).1 tv W (tab_stays (g := 2) (by kernel_rfl) ht hb (Nat.le_refl _)) (hA.below hb (Nat.le_refl _)) (hS.below hb (Nat.le_refl _))
  rw [h0, eV_zero] at c1
  rw [h1, eV_zero] at c2
  have C1 := Lib.hid c1; have C2 := Lib.hid c2; have C3 := Lib.hid c3; clear c1 c2 c3 h h0 h1 tv ht t0 t5
  go_enter Tryd.func19, Tryd.ntmps19
  go_wp2_with (first | (go_at_call 52; refine C1.out.mono ?_; rintro e w1 ⟨rfl, hb1⟩) | (go_at_call 53; refine (C2.out _ hb1).mono ?_; rintro e w2 ⟨rfl, hb2⟩; have hb2 := bcl hb1 hb2) | (go_at_call 54; refine (C3.out _ hb2).mono ?_; rintro e w3 ⟨A3, c3, rfl, ho3, hb3⟩; have HO := Lib.hid ho3; clear ho3))
  go_ret2
  exact ⟨A3, c3, rfl, own_mono HO.out hb2.size, bcl hb2 hb3⟩
set_option maxHeartbeats 800000 in
theorem colike_no (A : Option Addr) (c : Nat) (t : List Va) (S : Option Addr) (d : Nat) (s : List Int) (hm : t.length ≤ maxLen) (hms : s.length ≤ maxLen) (hok : okL t) (w : World) (hA : Vals w A t) (hS : Ints w S s) (h : clE t s ≠ 0) :
    Calls Tryd.prog 23 #[.slice A t.length c, .slice S s.length d] w fun e w' => e = .returned (.tuple #[.slice none 0 0, errV (clE t s)]) ∧ Below w.heap.size w w' := by
  have c1 := tlike_any A c t hm hok w hA
  by_cases h0 : liE t = 0
  · have hv : clE t s = shE' t.length s := by rw [clE, if_neg (by simp [h0])]
    rw [hv] at h ⊢
    have c2 := fun (W : World) (hb : Below w.heap.size w W) => cocheck_any A c t.length hm S d s hms W (hS.below hb (Nat.le_refl _))
    rw [h0, eV_zero] at c1
    rw [eV_of h] at c2
    generalize shE' t.length s = E at *
    have C1 := Lib.hid c1; have C2 := Lib.hid c2; clear c1 c2 h h0 hv
    go_enter Tryd.func23, Tryd.ntmps23
    go_wp2_with (first | (go_at_call 57; refine C1.out.mono ?_; rintro e w1 ⟨rfl, hb1⟩) | (go_at_call 53; refine (C2.out _ hb1).mono ?_; rintro e w2 ⟨rfl, hb2⟩))
    go_ret2
    exact ⟨rfl, (by repeat (first | exact Below.refl _ _ | assumption | refine bal ?_ _ | refine bdn ?_ _ | refine bdr ?_ | refine bcl ?_ (by assumption)))⟩
  · have hv : clE t s = liE t := by rw [clE, if_pos h0]
    rw [hv]
    rw [eV_of h0] at c1
    generalize liE t = E at *
    have C1 := Lib.hid c1; clear c1 h h0 hv
    go_enter Tryd.func23, Tryd.ntmps23
    go_wp2_with (first | (go_at_call 57; refine C1.out.mono ?_; rintro e w1 ⟨rfl, hb1⟩))
    go_ret2
    exact ⟨rfl, (by repeat (first | exact Below.refl _ _ | assumption | refine bal ?_ _ | refine bdn ?_ _ | refine bdr ?_ | refine bcl ?_ (by assumption)))⟩
set_option maxHeartbeats 800000 in
theorem colike_ok (A : Option Addr) (c : Nat) (t : List Va) (S : Option Addr) (d : Nat) (s : List Int) (hm : t.length ≤ maxLen) (hms : s.length ≤ maxLen) (hok : okL t) (w : World) (ht : TT w) (hA : Vals w A t) (hS : Ints w S s) (h : clE t s = 0) :
    Calls Tryd.prog 23 #[.slice A t.length c, .slice S s.length d] w fun e w' => ∃ A' c', e = .returned (.tuple #[.slice A' t.length c', .nilIface]) ∧ OVals w' w.heap.size A' c' (covL t s ⟨2, 0, ⟨#[]⟩⟩) ∧ Below w.heap.size w w' := by
  have c1 := tlike_any A c t hm hok w hA
  obtain ⟨h0, h1⟩ := clE_zero h
  have c2 := fun (W : World) (hb : Below w.heap.size w W) => cocheck_any A c t.length hm S d s hms W (hS.below hb (Nat.le_refl _))
  obtain ⟨t0, t5, tv⟩ := tu_vaE h0
  have c3 := fun (W : World) (hb : Below w.heap.size w W) => covered_any A c t S d s ⟨2, 0, ⟨#[]⟩⟩ t0 t5 (shE'_zero h1).1 tv W (tab_stays (g := 2) (by kernel_rfl) ht hb (Nat.le_refl _)) (hA.below hb (Nat.le_refl _)) (hS.below hb (Nat.le_refl _))
  rw [h0, eV_zero] at c1
  rw [h1, eV_zero] at c2
  have C1 := Lib.hid c1; have C2 := Lib.hid c2; have C3 := Lib.hid c3; clear c1 c2 c3 h h0 h1 tv ht t0 t5
  go_enter Tryd.func23, Tryd.ntmps23
  go_wp2_with (first | (go_at_call 57; refine C1.out.mono ?_; rintro e w1 ⟨rfl, hb1⟩) | (go_at_call 53; refine (C2.out _ hb1).mono ?_; rintro e w2 ⟨rfl, hb2⟩; have hb2 := bcl hb1 hb2) | (go_at_call 54; refine (C3.out _ hb2).mono ?_; rintro e w3 ⟨A3, c3, rfl, ho3, hb3⟩; have HO := Lib.hid ho3; clear ho3))
  go_ret2
  exact ⟨A3, c3, rfl, own_mono HO.out hb2.size, bcl hb2 hb3⟩
theorem covL_take_snoc {t : List Va} {s : List Int} {cl : Va} {k : Nat} (hk : k < t.length) : (covL t s cl).take (k + 1) = (covL t s cl).take k ++ [cov1 (va t k) (gi s k) cl] := by
  rw [List.take_add_one, List.getElem?_eq_getElem (by rw [covL_length]; exact hk)]
  have := va_covL (s := s) (cl := cl) hk
  simp only [va, List.getD_eq_getElem?_getD, List.getElem?_eq_getElem (show k < (covL t s cl).length by rw [covL_length]; exact hk), Option.getD_some] at this
  simp only [Option.toList_some, this]
  rfl
theorem new_cell (W : World) (g : Nat) (hg : g = W.heap.size) (cs : Array Value) (t : TypeId) (i : Nat) {v : Value} (hi : cs[i]? = some v) : (W.alloc (.cells cs t)).cell? ⟨g, i, none⟩ = some v := by
  subst hg; exact (AtB.new W cs t).cell hi
theorem own_stay {w w' : World} {base : Nat} {t : TypeId} {k n : Nat} {v : Value} {xs : List Value} (h : w.ownsRow base t k v n xs) (hs : ∀ g, v.ownBlock = some g → w'.heap[g]? = w.heap[g]?) : w'.ownsRow base t k v n xs := by
  refine ⟨h.1, ?_⟩
  rcases h.2 with h2 | ⟨g, cap, cur, h3, h4, h5, h6⟩
  · exact .inl h2
  · exact .inr ⟨g, cap, cur, h3, h4, (hs g (by rw [h3]; rfl)).trans h5, h6⟩
theorem oV_set3 {W : World} {base c : Nat} {A : Option Addr} {l : List Va} (h : OVals W base A c l) (b : Nat) (hb : ∀ g, (Value.slice A l.length c).ownBlock = some g → g ≠ b) (x y z : Value) (o : Obj) :
    OVals ((((W.setCell ⟨b, 0, none⟩ x).setCell ⟨b, 1, none⟩ y).setCell ⟨b, 2, none⟩ z).alloc o) base A c l :=
  own_stay h fun g hg => by
    have hlt := (World.ownsRow.lt h g hg).2
    have hne := hb g hg
    rw [Below.heap_alloc _ _ _ (by simp [World.setCell]; exact hlt), Below.heap_setCell _ ⟨b, 2, none⟩ _ _ hne, Below.heap_setCell _ ⟨b, 1, none⟩ _ _ hne, Below.heap_setCell _ ⟨b, 0, none⟩ _ _ hne]
end Go.Proofs.YthkaaheeblehhaaDoor
