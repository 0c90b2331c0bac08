/- cover.Tuple and Like; the reference's Shows and Cover. -/
import Derived.Test.YthpemlhlgjdnkaaDoorCover
namespace Go.Proofs.YthpemlhlgjdnkaaDoor
open Go.RowKit Go.Joins
set_option linter.unusedVariables false

theorem tu_vaE {t : List Va} (h : liE t = 0) : 0 < t.length ∧ t.length ≤ 5 ∧ ∀ i, i < t.length → vaE (va t i) = 0 := by
  obtain ⟨h1, h2, h3⟩ := liE_zero h
  exact ⟨h1, h2, fun i hi => lsE_zero h3 hi⟩
/-- what is wrong with a tuple, and how it is shown -/
def ctE (t : List Va) (s : List Int) : Int := if tuE t ≠ 0 then tuE t else shE' t.length s
def clE (t : List Va) (s : List Int) : Int := if liE t ≠ 0 then liE t else shE' t.length s
theorem ctE_zero {t : List Va} {s : List Int} (h : ctE t s = 0) : tuE t = 0 ∧ shE' t.length s = 0 := by
  unfold ctE at h
  split at h
  · rename_i h1; exact absurd h h1
  · rename_i h1; exact ⟨Classical.not_not.1 h1, h⟩
theorem clE_zero {t : List Va} {s : List Int} (h : clE t s = 0) : liE t = 0 ∧ shE' t.length s = 0 := by
  unfold clE at h
  split at h
  · rename_i h1; exact absurd h h1
  · rename_i h1; exact ⟨Classical.not_not.1 h1, h⟩
set_option maxHeartbeats 800000 in
theorem cotuple_no (A : Option Addr) (c : Nat) (t : List Va) (S : Option Addr) (d : Nat) (s : List Int) (hm : t.length ≤ maxLen) (hms : s.length ≤ maxLen) (hok : okL t) (w : World) (hA : Vals w A t) (hS : Ints w S s) (h : ctE t s ≠ 0) :
    Calls Tryd.prog 58 #[.slice A t.length c, .slice S s.length d] w fun e w' => e = .returned (.tuple #[.slice none 0 0, errV (ctE t s)]) ∧ Below w.heap.size w w' := by
  have c1 := tcheck_any A c t hm hok w hA
  by_cases h0 : tuE t = 0
  · have hv : ctE t s = shE' t.length s := by rw [ctE, if_neg (by simp [h0])]
    rw [hv] at h ⊢
    have c2 := fun (W : World) (hb : Below w.heap.size w W) => cocheck_any A c t.length hm S d s hms W (hS.below hb (Nat.le_refl _))
    rw [h0, eV_zero] at c1
    rw [eV_of h] at c2
    generalize shE' t.length s = E at *
    have C1 := Lib.hid c1; have C2 := Lib.hid c2; clear c1 c2 h h0 hv
    go_enter Tryd.func58, Tryd.ntmps58
    go_wp2_with (first | (go_at_call 45; refine C1.out.mono ?_; rintro e w1 ⟨rfl, hb1⟩) | (go_at_call 93; refine (C2.out _ hb1).mono ?_; rintro e w2 ⟨rfl, hb2⟩))
    go_ret2
    exact ⟨rfl, (by repeat (first | exact Below.refl _ _ | assumption | refine bal ?_ _ | refine bdn ?_ _ | refine bdr ?_ | refine bcl ?_ (by assumption)))⟩
  · have hv : ctE t s = tuE t := by rw [ctE, if_pos h0]
    rw [hv]
    rw [eV_of h0] at c1
    generalize tuE t = E at *
    have C1 := Lib.hid c1; clear c1 h h0 hv
    go_enter Tryd.func58, Tryd.ntmps58
    go_wp2_with (first | (go_at_call 45; refine C1.out.mono ?_; rintro e w1 ⟨rfl, hb1⟩))
    go_ret2
    exact ⟨rfl, (by repeat (first | exact Below.refl _ _ | assumption | refine bal ?_ _ | refine bdn ?_ _ | refine bdr ?_ | refine bcl ?_ (by assumption)))⟩
set_option maxHeartbeats 800000 in
theorem cotuple_ok (A : Option Addr) (c : Nat) (t : List Va) (S : Option Addr) (d : Nat) (s : List Int) (hm : t.length ≤ maxLen) (hms : s.length ≤ maxLen) (hok : okL t) (w : World) (ht : TT w) (hA : Vals w A t) (hS : Ints w S s) (h : ctE t s = 0) :
    Calls Tryd.prog 58 #[.slice A t.length c, .slice S s.length d] w fun e w' => ∃ A' c', e = .returned (.tuple #[.slice A' t.length c', .nilIface]) ∧ OVals w' w.heap.size A' c' (covL t s Va.zero) ∧ Below w.heap.size w w' := by
  have c1 := tcheck_any A c t hm hok w hA
  obtain ⟨h0, h1⟩ := ctE_zero h
  have c2 := fun (W : World) (hb : Below w.heap.size w W) => cocheck_any A c t.length hm S d s hms W (hS.below hb (Nat.le_refl _))
  obtain ⟨t0, t5, tv⟩ := tu_vaE (tuE_zero h0).1
  have c3 := fun (W : World) (hb : Below w.heap.size w W) => covered_any A c t S d s Va.zero t0 t5 (shE'_zero h1).1 tv W (tab_stays (g := 1) (by kernel_rfl) ht hb (Nat.le_refl _)) (hA.below hb (Nat.le_refl _)) (hS.below hb (Nat.le_refl _))
  rw [h0, eV_zero] at c1
  rw [h1, eV_zero] at c2
  have C1 := Lib.hid c1; have C2 := Lib.hid c2; have C3 := Lib.hid c3; clear c1 c2 c3 h h0 h1 tv ht t0 t5
  go_enter Tryd.func58, Tryd.ntmps58
  go_wp2_with (first | (go_at_call 45; refine C1.out.mono ?_; rintro e w1 ⟨rfl, hb1⟩) | (go_at_call 93; refine (C2.out _ hb1).mono ?_; rintro e w2 ⟨rfl, hb2⟩; have hb2 := bcl hb1 hb2) | (go_at_call 94; refine (C3.out _ hb2).mono ?_; rintro e w3 ⟨A3, c3, rfl, ho3, hb3⟩; have HO := Lib.hid ho3; clear ho3))
  go_ret2
  exact ⟨A3, c3, rfl, own_mono HO.out hb2.size, bcl hb2 hb3⟩
set_option maxHeartbeats 800000 in
theorem colike_no (A : Option Addr) (c : Nat) (t : List Va) (S : Option Addr) (d : Nat) (s : List Int) (hm : t.length ≤ maxLen) (hms : s.length ≤ maxLen) (hok : okL t) (w : World) (hA : Vals w A t) (hS : Ints w S s) (h : clE t s ≠ 0) :
    Calls Tryd.prog 59 #[.slice A t.length c, .slice S s.length d] w fun e w' => e = .returned (.tuple #[.slice none 0 0, errV (clE t s)]) ∧ Below w.heap.size w w' := by
  have c1 := tlike_any A c t hm hok w hA
  by_cases h0 : liE t = 0
  · have hv : clE t s = shE' t.length s := by rw [clE, if_neg (by simp [h0])]
    rw [hv] at h ⊢
    have c2 := fun (W : World) (hb : Below w.heap.size w W) => cocheck_any A c t.length hm S d s hms W (hS.below hb (Nat.le_refl _))
    rw [h0, eV_zero] at c1
    rw [eV_of h] at c2
    generalize shE' t.length s = E at *
    have C1 := Lib.hid c1; have C2 := Lib.hid c2; clear c1 c2 h h0 hv
    go_enter Tryd.func59, Tryd.ntmps59
    go_wp2_with (first | (go_at_call 56; refine C1.out.mono ?_; rintro e w1 ⟨rfl, hb1⟩) | (go_at_call 93; refine (C2.out _ hb1).mono ?_; rintro e w2 ⟨rfl, hb2⟩))
    go_ret2
    exact ⟨rfl, (by repeat (first | exact Below.refl _ _ | assumption | refine bal ?_ _ | refine bdn ?_ _ | refine bdr ?_ | refine bcl ?_ (by assumption)))⟩
  · have hv : clE t s = liE t := by rw [clE, if_pos h0]
    rw [hv]
    rw [eV_of h0] at c1
    generalize liE t = E at *
    have C1 := Lib.hid c1; clear c1 h h0 hv
    go_enter Tryd.func59, Tryd.ntmps59
    go_wp2_with (first | (go_at_call 56; refine C1.out.mono ?_; rintro e w1 ⟨rfl, hb1⟩))
    go_ret2
    exact ⟨rfl, (by repeat (first | exact Below.refl _ _ | assumption | refine bal ?_ _ | refine bdn ?_ _ | refine bdr ?_ | refine bcl ?_ (by assumption)))⟩
set_option maxHeartbeats 800000 in
theorem colike_ok (A : Option Addr) (c : Nat) (t : List Va) (S : Option Addr) (d : Nat) (s : List Int) (hm : t.length ≤ maxLen) (hms : s.length ≤ maxLen) (hok : okL t) (w : World) (ht : TT w) (hA : Vals w A t) (hS : Ints w S s) (h : clE t s = 0) :
    Calls Tryd.prog 59 #[.slice A t.length c, .slice S s.length d] w fun e w' => ∃ A' c', e = .returned (.tuple #[.slice A' t.length c', .nilIface]) ∧ OVals w' w.heap.size A' c' (covL t s ⟨2, 0, ⟨#[]⟩⟩) ∧ Below w.heap.size w w' := by
  have c1 := tlike_any A c t hm hok w hA
  obtain ⟨h0, h1⟩ := clE_zero h
  have c2 := fun (W : World) (hb : Below w.heap.size w W) => cocheck_any A c t.length hm S d s hms W (hS.below hb (Nat.le_refl _))
  obtain ⟨t0, t5, tv⟩ := tu_vaE h0
  have c3 := fun (W : World) (hb : Below w.heap.size w W) => covered_any A c t S d s ⟨2, 0, ⟨#[]⟩⟩ t0 t5 (shE'_zero h1).1 tv W (tab_stays (g := 1) (by kernel_rfl) ht hb (Nat.le_refl _)) (hA.below hb (Nat.le_refl _)) (hS.below hb (Nat.le_refl _))
  rw [h0, eV_zero] at c1
  rw [h1, eV_zero] at c2
  have C1 := Lib.hid c1; have C2 := Lib.hid c2; have C3 := Lib.hid c3; clear c1 c2 c3 h h0 h1 tv ht t0 t5
  go_enter Tryd.func59, Tryd.ntmps59
  go_wp2_with (first | (go_at_call 56; refine C1.out.mono ?_; rintro e w1 ⟨rfl, hb1⟩) | (go_at_call 93; refine (C2.out _ hb1).mono ?_; rintro e w2 ⟨rfl, hb2⟩; have hb2 := bcl hb1 hb2) | (go_at_call 94; refine (C3.out _ hb2).mono ?_; rintro e w3 ⟨A3, c3, rfl, ho3, hb3⟩; have HO := Lib.hid ho3; clear ho3))
  go_ret2
  exact ⟨A3, c3, rfl, own_mono HO.out hb2.size, bcl hb2 hb3⟩
set_option maxHeartbeats 800000 in
theorem sshows_any (n : Nat) (hn : n ≤ maxLen) (S : Option Addr) (d : Nat) (l : List Int) (w : World) (hS : Ints w S l) :
    Calls Tryd.prog 65 #[.int .i64 n, .slice S l.length d] w fun e w' => e = .returned (.int .i64 (shE' n l)) ∧ w = w' := by
  unfold maxLen at hn
  by_cases h : l.length = n
  · subst h
    have hv : shE' l.length l = if badS l = true then 1 else 0 := by rw [shE', if_neg (by simp)]
    have HV := Lib.hid hv
    have hq : (((l.length : Nat) : Int) != (l.length : Int)) = false := by simp
    clear hv
    go_enter Tryd.func65, Tryd.ntmps65
    go_wp2_with fail
    go_loop [5] (fun i => ∃ k : Nat, k ≤ l.length ∧ i = .int .i64 k ∧ Hid (∀ j, j < k → 0 ≤ gi l j ∧ gi l j ≤ 2)) (fun i => l.length - (intOf i).toNat)
    case atStart => exact ⟨0, Nat.zero_le _, rfl, fun j hj => absurd hj (by omega)⟩
    case round =>
      obtain ⟨k, hk, rfl, hg⟩ := hrel
      by_cases hlt : k < l.length
      · obtain ⟨b, off, rfl, hbl, hc⟩ := hS.at_ hlt
        have bad : ¬ (0 ≤ gi l k ∧ gi l k ≤ 2) → Hid (badS l = true) := fun e => Lib.hid (by
          cases hb : badS l with
          | true => rfl
          | false => exact absurd (badS_false.1 hb k hlt) e)
        by_cases h1 : gi l k < 0
        · have HB := bad (by omega)
          have d1 := decide_eq_true h1
          clear bad h1
          go_wp2_with fail
          rw [HV.out, HB.out, if_pos rfl]
          go_ret
          exact ⟨rfl, rfl⟩
        · have d1 := decide_eq_false h1
          by_cases h2 : 2 < gi l k
          · have HB := bad (by omega)
            have d2 := decide_eq_true h2
            clear bad h1 h2
            go_wp2_with fail
            rw [HV.out, HB.out, if_pos rfl]
            go_ret
            exact ⟨rfl, rfl⟩
          · have d2 := decide_eq_false h2
            have hg2 : ∀ j, j < k + 1 → 0 ≤ gi l j ∧ gi l j ≤ 2 := fun j hj => by
              by_cases e : j = k
              · subst e; omega
              · exact hg.out j (by omega)
            have HG := Lib.hid hg2
            clear bad h1 h2 hg2
            go_wp2_with fail
            go_round
            case rel => exact ⟨k + 1, by omega, by go_num, HG⟩
            case measure => simp [intOf]; omega
      · obtain rfl : k = l.length := by omega
        have hb : badS l = false := badS_false.2 hg.out
        have HB := Lib.hid hb
        clear hb
        go_wp2_with fail
        rw [HV.out, HB.out, if_neg (by decide)]
        go_ret
        exact ⟨rfl, rfl⟩
  · have hq : (((l.length : Nat) : Int) != (n : Int)) = true := by rw [bne_iff_ne]; omega
    have hv : shE' n l = 3 := by rw [shE', if_pos h]
    rw [hv]
    clear hv h
    go_enter Tryd.func65, Tryd.ntmps65
    go_wp2_with fail
    go_ret
    exact ⟨rfl, rfl⟩
theorem covL_take_snoc {t : List Va} {s : List Int} {cl : Va} {k : Nat} (hk : k < t.length) : (covL t s cl).take (k + 1) = (covL t s cl).take k ++ [cov1 (va t k) (gi s k) cl] := by
  rw [List.take_add_one, List.getElem?_eq_getElem (by rw [covL_length]; exact hk)]
  have := va_covL (s := s) (cl := cl) hk
  simp only [va, List.getD_eq_getElem?_getD, List.getElem?_eq_getElem (show k < (covL t s cl).length by rw [covL_length]; exact hk), Option.getD_some] at this
  simp only [Option.toList_some, this]
  rfl
theorem new_cell (W : World) (g : Nat) (hg : g = W.heap.size) (cs : Array Value) (t : TypeId) (i : Nat) {v : Value} (hi : cs[i]? = some v) : (W.alloc (.cells cs t)).cell? ⟨g, i, none⟩ = some v := by
  subst hg; exact (AtB.new W cs t).cell hi
theorem own_stay {w w' : World} {base : Nat} {t : TypeId} {k n : Nat} {v : Value} {xs : List Value} (h : w.ownsRow base t k v n xs) (hs : ∀ g, v.ownBlock = some g → w'.heap[g]? = w.heap[g]?) : w'.ownsRow base t k v n xs := by
  refine ⟨h.1, ?_⟩
  rcases h.2 with h2 | ⟨g, cap, cur, h3, h4, h5, h6⟩
  · exact .inl h2
  · exact .inr ⟨g, cap, cur, h3, h4, (hs g (by rw [h3]; rfl)).trans h5, h6⟩
theorem oV_set3 {W : World} {base c : Nat} {A : Option Addr} {l : List Va} (h : OVals W base A c l) (b : Nat) (hb : ∀ g, (Value.slice A l.length c).ownBlock = some g → g ≠ b) (x y z : Value) (o : Obj) :
    OVals ((((W.setCell ⟨b, 0, none⟩ x).setCell ⟨b, 1, none⟩ y).setCell ⟨b, 2, none⟩ z).alloc o) base A c l :=
  own_stay h fun g hg => by
    have hlt := (World.ownsRow.lt h g hg).2
    have hne := hb g hg
    rw [Below.heap_alloc _ _ _ (by simp [World.setCell]; exact hlt), Below.heap_setCell _ ⟨b, 2, none⟩ _ _ hne, Below.heap_setCell _ ⟨b, 1, none⟩ _ _ hne, Below.heap_setCell _ ⟨b, 0, none⟩ _ _ hne]
set_option maxHeartbeats 1600000 in
set_option maxRecDepth 100000 in
theorem scover_any (A : Option Addr) (c : Nat) (t : List Va) (S : Option Addr) (d : Nat) (s : List Int) (cl : Va) (h5 : t.length ≤ 5) (hsl : s.length = t.length) (hok : ∀ i, i < t.length → vaE (va t i) = 0) (w : World) (hA : Vals w A t) (hS : Ints w S s) :
    Calls Tryd.prog 66 #[.slice A t.length c, .slice S s.length d, .agg #[.int .i64 cl.k, .int .i64 cl.n, .string cl.s]] w fun e w' => ∃ A' c', e = .returned (.slice A' t.length c') ∧ OVals w' w.heap.size A' c' (covL t s cl) ∧ Below w.heap.size w w' := by
  have HA := Lib.hid hA; have HS := Lib.hid hS; have HSL := Lib.hid hsl; have HOK := Lib.hid hok
  clear hA hS hsl hok
  have hcl := AtB.new w #[.int .i64 cl.k, .int .i64 cl.n, .string cl.s] 28
  have hbw := bal1 w (.cells #[.int .i64 cl.k, .int .i64 cl.n, .string cl.s] 28)
  have HCL := Lib.hid hcl
  clear hcl
  go_enter Tryd.func66, Tryd.ntmps66
  go_wp2_with fail
  go_loopw [7, 8] (fun o i wr => ∃ (k : Nat) (A' : Option Addr) (c' : Nat), k ≤ t.length ∧ i = .int .i64 k ∧ o = .slice A' k c' ∧ Hid (OVals wr (w.heap.size + 1) A' c' ((covL t s cl).take k)) ∧ Hid (AtB wr w.heap.size #[.int .i64 cl.k, .int .i64 cl.n, .string cl.s] 28) ∧ Below w.heap.size w wr) (fun _ i _ => t.length - (intOf i).toNat)
  case atStart => exact ⟨0, none, 0, Nat.zero_le _, rfl, rfl, OVals.nil, HCL.out, hbw⟩
  case round =>
    obtain ⟨k, A', c', hk, rfl, rfl, HO, HB, hb⟩ := hrel
    by_cases hlt : k < t.length
    · obtain ⟨b1, off1, rfl, hbl1, v0, v1, v2⟩ := (HA.out.below hb (Nat.le_refl _)).at_ (i := k) hlt
      obtain ⟨b2, off2, rfl, hbl2, s0⟩ := (HS.out.below hb (Nat.le_refl _)).at_ (i := k) (by rw [HSL.out]; exact hlt)
      have hsl2 : k < s.length := by rw [HSL.out]; exact hlt
      have hbz := HB.out.lt
      have htk : ((covL t s cl).take k).length = k := by rw [List.length_take, covL_length]; omega
      have hsn := covL_take_snoc (s := s) (cl := cl) hlt
      have HTK := Lib.hid htk; have HSN := Lib.hid hsn
      clear htk hsn
      by_cases x2 : gi s k = 2
      · have hc1 : cov1 (va t k) (gi s k) cl = cl := by rw [cov1, if_pos x2]
        have hq : (gi s k == 2) = true := by simp [x2]
        have b0 := HB.out.cell (i := 0) rfl
        have b1' := HB.out.cell (i := 1) rfl
        have b2' := HB.out.cell (i := 2) rfl
        have HC1 := Lib.hid hc1
        clear hc1 x2
        go_wp2_with (at_builtin; refine wpList_append_val rfl _ _ rfl (w.heap.size + 1) A' c' ((covL t s cl).take k) (by rw [HTK.out]; rfl) (HO.out.keep (bal (bal1 _ _) _)) (wr.heap.size + 1) cl.k cl.n cl.s rfl (new_cell _ _ (by simp) _ _ 0 rfl) (new_cell _ _ (by simp) _ _ 1 rfl) (new_cell _ _ (by simp) _ _ 2 rfl) (by rw [HTK.out]; omega) (by simp; omega) ?_; intro A3 c3 w3 ho3 hb3; rw [HTK.out])
        go_roundw
        case rel => exact ⟨k + 1, A3, c3, by omega, by go_num, rfl, by rw [HSN.out, HC1.out]; exact ho3, ((HB.out.alloc _).alloc _).below hb3 (by omega), (bal (bal hb _) _).trans (hb3.mono (by omega))⟩
        case measure => simp [intOf]; omega
      · have hq : (gi s k == 2) = false := by simp [x2]
        by_cases x1 : gi s k = 1 ∧ (va t k).k ≠ 2
        · have hc1 : cov1 (va t k) (gi s k) cl = ⟨0, dgv (va t k), ⟨#[]⟩⟩ := by rw [cov1, if_neg x2, if_pos x1]
          have hq1 : (gi s k == 1) = true := by simp [x1.1]
          have hq2 : ((va t k).k != 2) = true := by simp [x1.2]
          have hv := HOK.out k hlt
          have ks := vaE_kind hv
          have cw := fun (W : World) => rword_any (va t k).k (va t k).n (va t k).s (by omega) ⟨ks.1, ks.2.1⟩ ks.2.2.1 W
          have cd := fun W => rhash_any (wrd (va t k)) (by have := wrd_size _ hv; unfold maxLen; omega) W
          rw [show (Va.mk (va t k).k (va t k).n (va t k).s) = va t k from rfl] at cw
          rw [show hs (wrd (va t k)) (wrd (va t k)).size = dgv (va t k) from rfl] at cd
          have CW := Lib.hid cw; have CD := Lib.hid cd; have HC1 := Lib.hid hc1
          clear hc1 x2 x1 cw cd hv ks
          generalize dgv (va t k) = z at *
          generalize wrd (va t k) = tx at *
          go_wp2_with (first
            | (go_at_call 69; refine (CW.out _).mono ?_; rintro e w2 ⟨rfl, hb2⟩; have hbx := AtB.below (AtB.new wr #[.int .i64 (va t k).k, .int .i64 (va t k).n, .string (va t k).s] 28) hb2 (by simp); have x0 := hbx.cell (i := 0) rfl; have x1 := hbx.cell (i := 1) rfl; have x2 := hbx.cell (i := 2) rfl; have f0 := hbx.frozen 0; have f1 := hbx.frozen 1; have f2 := hbx.frozen 2; have hz2 := hbx.lt; have HO2 := Lib.hid (HO.out.keep (bcl (bal1 _ _) hb2)); have hgz : ∀ g, (Value.slice A' ((covL t s cl).take k).length c').ownBlock = some g → g ≠ wr.heap.size := (fun g hg => by have := (World.ownsRow.lt HO.out g hg).2; omega); have HGZ := Lib.hid hgz; clear hgz; have HB2 := Lib.hid ((HB.out.alloc _).below hb2 (by simp; omega)); have hbw2 := bcl (bal hb _) hb2; have HX := Lib.hid hbx; clear hb2 hbx)
            | (go_at_call 68; refine (CD.out _).mono ?_; rintro e w4 ⟨rfl, rfl⟩)
            | (at_builtin; refine wpList_append_val rfl _ _ rfl (w.heap.size + 1) A' c' ((covL t s cl).take k) (by rw [HTK.out]; rfl) (oV_set3 HO2.out _ HGZ.out _ _ _ _) w2.heap.size 0 z ⟨#[]⟩ rfl (new_cell _ _ (by simp) _ _ 0 rfl) (new_cell _ _ (by simp) _ _ 1 rfl) (new_cell _ _ (by simp) _ _ 2 rfl) (by rw [HTK.out]; omega) (by simp; omega) ?_; intro A3 c3 w3 ho3 hb3; rw [HTK.out]))
          go_roundw
          case rel => exact ⟨k + 1, A3, c3, by omega, by go_num, rfl, by rw [HSN.out, HC1.out]; exact ho3, ((((HB2.out.far (by show w.heap.size ≠ wr.heap.size; omega) _).far (by show w.heap.size ≠ wr.heap.size; omega) _).far (by show w.heap.size ≠ wr.heap.size; omega) _).alloc _).below hb3 (by omega), (bal (bset (bset (bset hbw2 (by show w.heap.size ≤ wr.heap.size; omega) _) (by show w.heap.size ≤ wr.heap.size; omega) _) (by show w.heap.size ≤ wr.heap.size; omega) _) _).trans (hb3.mono (by omega))⟩
          case measure => simp [intOf]; omega
        · have hc1 : cov1 (va t k) (gi s k) cl = va t k := by rw [cov1, if_neg x2, if_neg x1]
          have HC1 := Lib.hid hc1
          have hd : (gi s k == 1) = false ∨ ((gi s k == 1) = true ∧ ((va t k).k != 2) = false) := by
            by_cases y : gi s k = 1
            · right; refine ⟨by simp [y], ?_⟩
              simp; exact Classical.not_not.1 fun h => x1 ⟨y, h⟩
            · left; simp [y]
          clear hc1 x2 x1
          rcases hd with d1 | ⟨d1, d2⟩
          all_goals
            go_wp2_with (at_builtin; refine wpList_append_val rfl _ _ rfl (w.heap.size + 1) A' c' ((covL t s cl).take k) (by rw [HTK.out]; rfl) (HO.out.keep (bal (bal1 _ _) _)) (wr.heap.size + 1) (va t k).k (va t k).n (va t k).s rfl (new_cell _ _ (by simp) _ _ 0 rfl) (new_cell _ _ (by simp) _ _ 1 rfl) (new_cell _ _ (by simp) _ _ 2 rfl) (by rw [HTK.out]; omega) (by simp; omega) ?_; intro A3 c3 w3 ho3 hb3; rw [HTK.out])
            go_roundw
            case rel => exact ⟨k + 1, A3, c3, by omega, by go_num, rfl, by rw [HSN.out, HC1.out]; exact ho3, ((HB.out.alloc _).alloc _).below hb3 (by omega), (bal (bal hb _) _).trans (hb3.mono (by omega))⟩
            case measure => simp [intOf]; omega
    · obtain rfl : k = t.length := by omega
      go_wp2_with fail
      go_ret
      exact ⟨_, _, rfl, by have := HO.out; rw [List.take_of_length_le (by rw [covL_length]; exact Nat.le_refl _)] at this; exact own_mono this (by omega), hb⟩
end Go.Proofs.YthpemlhlgjdnkaaDoor
