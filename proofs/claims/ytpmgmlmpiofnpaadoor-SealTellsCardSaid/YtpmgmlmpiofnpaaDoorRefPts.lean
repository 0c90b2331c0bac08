/- The reference's Points and Next (Neville): what each returns. -/
import Derived.Test.YtpmgmlmpiofnpaaDoorRefIn
import Derived.Deep.QuietTactic
import Derived.BigQuiet
namespace Go.Proofs.YtpmgmlmpiofnpaaDoor
open Go.RowKit
set_option linter.unusedVariables false

theorem wasB_false {l : List Sh} {x : Int} {k : Nat} (h : wasB l x k = false) {j : Nat} (hj : j < k) : (ga l j == x) = false := by
  induction k with
  | zero => omega
  | succ k ih =>
    simp only [wasB, Bool.or_eq_false_iff] at h
    by_cases e : j = k
    · subst e; exact h.2
    · exact ih h.1 (by omega)
theorem wasB_true {l : List Sh} {x : Int} {k j : Nat} (hj : j < k) (h : (ga l j == x) = true) : wasB l x k = true := by
  cases e : wasB l x k with
  | true => rfl
  | false => rw [wasB_false e hj] at h; cases h

set_option maxHeartbeats 1600000 in
theorem rpoints_any (A : Option Addr) (cap : Nat) (l : List Sh) (w : World) (hA : Shares w A l) :
    Calls Tryd.prog 31 #[.slice A l.length cap] w fun e w' => e = .returned (.int .i64 (poiE l)) ∧ Below w.heap.size w w' := by
  by_cases h0 : l.length = 0
  · have hv : poiE l = 5 := by rw [poiE, if_pos h0]
    rw [hv, h0]
    clear hv h0
    go_enter Tryd.func31, Tryd.ntmps31
    go_wp2
    go_ret
    exact ⟨rfl, (by repeat (first | exact Below.refl _ _ | assumption | refine bal ?_ _ | refine bdn ?_ _ | refine bdr ?_ | refine bcl ?_ (by assumption)))⟩
  · have h0' : ((l.length : Int) == 0) = false := beq_eq_false_iff_ne.2 (by omega)
    by_cases h7 : 7 < l.length
    · have hv : poiE l = 4 := by rw [poiE, if_neg h0, if_pos h7]
      rw [hv]
      clear hv h0
      go_enter Tryd.func31, Tryd.ntmps31
      go_wp2
      go_ret
      exact ⟨rfl, (by repeat (first | exact Below.refl _ _ | assumption | refine bal ?_ _ | refine bdn ?_ _ | refine bdr ?_ | refine bcl ?_ (by assumption)))⟩
    · have hl : l.length ≤ 7 := by omega
      have hv : poiE l = ptE l l.length := by rw [poiE, if_neg h0, if_neg h7]
      rw [hv]
      clear hv h0
      go_enter Tryd.func31, Tryd.ntmps31
      go_wp2_with fail
      go_loopw [3, 4, 5, 6] (fun i _ _ _ wr => ∃ k : Nat, k ≤ l.length ∧ i = .int .i64 k ∧ Hid (ptE l k = 0) ∧ Below w.heap.size w wr) (fun i _ _ _ _ => l.length - (intOf i).toNat)
      case atStart => exact ⟨0, Nat.zero_le _, rfl, rfl, Below.refl _ _⟩
      case round =>
        obtain ⟨k, hk, rfl, hp, hb0⟩ := hrel
        obtain ⟨wo, rfl⟩ : ∃ wo : World, wo = wr := ⟨_, rfl⟩
        by_cases hlt : k < l.length
        · obtain ⟨b, off, rfl, hbl, hc1, hc2⟩ := (hA.below hb0 (Nat.le_refl _)).at_ hlt
          cases ha : inB (ga l k) with
          | false =>
            have hv : ptE l l.length = 1 := by
              have h1 : ptE l (k + 1) = 1 := by rw [ptE, if_pos hp.out, if_neg (by simp [pinB, ha])]
              rw [ptE_stay (k := k + 1) (by rw [h1]; decide) hlt, h1]
            have HV := Lib.hid hv; clear hv
            go_wp2_with (go_at_call 17; refine (rin_any _ _).mono ?_; rintro e w' ⟨rfl, rfl⟩)
            rw [HV.out]
            go_ret
            exact ⟨rfl, (by repeat (first | exact Below.refl _ _ | assumption | refine bal ?_ _ | refine bdn ?_ _ | refine bdr ?_ | refine bcl ?_ (by assumption)))⟩
          | true =>
            cases hb : inB (gb l k) with
            | false =>
              have hv : ptE l l.length = 1 := by
                have h1 : ptE l (k + 1) = 1 := by rw [ptE, if_pos hp.out, if_neg (by simp [pinB, ha, hb])]
                rw [ptE_stay (k := k + 1) (by rw [h1]; decide) hlt, h1]
              have HV := Lib.hid hv; clear hv
              go_wp2_with (go_at_call 17; refine (rin_any _ _).mono ?_; rintro e w' ⟨rfl, rfl⟩)
              rw [HV.out]
              go_ret
              exact ⟨rfl, (by repeat (first | exact Below.refl _ _ | assumption | refine bal ?_ _ | refine bdn ?_ _ | refine bdr ?_ | refine bcl ?_ (by assumption)))⟩
            | true =>
              have hpin : pinB l k = true := by simp [pinB, ha, hb]
              have HP := Lib.hid hpin; clear hpin
              go_wp2_with (go_at_call 17; refine (rin_any _ _).mono ?_; rintro e w' ⟨rfl, rfl⟩)
              go_loopw [6] (fun i wr => ∃ j : Nat, j ≤ k ∧ i = .int .i64 j ∧ Hid (wasB l (ga l k) j = false) ∧ Below w.heap.size w wr) (fun i _ => k - (intOf i).toNat)
              case atStart => exact ⟨0, Nat.zero_le _, rfl, rfl, hb0⟩
              case round =>
                obtain ⟨j, hj, rfl, hw, hbj⟩ := hrel
                by_cases hjk : j < k
                · obtain ⟨b2, off2, e2, hbl2, hd1, hd2⟩ := (hA.below hbj (Nat.le_refl _)).at_ (i := j) (by omega)
                  obtain ⟨b3, off3, e3, hbl3, hd3, hd4⟩ := (hA.below hbj (Nat.le_refl _)).at_ hlt
                  simp only [Option.some.injEq, Addr.mk.injEq, and_true] at e2 e3
                  obtain ⟨rfl, rfl⟩ := e2
                  obtain ⟨rfl, rfl⟩ := e3
                  have q1 : (0 : Int) ≤ j := by omega
                  have q2 : (j : Int) < l.length := by omega
                  have q3 : (0 : Int) ≤ k := by omega
                  have q4 : (k : Int) < l.length := by omega
                  cases hq : (ga l j == ga l k) with
                  | true =>
                    have hv : ptE l l.length = 7 := by
                      have h1 : ptE l (k + 1) = 7 := by rw [ptE, if_pos hp.out, if_pos HP.out, if_pos (wasB_true hjk hq)]
                      rw [ptE_stay (k := k + 1) (by rw [h1]; decide) hlt, h1]
                    have HV := Lib.hid hv; clear hv
                    go_wp2_with fail
                    go_quiet (fail)
                    go_wp2_with fail
                    rw [HV.out]
                    go_ret
                    exact ⟨rfl, (by repeat (first | exact Below.refl _ _ | assumption | refine bal ?_ _ | refine bdn ?_ _ | refine bdr ?_ | refine bcl ?_ (by assumption)))⟩
                  | false =>
                    have hn : wasB l (ga l k) (j + 1) = false := by simp only [wasB, hw.out, hq, Bool.or_self]
                    have HN := Lib.hid hn; clear hn
                    go_wp2_with fail
                    go_quiet (fail)
                    go_wp2_with fail
                    go_roundw
                    case rel => exact ⟨j + 1, by omega, by go_num, HN, bdn hbj _⟩
                    case measure => simp [intOf]; omega
                · obtain rfl : j = k := by omega
                  have hn : ptE l (j + 1) = 0 := by rw [ptE, if_pos hp.out, if_pos HP.out, if_neg (by rw [hw.out]; decide)]
                  have HN := Lib.hid hn; clear hn
                  go_wp2_with fail
                  go_roundw
                  case rel => exact ⟨j + 1, by omega, by go_num, HN, hbj⟩
                  case measure => simp [intOf]; omega
        · obtain rfl : k = l.length := by omega
          go_wp2_with fail
          rw [hp.out]
          go_ret
          exact ⟨rfl, (by repeat (first | exact Below.refl _ _ | assumption | refine bal ?_ _ | refine bdn ?_ _ | refine bdr ?_ | refine bcl ?_ (by assumption)))⟩

/-! ### Next, Neville's way: the row is filled, then written over in place -/
def seconds (l : List Sh) (k : Nat) : List Int := (List.range k).map (gb l)
theorem seconds_succ (l : List Sh) (k : Nat) : seconds l (k + 1) = seconds l k ++ [gb l k] := by simp [seconds, List.range_succ]
theorem seconds_length (l : List Sh) (k : Nat) : (seconds l k).length = k := by simp [seconds]
theorem seconds_at (l : List Sh) (n k : Nat) (h : k < n) : gi (seconds l n) k = gb l k := by simp [gi, seconds, h]
theorem OInts.at_ {w : World} {base c : Nat} {A : Option Addr} {l : List Int} (h : OInts w base A c l) (h0 : 0 < l.length) :
    ∃ g, A = some ⟨g, 0, none⟩ ∧ base ≤ g ∧ g < w.heap.size ∧ ∀ i, i < l.length → w.cell? ⟨g, i, none⟩ = some (.int .i64 (gi l i)) ∧ w.frozen? ⟨g, i, none⟩ = false := by
  obtain ⟨g, cap', hv, hgb, hlt⟩ := World.ownsRow.form h h0
  have hA : A = some ⟨g, 0, none⟩ := by injection hv
  subst hA
  refine ⟨g, rfl, hgb, hlt, fun i hi => ⟨?_, World.ownsRow.frozenAt h i⟩⟩
  rw [World.ownsRow.cellAt h i (by omega)]
  simp [gi, hi]
theorem OInts.set {w : World} {base c g : Nat} {l : List Int} (h : OInts w base (some ⟨g, 0, none⟩) c l) (i : Nat) (v : Int) (hb : base ≤ g) {w0 : World} (hz : w0.heap.size ≤ base) (h0 : Below w0.heap.size w0 w) :
    OInts (w.setCell ⟨g, i, none⟩ (.int .i64 v)) base (some ⟨g, 0, none⟩) c (l.set i v) ∧ Below w0.heap.size w0 (w.setCell ⟨g, i, none⟩ (.int .i64 v)) := by
  obtain ⟨h1, h2⟩ := World.ownsRow.stored h i (.int .i64 v)
  refine ⟨?_, bset h0 (by show w0.heap.size ≤ g; omega) _⟩
  unfold OInts
  rw [List.length_set, List.map_set]; exact h1
theorem gi_set (l : List Int) (i : Nat) (v : Int) (hi : i < l.length) (j : Nat) : gi (l.set i v) j = if j = i then v else gi l j := by
  unfold gi
  simp only [List.getD_eq_getElem?_getD, List.getElem?_set]
  by_cases e : i = j
  · subst e; rw [if_pos rfl, if_pos rfl, if_pos hi]; rfl
  · rw [if_neg e, if_neg (fun h => e h.symm)]
end Go.Proofs.YtpmgmlmpiofnpaaDoor
