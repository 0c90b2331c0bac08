/- The reference's rules: Rules, First, May. -/
import Derived.Test.YtfelefkmbbfdjaaGreatDoorRule
import Derived.Test.YtfelefkmbbfdjaaGreatDoorVRef
namespace Go.Proofs.YtfelefkmbbfdjaaGreatDoor
open Go.ChangeShapes Go.WideShapes Go.ChangeAt Go.RowKit
set_option linter.unusedVariables false

set_option maxHeartbeats 1600000 in
set_option maxRecDepth 100000 in
theorem srules_any (A : Option Addr) (cap : Nat) (l : List Ru) (hm : l.length ≤ maxLen) (hok : okR l) (w : World) (hA : Rls w A l) :
    Calls Tryz.prog 11 #[.slice A l.length cap] w fun e w' => e = .returned (.int .i64 (rulE l)) ∧ Below w.heap.size w w' := by
  have hs := shR_of hA
  unfold maxLen at hm
  by_cases h8 : 8 < l.length
  · have hv : rulE l = 4 := by rw [rulE, if_pos h8]
    rw [hv]
    clear hv hs
    go_enter Tryz.func11, Tryz.ntmps11
    go_wp2_with fail
    go_ret
    exact ⟨rfl, Below.refl _ _⟩
  · have hv : rulE l = ff (fun i => oneE (ru l i)) l.length := by rw [rulE, if_neg h8]
    rw [hv]
    have HOK := Lib.hid hok; have HS := Lib.hid hs
    clear hv hok hs
    go_enter Tryz.func11, Tryz.ntmps11
    go_wp2_with fail
    go_loopw [3, 4] (fun i _ wr => ∃ j : Nat, j ≤ l.length ∧ i = .int .i64 j ∧ Hid (ff (fun i => oneE (ru l i)) j = 0) ∧ Below w.heap.size w wr) (fun i _ _ => l.length - (intOf i).toNat)
    case atStart => exact ⟨0, by omega, rfl, rfl, (by repeat (first | exact Below.refl _ _ | assumption | refine bal ?_ _ | refine bdn ?_ _ | refine bdr ?_ | refine bcl ?_ (by assumption)))⟩
    case round =>
      obtain ⟨j, hj, rfl, hzz, hb⟩ := hrel
      by_cases hlt : j < l.length
      · obtain ⟨b, off, B, C, rfl, hbl, c0, c1, c2, c3, hv, _, _⟩ := (hA.below hb (Nat.le_refl _)).at_ (i := j) hlt
        have hbad : oneE (ru l j) ≠ 0 → Hid (ff (fun i => oneE (ru l i)) l.length = oneE (ru l j)) := fun h => Lib.hid (ff_at (f := fun i => oneE (ru l i)) hzz.out h hlt)
        have ct := fun (W : World) (hb2 : Below wr.heap.size wr W) => rlike_any B C (ru l j).a (HS.out j hlt) (HOK.out j hlt).1 W (hv.below hb2 (Nat.le_refl _))
        have q1 : (0 : Int) ≤ j := by omega
        have q2 : (j : Int) < l.length := by omega
        by_cases x : (ru l j).d < 0 ∨ 2 < (ru l j).d ∨ (ru l j).o < -1 ∨ 1000000 < (ru l j).o
        · have ho : oneE (ru l j) = 1 := by
            rw [oneE, if_pos]
            by_cases y : (ru l j).d < 0 ∨ 2 < (ru l j).d
            · left; rw [← Bool.not_eq_true, deedB_true]; omega
            · right; refine ⟨by omega, ?_⟩; rw [← Bool.not_eq_true, whoB_true]; omega
          have HB := hbad (by rw [ho]; decide)
          rw [ho] at HB
          have hd : (decide ((ru l j).d < 0) = true) ∨ (decide ((ru l j).d < 0) = false ∧ decide (2 < (ru l j).d) = true) ∨ (decide ((ru l j).d < 0) = false ∧ decide (2 < (ru l j).d) = false ∧ decide ((ru l j).o < -1) = true) ∨ (decide ((ru l j).d < 0) = false ∧ decide (2 < (ru l j).d) = false ∧ decide ((ru l j).o < -1) = false ∧ decide (1000000 < (ru l j).o) = true) := by
            simp only [decide_eq_true_eq, decide_eq_false_iff_not]; omega
          clear ct hbad ho x
          rcases hd with h1 | ⟨h1, h2⟩ | ⟨h1, h2, h3⟩ | ⟨h1, h2, h3, h4⟩
          all_goals
            go_wp2_with fail
            rw [HB.out]
            go_ret
            exact ⟨rfl, (by repeat (first | exact Below.refl _ _ | assumption | refine bal ?_ _ | refine bdn ?_ _ | refine bdr ?_ | refine bcl ?_ (by assumption)))⟩
        · have hr : oneE (ru l j) = liE (ru l j).a := by
            rw [oneE, if_neg]
            rintro (h | ⟨h, h2⟩)
            · rw [← Bool.not_eq_true, deedB_true] at h; omega
            · rw [← Bool.not_eq_true, whoB_true] at h2; omega
          have h1 : decide ((ru l j).d < 0) = false := decide_eq_false (by omega)
          have h2 : decide (2 < (ru l j).d) = false := decide_eq_false (by omega)
          have h3 : decide ((ru l j).o < -1) = false := decide_eq_false (by omega)
          have h4 : decide (1000000 < (ru l j).o) = false := decide_eq_false (by omega)
          by_cases h0 : liE (ru l j).a = 0
          · have HN := Lib.hid (ff_next (f := fun i => oneE (ru l i)) hzz.out (hr.trans h0))
            rw [h0] at ct
            have CT := Lib.hid ct; clear ct hbad hr h0 x
            go_wp2_with (go_at_call 28; refine (CT.out _ (Below.refl _ _)).mono ?_; rintro e w3 ⟨rfl, hb3⟩)
            go_roundw
            case rel => exact ⟨j + 1, by omega, by go_num, HN, bcl hb hb3⟩
            case measure => simp [intOf]; omega
          · have HB := hbad (by rw [hr]; exact h0)
            rw [hr] at HB
            have hq : (liE (ru l j).a != 0) = true := by simp [h0]
            generalize liE (ru l j).a = E at *
            have CT := Lib.hid ct; clear ct hbad hr h0 x
            go_wp2_with (go_at_call 28; refine (CT.out _ (Below.refl _ _)).mono ?_; rintro e w3 ⟨rfl, hb3⟩)
            rw [HB.out]
            go_ret
            exact ⟨rfl, bcl hb hb3⟩
      · obtain rfl : j = l.length := by omega
        go_wp2_with fail
        rw [hzz.out]
        go_ret
        exact ⟨rfl, hb⟩
/-- of rules that are right -1 alone is below 0 -/
def okO (l : List Ru) : Prop := ∀ i, i < l.length → -1 ≤ (ru l i).o
theorem okO_of {l : List Ru} (h : rulE l = 0) : okO l := fun i hi => by
  obtain ⟨_, h2⟩ := rulE_zero h
  obtain ⟨_, h3, _⟩ := oneE_zero (h2 i hi)
  rcases h3 with h3 | h3
  · omega
  · have := (whoB_true.1 h3).1; omega
set_option maxHeartbeats 1600000 in
set_option maxRecDepth 100000 in
theorem sfirst_any (A : Option Addr) (cap : Nat) (l : List Ru) (hm : l.length ≤ maxLen) (hO : okO l) (who deed : Int) (T : Option Addr) (c : Nat) (t : List Va) (w : World) (hA : Rls w A l) (hT : Vals w T t) :
    Calls Tryz.prog 56 #[.slice A l.length cap, .int .i64 who, .int .i64 deed, .slice T t.length c] w fun e w' => e = .returned (.int .i64 (plcR l who deed t)) ∧ Below w.heap.size w w' := by
  have hs := shR_of hA
  unfold maxLen at hm
  obtain ⟨P, hP⟩ : ∃ P : Nat → Bool, P = fun i => goB (ru l i).d (ru l i).o (ru l i).a who deed t := ⟨_, rfl⟩
  have hv : plcR l who deed t = idx P l.length := by rw [hP]; rfl
  rw [hv]
  have HP := Lib.hid hP; have HS := Lib.hid hs; have HO := Lib.hid hO
  clear hv hP hs hO
  go_enter Tryz.func56, Tryz.ntmps56
  go_wp2_with fail
  go_loopw [9, 10] (fun i _ wr => ∃ k : Nat, k ≤ l.length ∧ i = .int .i64 k ∧ Hid (fst' P k = none) ∧ Below w.heap.size w wr) (fun i _ _ => l.length - (intOf i).toNat)
  case atStart => exact ⟨0, Nat.zero_le _, rfl, rfl, Below.refl _ _⟩
  case round =>
    obtain ⟨k, hk, rfl, hf, hb⟩ := hrel
    by_cases hlt : k < l.length
    · obtain ⟨b, off, B, C, rfl, hbl, c0, c1, c2, c3, hv, _, _⟩ := (hA.below hb (Nat.le_refl _)).at_ (i := k) hlt
      have q1 : (0 : Int) ≤ k := by omega
      have q2 : (k : Int) < l.length := by omega
      have cf := fun (W : World) (hb2 : Below wr.heap.size wr W) => rfits_any B C (ru l k).a T c t (HS.out k hlt) W (hv.below hb2 (Nat.le_refl _)) (hT.below (bcl hb hb2) (Nat.le_refl _))
      have hyes : P k = true → Hid (idx P l.length = (k : Int)) := fun h => Lib.hid (idx_some (k := k + 1) (by simp only [fst', hf.out, h, if_true]) (by omega))
      have hno : P k = false → Hid (fst' P (k + 1) = none) := fun h => Lib.hid (by simp [fst', hf.out, h])
      have hPk : P k = goB (ru l k).d (ru l k).o (ru l k).a who deed t := by rw [HP.out]
      have ho := HO.out k hlt
      rw [goB] at hPk
      cases x1 : fitB (ru l k).a t with
      | false =>
        have HN := hno (by rw [hPk, x1, Bool.and_false])
        rw [x1] at cf
        have CF := Lib.hid cf; clear cf hyes hno hPk ho x1
        go_wp2_with (go_at_call 83; refine (CF.out _ (Below.refl _ _)).mono ?_; rintro e w3 ⟨rfl, hb3⟩; have hc := bcell hb3)
        go_roundw
        case rel => exact ⟨k + 1, by omega, by go_num, HN, bcl hb hb3⟩
        case measure => simp [intOf]; omega
      | true =>
        rw [x1] at cf
        rw [x1, Bool.and_true] at hPk
        have CF := Lib.hid cf; clear cf x1
        cases x2 : ((ru l k).d == deed) with
        | false =>
          have HN := hno (by rw [hPk, x2]; rfl)
          clear hyes hno hPk ho
          go_wp2_with (go_at_call 83; refine (CF.out _ (Below.refl _ _)).mono ?_; rintro e w3 ⟨rfl, hb3⟩; have d0 := (hb3.cell (p := ⟨b, off + k * 4, none⟩) hbl).trans c0; have d1 := (hb3.cell (p := ⟨b, off + k * 4 + 1, none⟩) hbl).trans c1)
          go_roundw
          case rel => exact ⟨k + 1, by omega, by go_num, HN, bcl hb hb3⟩
          case measure => simp [intOf]; omega
        | true =>
          rw [x2, Bool.true_and] at hPk
          by_cases x3 : (ru l k).o = -1
          · have hq : ((ru l k).o == -1) = true := by simp [x3]
            have HY := hyes (by rw [hPk, x3]; rfl)
            clear hyes hno hPk ho x3
            go_wp2_with (go_at_call 83; refine (CF.out _ (Below.refl _ _)).mono ?_; rintro e w3 ⟨rfl, hb3⟩; have d0 := (hb3.cell (p := ⟨b, off + k * 4, none⟩) hbl).trans c0; have d1 := (hb3.cell (p := ⟨b, off + k * 4 + 1, none⟩) hbl).trans c1)
            rw [HY.out]
            go_ret
            exact ⟨rfl, bcl hb hb3⟩
          · have hq : ((ru l k).o == -1) = false := by simp [x3]
            have hd : decide ((ru l k).o < 0) = false := decide_eq_false (by omega)
            rw [hd, Bool.false_or] at hPk
            cases x4 : ((ru l k).o == who) with
            | true =>
              have HY := hyes (by rw [hPk, x4])
              clear hyes hno hPk ho x3 hd
              go_wp2_with (go_at_call 83; refine (CF.out _ (Below.refl _ _)).mono ?_; rintro e w3 ⟨rfl, hb3⟩; have d0 := (hb3.cell (p := ⟨b, off + k * 4, none⟩) hbl).trans c0; have d1 := (hb3.cell (p := ⟨b, off + k * 4 + 1, none⟩) hbl).trans c1)
              rw [HY.out]
              go_ret
              exact ⟨rfl, bcl hb hb3⟩
            | false =>
              have HN := hno (by rw [hPk, x4])
              clear hyes hno hPk ho x3 hd
              go_wp2_with (go_at_call 83; refine (CF.out _ (Below.refl _ _)).mono ?_; rintro e w3 ⟨rfl, hb3⟩; have d0 := (hb3.cell (p := ⟨b, off + k * 4, none⟩) hbl).trans c0; have d1 := (hb3.cell (p := ⟨b, off + k * 4 + 1, none⟩) hbl).trans c1)
              go_roundw
              case rel => exact ⟨k + 1, by omega, by go_num, HN, bcl hb hb3⟩
              case measure => simp [intOf]; omega
    · obtain rfl : k = l.length := by omega
      have HI := Lib.hid (idx_none hf.out)
      go_wp2_with fail
      rw [HI.out]
      go_ret
      exact ⟨rfl, hb⟩
set_option maxHeartbeats 800000 in
set_option maxRecDepth 100000 in
theorem smay_any (A : Option Addr) (cap : Nat) (l : List Ru) (hm : l.length ≤ maxLen) (hO : okO l) (who deed : Int) (T : Option Addr) (c : Nat) (t : List Va) (w : World) (hA : Rls w A l) (hT : Vals w T t) :
    Calls Tryz.prog 32 #[.slice A l.length cap, .int .i64 who, .int .i64 deed, .slice T t.length c] w fun e w' => e = .returned (.bool (letR l who deed t)) ∧ Below w.heap.size w w' := by
  have cp := sfirst_any A cap l hm hO who deed T c t w hA hT
  by_cases h : plcR l who deed t < 0
  · have hv : letR l who deed t = false := by rw [letR, decide_eq_true h]; rfl
    rw [hv]
    have hq : decide (0 ≤ plcR l who deed t) = false := decide_eq_false (by omega)
    generalize plcR l who deed t = z at *
    have CP := Lib.hid cp; clear cp hv h
    go_enter Tryz.func32, Tryz.ntmps32
    go_wp2_with (go_at_call 56; refine CP.out.mono ?_; rintro e w1 ⟨rfl, hb1⟩)
    go_ret
    exact ⟨rfl, (by repeat (first | exact Below.refl _ _ | assumption | refine bal ?_ _ | refine bdn ?_ _ | refine bdr ?_ | refine bcl ?_ (by assumption)))⟩
  · obtain ⟨k, hk, hlt, _⟩ := plcR_at h
    have hv : letR l who deed t = (ru l k).m := by rw [letR, decide_eq_false h, hk]; simp
    rw [hv]
    rw [hk] at cp
    have CP := Lib.hid cp; clear cp hv h hk
    go_enter Tryz.func32, Tryz.ntmps32
    go_wp2_with (go_at_call 56; refine CP.out.mono ?_; rintro e w1 ⟨rfl, hb1⟩; obtain ⟨b, off, B, C, rfl, hbl, c0, c1, c2, c3, hv, _, _⟩ := (hA.below hb1 (Nat.le_refl _)).at_ (i := k) hlt)
    go_ret
    exact ⟨rfl, (by repeat (first | exact Below.refl _ _ | assumption | refine bal ?_ _ | refine bdn ?_ _ | refine bdr ?_ | refine bcl ?_ (by assumption)))⟩
end Go.Proofs.YtfelefkmbbfdjaaGreatDoor
