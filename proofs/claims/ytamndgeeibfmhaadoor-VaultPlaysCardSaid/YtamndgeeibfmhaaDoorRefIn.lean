/- The reference's In, Power, Factors, At, Points, Dealt, True: what each returns. -/
import Derived.Test.YtamndgeeibfmhaaDoorProof
import Derived.Test.YtamndgeeibfmhaaDoorShare
namespace Go.Proofs.YtamndgeeibfmhaaDoor
open Go.RowKit
set_option linter.unusedVariables false

theorem rin_any (n : Int) (w : World) : Calls Tryd.prog 26 #[.int .i64 n] w fun e w' => e = .returned (.bool (inB n)) ∧ w = w' := by
  by_cases h0 : 0 ≤ n
  · by_cases h1 : n ≤ 256
    · have hr : inB n = true := inB_true.2 ⟨h0, by omega⟩
      rw [hr]
      clear hr
      go_enter Tryd.func26, Tryd.ntmps26
      go_wp2
      go_ret
      exact ⟨rfl, rfl⟩
    · have hr : inB n = false := inB_false.2 (by omega)
      rw [hr]
      clear hr
      go_enter Tryd.func26, Tryd.ntmps26
      go_wp2
      go_ret
      exact ⟨rfl, rfl⟩
  · have hr : inB n = false := inB_false.2 (by omega)
    rw [hr]
    clear hr
    go_enter Tryd.func26, Tryd.ntmps26
    go_wp2
    go_ret
    exact ⟨rfl, rfl⟩

theorem rpower_zero (a by' : Int) (w : World) (h2 : 2 ≤ by') :
    Calls Tryd.prog 50 #[.int .i64 a, .int .i64 0, .int .i64 by'] w fun e w' => e = .returned (.int .i64 (a ^ (0 : Int).toNat % by')) ∧ w = w' := by
  have hv : a ^ (0 : Int).toNat % by' = 1 := by show a ^ 0 % by' = 1; rw [Int.pow_zero]; exact Int.emod_eq_of_lt (by omega) (by omega)
  rw [hv]
  clear hv
  go_enter Tryd.func50, Tryd.ntmps50
  go_wp2_with fail
  go_ret
  exact ⟨rfl, rfl⟩
set_option maxHeartbeats 400000 in
theorem rpower_nat (k : Nat) : ∀ (a n by' : Int) (w : World), n ≤ k → 0 ≤ n → n ≤ 1000000 → 2 ≤ by' → by' ≤ 1000000 → 0 ≤ a → a < by' →
    Calls Tryd.prog 50 #[.int .i64 a, .int .i64 n, .int .i64 by'] w fun e w' => e = .returned (.int .i64 (a ^ n.toNat % by')) ∧ w = w' := by
  induction k with
  | zero =>
    intro a n by' w hk h0 h1 h2 h3 h4 h5
    obtain rfl : n = 0 := by omega
    exact rpower_zero a by' w h2
  | succ k ih =>
    intro a n by' w hk h0 h1 h2 h3 h4 h5
    by_cases hn : n = 0
    · subst hn
      exact rpower_zero a by' w h2
    · have hz : (n == 0) = false := beq_eq_false_iff_ne.2 hn
      have c := fun W => ih a (n / 2) by' W (by omega) (by omega) (by omega) h2 h3 h4 h5
      have hh := PM.pow_half a by' n.toNat _ rfl
      have r0 : 0 ≤ a ^ (n / 2).toNat % by' := Int.emod_nonneg _ (by omega)
      have r1 : a ^ (n / 2).toNat % by' < by' := Int.emod_lt_of_pos _ (by omega)
      rw [show n.toNat / 2 = (n / 2).toNat by omega] at hh
      generalize a ^ (n / 2).toNat % by' = h at *
      generalize a ^ n.toNat % by' = V at *
      obtain ⟨m1, m2⟩ := mul_bd r0 r1 r0 r1 h3
      have q0 : 0 ≤ h * h % by' := Int.emod_nonneg _ (by omega)
      have q1 : h * h % by' < by' := Int.emod_lt_of_pos _ (by omega)
      obtain ⟨m3, m4⟩ := mul_bd q0 q1 h4 h5 h3
      have C := Lib.hid c; clear c ih hn
      rcases Nat.mod_two_eq_zero_or_one n.toNat with e | e
      · rw [if_neg (by omega)] at hh
        have hb : (n % 2 == 1) = false := beq_eq_false_iff_ne.2 (by omega)
        have HH := Lib.hid hh; clear hh e
        go_enter Tryd.func50, Tryd.ntmps50
        go_wp2_with (go_at_call 50; refine (C.out _).mono ?_; rintro e w' ⟨rfl, rfl⟩)
        go_ret
        exact ⟨by rw [← HH.out]; rfl, rfl⟩
      · rw [if_pos e] at hh
        have hb : (n % 2 == 1) = true := beq_iff_eq.2 (by omega)
        have HH := Lib.hid hh; clear hh e
        go_enter Tryd.func50, Tryd.ntmps50
        go_wp2_with (go_at_call 50; refine (C.out _).mono ?_; rintro e w' ⟨rfl, rfl⟩)
        go_ret
        exact ⟨by rw [← HH.out]; rfl, rfl⟩
theorem rpower_any (a n by' : Int) (w : World) (h0 : 0 ≤ n) (h1 : n ≤ 1000000) (h2 : 2 ≤ by') (h3 : by' ≤ 1000000) (h4 : 0 ≤ a) (h5 : a < by') :
    Calls Tryd.prog 50 #[.int .i64 a, .int .i64 n, .int .i64 by'] w fun e w' => e = .returned (.int .i64 (a ^ n.toNat % by')) ∧ w = w' := rpower_nat 1000000 a n by' w h1 h0 h1 h2 h3 h4 h5

/-- the fault of some factors, as a number -/
def facE (xs : List Int) : Int := if 7 < xs.length then 4 else if allIn xs xs.length = true then 0 else 1
theorem facV_eV (xs : List Int) : facV xs = eV (facE xs) := by
  unfold facV facE; split
  · rfl
  · split <;> rfl
set_option maxHeartbeats 800000 in
theorem rfactors_any (A : Option Addr) (cap : Nat) (xs : List Int) (w : World) (hA : Ints w A xs) :
    Calls Tryd.prog 48 #[.slice A xs.length cap] w fun e w' => e = .returned (.int .i64 (facE xs)) ∧ w = w' := by
  by_cases hl : 7 < xs.length
  · have hv : facE xs = 4 := by rw [facE, if_pos hl]
    rw [hv]
    clear hv
    go_enter Tryd.func48, Tryd.ntmps48
    go_wp2
    go_ret
    exact ⟨rfl, rfl⟩
  · have hl : xs.length ≤ 7 := by omega
    go_enter Tryd.func48, Tryd.ntmps48
    go_wp2_with fail
    go_loop [3, 4] (fun i _ => ∃ k : Nat, k ≤ xs.length ∧ i = .int .i64 k ∧ Hid (allIn xs k = true)) (fun i _ => xs.length - (intOf i).toNat)
    case atStart => exact ⟨0, Nat.zero_le _, rfl, rfl⟩
    case round =>
      obtain ⟨k, hk, rfl, ha⟩ := hrel
      by_cases hlt : k < xs.length
      · obtain ⟨b, off, rfl, hbl, hcell⟩ := hA.at_ hlt
        cases hb : inB (gi xs k) with
        | true =>
          have hn : allIn xs (k + 1) = true := by simp only [allIn, ha.out, hb, Bool.and_self]
          have HN := Lib.hid hn; clear hn
          go_wp2_with (go_at_call 26; refine (rin_any _ _).mono ?_; rintro e w' ⟨rfl, rfl⟩)
          go_round
          case rel => exact ⟨k + 1, by omega, by go_num, HN⟩
          case measure => simp [intOf]; omega
        | false =>
          have hv : facE xs = 1 := by rw [facE, if_neg (by omega), if_neg (by rw [allIn_false hb hlt]; decide)]
          have HV := Lib.hid hv; clear hv
          go_wp2_with (go_at_call 26; refine (rin_any _ _).mono ?_; rintro e w' ⟨rfl, rfl⟩)
          rw [HV.out]
          go_ret
          exact ⟨rfl, rfl⟩
      · obtain rfl : k = xs.length := by omega
        have hv : facE xs = 0 := by rw [facE, if_neg (by omega), if_pos ha.out]
        have HV := Lib.hid hv; clear hv
        go_wp2_with fail
        rw [HV.out]
        go_ret
        exact ⟨rfl, rfl⟩

set_option maxHeartbeats 800000 in
theorem rat_any (A : Option Addr) (cap : Nat) (p : List Int) (x : Int) (hl : p.length ≤ 7) (hi : allIn p p.length = true) (x0 : 0 ≤ x) (x1 : x < 257) (w : World) (hI : Ints w A p) :
    Calls Tryd.prog 49 #[.slice A p.length cap, .int .i64 x] w fun e w' => e = .returned (.int .i64 (PM.hor p x)) ∧ w = w' := by
  have HI := Lib.hid hi; clear hi
  have hv := PM.atS_hor p x
  rw [show (fun i => p.getD i 0) = gi p from rfl] at hv
  rw [← hv]
  clear hv
  go_enter Tryd.func49, Tryd.ntmps49
  go_wp2_with fail
  go_loop [5, 6, 7] (fun s t i => ∃ k : Nat, k ≤ p.length ∧ i = .int .i64 k ∧ s = .int .i64 (PM.atS (gi p) x k) ∧ t = .int .i64 (PM.atT x k)) (fun _ _ i => p.length - (intOf i).toNat)
  case atStart => exact ⟨0, Nat.zero_le _, rfl, rfl, rfl⟩
  case round =>
    obtain ⟨k, hk, rfl, rfl, rfl⟩ := hrel
    obtain ⟨s0, s1⟩ := PM.atS_range (gi p) x k
    obtain ⟨t0, t1⟩ := PM.atT_range x k
    by_cases hlt : k < p.length
    · obtain ⟨b, off, rfl, hbl, hcell⟩ := hI.at_ hlt
      obtain ⟨g0, g1⟩ := inB_true.1 (allIn_at HI.out hlt)
      have hs : PM.atS (gi p) x (k + 1) = (PM.atS (gi p) x k + gi p k * PM.atT x k) % 257 := rfl
      have ht : PM.atT x (k + 1) = PM.atT x k * x % 257 := rfl
      have HS := Lib.hid hs; have HT := Lib.hid ht; clear hs ht
      generalize PM.atS (gi p) x k = S at *
      generalize PM.atT x k = T at *
      obtain ⟨m1, m2⟩ := mul_bd g0 g1 t0 t1 (by omega)
      obtain ⟨m3, m4⟩ := mul_bd t0 t1 x0 x1 (by omega)
      go_wp2_with fail
      go_round
      case rel => exact ⟨k + 1, by omega, by go_num, by rw [HS.out], by rw [HT.out]⟩
      case measure => simp [intOf]; omega
    · obtain rfl : k = p.length := by omega
      go_wp2_with fail
      go_ret
      exact ⟨rfl, rfl⟩

set_option maxHeartbeats 800000 in
theorem rdealt_any (s : Int) (A : Option Addr) (cap : Nat) (r : List Int) (m : Int) (w : World) (hI : Ints w A r) :
    Calls Tryd.prog 22 #[.int .i64 s, .slice A r.length cap, .int .i64 m] w fun e w' => e = .returned (.int .i64 (shE s r m)) ∧ w = w' := by
  have c1 := fun W (hW : Ints W A r) => rfactors_any A cap r W hW
  cases hs : inB s with
  | false =>
    have hv : shE s r m = 1 := by rw [shE, if_pos hs]
    rw [hv]
    clear hv c1
    go_enter Tryd.func22, Tryd.ntmps22
    go_wp2_with (go_at_call 26; refine (rin_any _ _).mono ?_; rintro e w' ⟨rfl, rfl⟩)
    go_ret
    exact ⟨rfl, rfl⟩
  | true =>
    by_cases h6 : 6 < r.length
    · have hv : shE s r m = 4 := by rw [shE, if_neg (by rw [hs]; decide), if_pos h6]
      rw [hv]
      clear hv c1
      go_enter Tryd.func22, Tryd.ntmps22
      go_wp2_with (go_at_call 26; refine (rin_any _ _).mono ?_; rintro e w' ⟨rfl, rfl⟩)
      go_ret
      exact ⟨rfl, rfl⟩
    · cases ha : allIn r r.length with
      | false =>
        have hf : facE r = 1 := by rw [facE, if_neg (by omega), if_neg (by rw [ha]; decide)]
        have hv : shE s r m = 1 := by rw [shE, if_neg (by rw [hs]; decide), if_neg h6, if_pos ha]
        rw [hv]
        rw [hf] at c1
        have C1 := Lib.hid c1; clear hv c1 hf ha
        go_enter Tryd.func22, Tryd.ntmps22
        go_wp2_with (first | (go_at_call 26; refine (rin_any _ _).mono ?_; rintro e w' ⟨rfl, rfl⟩) | (go_at_call 48; refine (C1.out _ hI).mono ?_; rintro e w' ⟨rfl, rfl⟩))
        go_ret
        exact ⟨rfl, rfl⟩
      | true =>
        have hf : facE r = 0 := by rw [facE, if_neg (by omega), if_pos ha]
        have hv : shE s r m = if manB m = false then 1 else if m ≤ r.length then 3 else 0 := by rw [shE, if_neg (by rw [hs]; decide), if_neg h6, if_neg (by rw [ha]; decide)]
        rw [hf] at c1
        have C1 := Lib.hid c1; have HA := Lib.hid ha; clear c1 hf ha
        by_cases h1 : 1 ≤ m
        · by_cases h7 : m ≤ 7
          · rw [if_neg (by rw [manB_true.2 ⟨h1, h7⟩]; decide)] at hv
            by_cases h3 : m ≤ r.length
            · rw [if_pos h3] at hv
              rw [hv]
              clear hv
              go_enter Tryd.func22, Tryd.ntmps22
              go_wp2_with (first | (go_at_call 26; refine (rin_any _ _).mono ?_; rintro e w' ⟨rfl, rfl⟩) | (go_at_call 48; refine (C1.out _ hI).mono ?_; rintro e w' ⟨rfl, rfl⟩))
              go_ret
              exact ⟨rfl, rfl⟩
            · rw [if_neg h3] at hv
              rw [hv]
              clear hv
              go_enter Tryd.func22, Tryd.ntmps22
              go_wp2_with (first | (go_at_call 26; refine (rin_any _ _).mono ?_; rintro e w' ⟨rfl, rfl⟩) | (go_at_call 48; refine (C1.out _ hI).mono ?_; rintro e w' ⟨rfl, rfl⟩))
              go_ret
              exact ⟨rfl, rfl⟩
          · rw [if_pos (by rw [← Bool.not_eq_true, manB_true]; omega)] at hv
            rw [hv]
            clear hv
            go_enter Tryd.func22, Tryd.ntmps22
            go_wp2_with (first | (go_at_call 26; refine (rin_any _ _).mono ?_; rintro e w' ⟨rfl, rfl⟩) | (go_at_call 48; refine (C1.out _ hI).mono ?_; rintro e w' ⟨rfl, rfl⟩))
            go_ret
            exact ⟨rfl, rfl⟩
        · rw [if_pos (by rw [← Bool.not_eq_true, manB_true]; omega)] at hv
          rw [hv]
          clear hv
          go_enter Tryd.func22, Tryd.ntmps22
          go_wp2_with (first | (go_at_call 26; refine (rin_any _ _).mono ?_; rintro e w' ⟨rfl, rfl⟩) | (go_at_call 48; refine (C1.out _ hI).mono ?_; rintro e w' ⟨rfl, rfl⟩))
          go_ret
          exact ⟨rfl, rfl⟩
end Go.Proofs.YtamndgeeibfmhaaDoor
