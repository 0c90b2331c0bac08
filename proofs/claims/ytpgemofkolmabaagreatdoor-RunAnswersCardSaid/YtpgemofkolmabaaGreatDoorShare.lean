/- The functions of package share: Many, Check, Factors, Deal, Join: what each returns. -/
import Derived.Test.YtpgemofkolmabaaGreatDoorPolyThr
import Derived.Test.YtpgemofkolmabaaGreatDoorOwn
namespace Go.Proofs.YtpgemofkolmabaaGreatDoor
open Go.RowKit
set_option linter.unusedVariables false

/-- may there be so many? -/
def manB (n : Int) : Bool := decide (1 ≤ n) && decide (n ≤ 7)
theorem manB_true {n : Int} : manB n = true ↔ 1 ≤ n ∧ n ≤ 7 := by simp [manB]
theorem many_any (n : Int) (w : World) : Calls Tryz.prog 200 #[.int .i64 n] w fun e w' => e = .returned (.bool (manB n)) ∧ w = w' := by
  by_cases h0 : 1 ≤ n
  · by_cases h1 : n ≤ 7
    · have hr : manB n = true := manB_true.2 ⟨h0, h1⟩
      rw [hr]
      clear hr
      go_enter Tryz.func200, Tryz.ntmps200
      go_wp2
      go_ret
      exact ⟨rfl, rfl⟩
    · have hr : manB n = false := by rw [← Bool.not_eq_true, manB_true]; omega
      rw [hr]
      clear hr
      go_enter Tryz.func200, Tryz.ntmps200
      go_wp2
      go_ret
      exact ⟨rfl, rfl⟩
  · have hr : manB n = false := by rw [← Bool.not_eq_true, manB_true]; omega
    rw [hr]
    clear hr
    go_enter Tryz.func200, Tryz.ntmps200
    go_wp2
    go_ret
    exact ⟨rfl, rfl⟩

/-- what is wrong with a secret, and what is beside it -/
def shE (s : Int) (r : List Int) (m : Int) : Int := if inB s = false then 1 else if 6 < r.length then 4 else if allIn r r.length = false then 1 else if manB m = false then 1 else if m ≤ r.length then 3 else 0
theorem shE_zero {s : Int} {r : List Int} {m : Int} (h : shE s r m = 0) : inB s = true ∧ r.length ≤ 6 ∧ allIn r r.length = true ∧ manB m = true ∧ (r.length : Int) < m := by
  unfold shE at h
  split at h
  · cases h
  · split at h
    · cases h
    · split at h
      · cases h
      · split at h
        · cases h
        · split at h
          · cases h
          · rename_i h1 h2 h3 h4 h5
            exact ⟨by simpa using h1, by omega, by simpa using h3, by simpa using h4, by omega⟩
theorem shE_of {s : Int} {r : List Int} {m : Int} (h1 : inB s = true) (h2 : r.length ≤ 6) (h3 : allIn r r.length = true) (h4 : manB m = true) (h5 : (r.length : Int) < m) : shE s r m = 0 := by
  rw [shE, if_neg (by rw [h1]; decide), if_neg (by omega), if_neg (by rw [h3]; decide), if_neg (by rw [h4]; decide), if_neg (by omega)]

theorem shcheck_any (s : Int) (A : Option Addr) (cap : Nat) (r : List Int) (m : Int) (w : World) (hI : Ints w A r) :
    Calls Tryz.prog 172 #[.int .i64 s, .slice A r.length cap, .int .i64 m] w fun e w' => e = .returned (eV (shE s r m)) ∧ w = w' := by
  have c1 := fun W (hW : Ints W A r) => factors_any A cap r W hW
  cases hs : inB s with
  | false =>
    have hv : eV (shE s r m) = errV 1 := by rw [shE, if_pos hs]; rfl
    rw [hv]
    clear hv c1
    go_enter Tryz.func172, Tryz.ntmps172
    go_wp2_with (go_at_call 198; refine (in_any _ _).mono ?_; rintro e w' ⟨rfl, rfl⟩)
    go_ret
    exact ⟨rfl, rfl⟩
  | true =>
    by_cases h6 : 6 < r.length
    · have hv : eV (shE s r m) = errV 4 := by rw [shE, if_neg (by rw [hs]; decide), if_pos h6]; rfl
      rw [hv]
      clear hv c1
      go_enter Tryz.func172, Tryz.ntmps172
      go_wp2_with (go_at_call 198; refine (in_any _ _).mono ?_; rintro e w' ⟨rfl, rfl⟩)
      go_ret
      exact ⟨rfl, rfl⟩
    · have h6' : r.length ≤ 6 := by omega
      cases ha : allIn r r.length with
      | false =>
        have hv : eV (shE s r m) = errV 1 := by rw [shE, if_neg (by rw [hs]; decide), if_neg h6, if_pos ha]; rfl
        have hf : facV r = errV 1 := by rw [facV, if_neg (by omega), if_neg (by rw [ha]; decide)]
        rw [hv]
        rw [hf] at c1
        have C1 := Lib.hid c1; clear hv hf c1 h6
        go_enter Tryz.func172, Tryz.ntmps172
        go_wp2_with (first | (go_at_call 198; refine (in_any _ _).mono ?_; rintro e w' ⟨rfl, rfl⟩) | (go_at_call 199; refine (C1.out _ hI).mono ?_; rintro e w' ⟨rfl, rfl⟩))
        go_ret
        exact ⟨rfl, rfl⟩
      | true =>
        have hf : facV r = .nilIface := facV_ok (by omega) ha
        rw [hf] at c1
        have C1 := Lib.hid c1; clear hf c1
        cases hm : manB m with
        | false =>
          have hv : eV (shE s r m) = errV 1 := by rw [shE, if_neg (by rw [hs]; decide), if_neg h6, if_neg (by rw [ha]; decide), if_pos hm]; rfl
          rw [hv]
          clear hv h6
          go_enter Tryz.func172, Tryz.ntmps172
          go_wp2_with (first | (go_at_call 198; refine (in_any _ _).mono ?_; rintro e w' ⟨rfl, rfl⟩) | (go_at_call 199; refine (C1.out _ hI).mono ?_; rintro e w' ⟨rfl, rfl⟩) | (go_at_call 200; refine (many_any _ _).mono ?_; rintro e w' ⟨rfl, rfl⟩))
          go_ret
          exact ⟨rfl, rfl⟩
        | true =>
          by_cases hml : m ≤ r.length
          · have hv : eV (shE s r m) = errV 3 := by rw [shE, if_neg (by rw [hs]; decide), if_neg h6, if_neg (by rw [ha]; decide), if_neg (by rw [hm]; decide), if_pos hml]; rfl
            rw [hv]
            clear hv h6
            go_enter Tryz.func172, Tryz.ntmps172
            go_wp2_with (first | (go_at_call 198; refine (in_any _ _).mono ?_; rintro e w' ⟨rfl, rfl⟩) | (go_at_call 199; refine (C1.out _ hI).mono ?_; rintro e w' ⟨rfl, rfl⟩) | (go_at_call 200; refine (many_any _ _).mono ?_; rintro e w' ⟨rfl, rfl⟩))
            go_ret
            exact ⟨rfl, rfl⟩
          · have hv : eV (shE s r m) = .nilIface := by rw [shE_of hs h6' ha hm (by omega)]; rfl
            rw [hv]
            clear hv h6
            go_enter Tryz.func172, Tryz.ntmps172
            go_wp2_with (first | (go_at_call 198; refine (in_any _ _).mono ?_; rintro e w' ⟨rfl, rfl⟩) | (go_at_call 199; refine (C1.out _ hI).mono ?_; rintro e w' ⟨rfl, rfl⟩) | (go_at_call 200; refine (many_any _ _).mono ?_; rintro e w' ⟨rfl, rfl⟩))
            go_ret
            exact ⟨rfl, rfl⟩

theorem own_lit (w : World) (n : Int) {g : Nat} (hg : g = w.heap.size) {base : Nat} (hb : base ≤ w.heap.size) : OInts (w.alloc (.cells #[.int .i64 n] 3)) base (some ⟨g, 0, none⟩) 1 [n] := by
  subst hg
  exact ⟨rfl, .inr ⟨w.heap.size, 1, #[.int .i64 n], rfl, hb, heap_alloc_new w _, Nat.le_refl _, by decide, rfl, rfl⟩⟩

theorem shfactors_any (s : Int) (A : Option Addr) (cap : Nat) (r : List Int) (hl : r.length ≤ 1000) (w : World) (hI : Ints w A r) :
    Calls Tryz.prog 173 #[.int .i64 s, .slice A r.length cap] w fun e w' => ∃ A' c', e = .returned (.slice A' (r.length + 1) c') ∧ OInts w' w.heap.size A' c' (s :: r) ∧ Below w.heap.size w w' := by
  have hI2 : Ints (w.alloc (.cells #[.int .i64 s] 3)) A r := Sl.alloc hI _
  have h1 : [s].length + r.length ≤ 1000000 := by simp; omega
  go_enter Tryz.func173, Tryz.ntmps173
  go_wp2_with (at_builtin; refine wpList_append_ints rfl _ _ rfl w.heap.size _ 1 [s] rfl (own_lit w s rfl (Nat.le_refl _)) A cap r rfl hI2 h1 (le_al (Nat.le_refl _) _) ?_; intro A2 c2 w2 ho hb)
  go_ret
  refine ⟨A2, c2, ?_, ho, (bal1 _ _).trans hb⟩
  rw [Nat.add_comm r.length 1]; rfl

/-! ### Deal -/
def dealL (p : List Int) (n : Nat) : List Sh := (List.range n).map fun i => (((i + 1 : Nat) : Int), PM.hor p ((i + 1 : Nat) : Int))
theorem dealL_succ (p : List Int) (n : Nat) : dealL p (n + 1) = dealL p n ++ [(((n + 1 : Nat) : Int), PM.hor p ((n + 1 : Nat) : Int))] := by simp [dealL, List.range_succ]
theorem dealL_length (p : List Int) (n : Nat) : (dealL p n).length = n := by simp [dealL]
theorem deal_ga (p : List Int) (n i : Nat) (h : i < n) : ga (dealL p n) i = ((i + 1 : Nat) : Int) := by simp [ga, dealL, h]
theorem deal_gb (p : List Int) (n i : Nat) (h : i < n) : gb (dealL p n) i = PM.hor p ((i + 1 : Nat) : Int) := by simp [gb, dealL, h]

theorem deal_no (s : Int) (A : Option Addr) (cap : Nat) (r : List Int) (m : Int) (he : shE s r m ≠ 0) (w : World) (hI : Ints w A r) :
    Calls Tryz.prog 142 #[.int .i64 s, .slice A r.length cap, .int .i64 m] w fun e w' => e = .returned (.tuple #[.slice none 0 0, errV (shE s r m)]) ∧ w = w' := by
  have c1 := shcheck_any s A cap r m w hI
  rw [eV, if_neg he] at c1
  have C1 := Lib.hid c1; clear c1 he
  go_enter Tryz.func142, Tryz.ntmps142
  go_wp2_with fail
  refine C1.out.mono ?_
  rintro e w' ⟨rfl, rfl⟩
  go_wp2_with fail
  go_ret2
  exact ⟨rfl, rfl⟩

set_option maxHeartbeats 1600000 in
theorem deal_ok (s : Int) (A : Option Addr) (cap : Nat) (r : List Int) (n : Nat) (he : shE s r n = 0) (w : World) (hI : Ints w A r) :
    Calls Tryz.prog 142 #[.int .i64 s, .slice A r.length cap, .int .i64 n] w fun e w' => ∃ A' c', e = .returned (.tuple #[.slice A' n c', .nilIface]) ∧ OShares w' w.heap.size A' c' (dealL (s :: r) n) ∧ Below w.heap.size w w' := by
  obtain ⟨hs, h6, ha, hm, hlt⟩ := shE_zero he
  obtain ⟨m0, m1⟩ := manB_true.1 hm
  have c1 := shcheck_any s A cap r n w hI
  rw [he, show eV 0 = .nilIface from rfl] at c1
  have c2 := shfactors_any s A cap r (by omega) w hI
  have hall : allIn (s :: r) (s :: r).length = true := allIn_of fun i hi => by
    cases i with
    | zero => simpa [gi] using hs
    | succ i => have := allIn_at ha (i := i) (by simpa using hi); simpa [gi] using this
  have hlen : (s :: r).length = r.length + 1 := rfl
  have c3 := fun A' c' (x : Int) (x0 : 0 ≤ x) (x1 : x < 257) W (hW : Ints W A' (s :: r)) => is_any A' c' (s :: r) x (by rw [hlen]; omega) hall x0 x1 W hW
  rw [hlen] at c3
  have C1 := Lib.hid c1; have C2 := Lib.hid c2; have C3 := Lib.hid c3; clear c1 c2 c3 he hs ha hm hall hlen
  go_enter Tryz.func142, Tryz.ntmps142
  go_wp2_with fail
  refine C1.out.mono ?_
  rintro e w' ⟨rfl, rfl⟩
  go_wp2_with fail
  refine C2.out.mono ?_
  rintro e w1 ⟨A1, c1, rfl, ho1, hb1⟩
  have hI1 := ho1.ints
  go_wp2_with fail
  go_loopw [10, 11] (fun o i wr => ∃ (k : Nat) (A' : Option Addr) (c' : Nat), k ≤ n ∧ i = .int .i64 ((k : Int) + 1) ∧ o = .slice A' (dealL (s :: r) k).length c' ∧ OShares wr w1.heap.size A' c' (dealL (s :: r) k) ∧ Below w1.heap.size w1 wr) (fun _ i _ => (n + 1) - (intOf i).toNat)
  case atStart => exact ⟨0, none, 0, Nat.zero_le _, rfl, rfl, OShares.nil, Below.refl _ _⟩
  case round =>
    obtain ⟨k, A', c', hk, rfl, rfl, ho, hb⟩ := hrel
    have hll : (dealL (s :: r) k).length = k := dealL_length (s :: r) k
    by_cases hlt2 : k < n
    · have hs := dealL_succ (s :: r) k
      have HS := Lib.hid hs; clear hs
      have hz := hb.size
      have hl6 : (dealL (s :: r) k).length ≤ 1000000 := by omega
      have c4 := C3.out A1 c1 ((k : Int) + 1) (by omega) (by omega) wr (hI1.below hb (Nat.le_refl _))
      have C4 := Lib.hid c4; have HL := Lib.hid hll; clear c4 hll
      go_wp2_with fail
      refine C4.out.mono ?_
      rintro e w2 ⟨rfl, hb2⟩
      have ho2 := ho.keep hb2
      have hb2' := bcl hb hb2
      have hz2 := hb2'.size
      go_wp2_with (at_builtin; refine wpList_append_share rfl _ _ rfl w1.heap.size A' c' _ rfl (ho2.keep (bal1 _ _)) w2.heap.size _ _ rfl (cell_new2a _ _ _ _) (cell_new2b _ _ _ _) hl6 (le_al hz2 _) ?_; intro A2 c2 w3 ho3 hb3)
      go_roundw
      case rel => exact ⟨k + 1, A2, c2, by omega, by go_num, by rw [HS.out]; simp, by rw [HS.out]; exact ho3, (bal hb2' _).trans hb3⟩
      case measure => simp [intOf]; omega
    · obtain rfl : k = n := by omega
      rw [hll]
      clear hll
      go_wp2_with fail
      go_ret2
      have hbz := hb1.size
      exact ⟨A', c', rfl, own_mono ho hbz, hb1.trans (hb.mono hbz)⟩

/-! ### Join -/
/-- what goes through points, at x -/
def thrL (l : List Sh) (x : Int) : Int := PM.thr (ga l) (gb l) l.length x l.length
/-- what is wrong -/
def joE (l : List Sh) (need : Int) : Int := if manB need = false then 1 else if poiE l ≠ 0 then poiE l else if (l.length : Int) < need then 5 else 0
theorem pts_take {l : List Sh} (h : PM.Pts (ga l) (gb l) l.length) (n : Nat) (hn : n ≤ l.length) : PM.Pts (ga (l.take n)) (gb (l.take n)) (l.take n).length := by
  rw [List.length_take, Nat.min_eq_left hn]
  exact ⟨fun i hi => by rw [ga_take l n i hi]; exact h.xr i (by omega), fun i hi => by rw [gb_take l n i hi]; exact h.yr i (by omega), fun i j hi hj hne => by rw [ga_take l n i hi, ga_take l n j hj]; exact h.ne i j (by omega) (by omega) hne⟩
end Go.Proofs.YtpgemofkolmabaaGreatDoor
