/- The functions of package proof: Of, Commit, True, Check: what each returns. The reference's In, Power, Factors, At, Points, Dealt, True: what each returns. The reference's Points and Next (Neville): what each returns. The reference's Next (Neville): what it returns. The reference's Deal, Join, Commit, True: what each returns. The reference's Cut: what it returns. The reference's ReadTuple: what it returns. The reference's number and name. The reference's S.Line, case by case. The reference's S.Line where the words are tuples. The reference's S.Line: once. The reference's S.Line: deal. The reference's S.Line: any line. Lines and pieces: plain. RunAnswers: the walk. -/
import Derived.Test.YtpgemofkolmabaaGreatDoorPolyThr
import Derived.Test.YtpgemofkolmabaaGreatDoorOwn
import Derived.Test.YtpgemofkolmabaaGreatDoorShare
import Derived.Deep.QuietTactic
import Derived.BigQuiet
import Derived.StillTailTactics
import Derived.Test.YtpgemofkolmabaaGreatDoorTpAll
import Derived.WalkKit
import Derived.WalkLawsBesides
import Derived.WalkSpells
import Derived.RegionTactic
import Derived.Outline
import Derived.Test.YtpgemofkolmabaaGreatDoorRnB
import Derived.Test.YtpgemofkolmabaaGreatDoorRSpOps
namespace Go.Proofs.YtpgemofkolmabaaGreatDoor
open Go.RowKit
set_option linter.unusedVariables false

/-- what factors commit to -/
def cmt (xs : List Int) : List Int := xs.map fun p => (64 : Int) ^ p.toNat % 1543

theorem cmt_take (xs : List Int) (k : Nat) (h : k < xs.length) : cmt (xs.take (k + 1)) = cmt (xs.take k) ++ [(64 : Int) ^ (gi xs k).toNat % 1543] := by
  rw [List.take_succ_eq_append_getElem h, cmt, List.map_append]
  simp [cmt, gi, h]

/-- are the first k commits right? -/
def cmB (c : List Int) : Nat → Bool
  | 0 => true
  | k + 1 => cmB c k && (decide (1 ≤ gi c k) && decide (gi c k < 1543))
theorem cmB_at {c : List Int} {k : Nat} (h : cmB c k = true) {i : Nat} (hi : i < k) : 1 ≤ gi c i ∧ gi c i < 1543 := by
  induction k with
  | zero => omega
  | succ k ih =>
    simp only [cmB, Bool.and_eq_true, decide_eq_true_eq] at h
    by_cases e : i = k
    · subst e; exact h.2
    · exact ih h.1 (by omega)
theorem cmB_of {c : List Int} {k : Nat} (h : ∀ i, i < k → 1 ≤ gi c i ∧ gi c i < 1543) : cmB c k = true := by
  induction k with
  | zero => rfl
  | succ k ih => simp only [cmB, Bool.and_eq_true, decide_eq_true_eq]; exact ⟨ih fun i hi => h i (by omega), h k (by omega)⟩
theorem cmB_false {c : List Int} {k n : Nat} (h : ¬ (1 ≤ gi c k ∧ gi c k < 1543)) (hk : k < n) : cmB c n = false := by
  cases e : cmB c n with
  | false => rfl
  | true => exact absurd (cmB_at e hk) h

/-- is a share one of these? -/
def truB (c : List Int) (a i : Int) : Bool := PM.trO (gi c) a c.length == (64 : Int) ^ i.toNat % 1543

theorem trO_congr (c d : Nat → Int) (x : Int) (k : Nat) (h : ∀ i, i < k → c i = d i) : PM.trO c x k = PM.trO d x k := by
  induction k with
  | zero => rfl
  | succ k ih => simp only [PM.trO]; rw [ih fun i hi => h i (by omega), h k (by omega)]
/-- A TRUE SHARE IS TOLD, A FALSE ONE CAUGHT -/
theorem truB_cmt (p : List Int) (hp : allIn p p.length = true) (a i : Int) (h0 : 0 ≤ i) (h1 : i < 257) : truB (cmt p) a i = (i == PM.hor p a) := by
  have hpos : ∀ j, 0 ≤ p.getD j 0 := fun j => by
    by_cases hj : j < p.length
    · exact (inB_true.1 (allIn_at hp hj)).1
    · simp [List.getD_eq_getElem?_getD, List.getElem?_eq_none (by omega : p.length ≤ j)]
  have h := PM.feldman p hpos a i h0 h1
  have hl : (cmt p).length = p.length := by simp [cmt]
  have e : PM.trO (gi (cmt p)) a (cmt p).length = PM.trO (fun j => (64 : Int) ^ (p.getD j 0).toNat % 1543) a p.length := by
    rw [hl]
    exact trO_congr _ _ _ _ fun j hj => by simp [gi, cmt, hj]
  rw [truB, e, Bool.eq_iff_iff]
  simp only [beq_iff_eq]
  exact h
/-- what commits there are, are right -/
theorem cmt_good (p : List Int) (k : Nat) (hk : k ≤ (cmt p).length) : cmB (cmt p) k = true := by
  refine cmB_of fun i hi => ?_
  have hil : i < p.length := by simp [cmt] at hk; omega
  have e : gi (cmt p) i = (64 : Int) ^ (gi p i).toNat % 1543 := by simp [gi, cmt, hil]
  rw [e]
  refine ⟨?_, by omega⟩
  have hn := PM.g_mod (gi p i).toNat
  rw [hn]
  have : ∀ m, m < 257 → 1 ≤ (64 : Int) ^ m % 1543 := by decide +kernel
  exact this _ (by omega)

/-- what Check says is wrong -/
def chkE (c : List Int) (a i : Int) : Int := if c.length = 0 then 5 else if 7 < c.length then 4 else if cmB c c.length = false then 1 else if (inB a && inB i) = false then 1 else 0
theorem chkE_zero {c : List Int} {a i : Int} (h : chkE c a i = 0) : 0 < c.length ∧ c.length ≤ 7 ∧ cmB c c.length = true ∧ inB a = true ∧ inB i = true := by
  unfold chkE at h
  split at h
  · cases h
  · split at h
    · cases h
    · split at h
      · cases h
      · split at h
        · cases h
        · rename_i h1 h2 h3 h4
          have h5 : cmB c c.length = true := by simpa using h3
          have h6 : (inB a && inB i) = true := by simpa using h4
          rw [Bool.and_eq_true] at h6
          exact ⟨by omega, by omega, h5, h6.1, h6.2⟩
theorem chkE_of {c : List Int} {a i : Int} (h0 : 0 < c.length) (h1 : c.length ≤ 7) (h2 : cmB c c.length = true) (h3 : inB a = true) (h4 : inB i = true) : chkE c a i = 0 := by
  rw [chkE, if_neg (by omega), if_neg (by omega), if_neg (by rw [h2]; decide), if_neg (by rw [h3, h4]; decide)]
end Go.Proofs.YtpgemofkolmabaaGreatDoor
namespace Go.Proofs.YtpgemofkolmabaaGreatDoor
open Go.RowKit
set_option linter.unusedVariables false

theorem rin_any (n : Int) (w : World) : Calls Tryz.prog 91 #[.int .i64 n] w fun e w' => e = .returned (.bool (inB n)) ∧ w = w' := by
  by_cases h0 : 0 ≤ n
  · by_cases h1 : n ≤ 256
    · have hr : inB n = true := inB_true.2 ⟨h0, by omega⟩
      rw [hr]
      clear hr
      go_enter Tryz.func91, Tryz.ntmps91
      go_wp2
      go_ret
      exact ⟨rfl, rfl⟩
    · have hr : inB n = false := inB_false.2 (by omega)
      rw [hr]
      clear hr
      go_enter Tryz.func91, Tryz.ntmps91
      go_wp2
      go_ret
      exact ⟨rfl, rfl⟩
  · have hr : inB n = false := inB_false.2 (by omega)
    rw [hr]
    clear hr
    go_enter Tryz.func91, Tryz.ntmps91
    go_wp2
    go_ret
    exact ⟨rfl, rfl⟩


/-- the fault of some factors, as a number -/
def facE (xs : List Int) : Int := if 7 < xs.length then 4 else if allIn xs xs.length = true then 0 else 1
theorem facV_eV (xs : List Int) : facV xs = eV (facE xs) := by
  unfold facV facE; split
  · rfl
  · split <;> rfl
set_option maxHeartbeats 800000 in
theorem rfactors_any (A : Option Addr) (cap : Nat) (xs : List Int) (w : World) (hA : Ints w A xs) :
    Calls Tryz.prog 92 #[.slice A xs.length cap] w fun e w' => e = .returned (.int .i64 (facE xs)) ∧ w = w' := by
  by_cases hl : 7 < xs.length
  · have hv : facE xs = 4 := by rw [facE, if_pos hl]
    rw [hv]
    clear hv
    go_enter Tryz.func92, Tryz.ntmps92
    go_wp2
    go_ret
    exact ⟨rfl, rfl⟩
  · have hl : xs.length ≤ 7 := by omega
    go_enter Tryz.func92, Tryz.ntmps92
    go_wp2_with fail
    go_loop [3, 4] (fun i _ => ∃ k : Nat, k ≤ xs.length ∧ i = .int .i64 k ∧ Hid (allIn xs k = true)) (fun i _ => xs.length - (intOf i).toNat)
    case atStart => exact ⟨0, Nat.zero_le _, rfl, rfl⟩
    case round =>
      obtain ⟨k, hk, rfl, ha⟩ := hrel
      by_cases hlt : k < xs.length
      · obtain ⟨b, off, rfl, hbl, hcell⟩ := hA.at_ hlt
        cases hb : inB (gi xs k) with
        | true =>
          have hn : allIn xs (k + 1) = true := by simp only [allIn, ha.out, hb, Bool.and_self]
          have HN := Lib.hid hn; clear hn
          go_wp2_with (go_at_call 91; refine (rin_any _ _).mono ?_; rintro e w' ⟨rfl, rfl⟩)
          go_round
          case rel => exact ⟨k + 1, by omega, by go_num, HN⟩
          case measure => simp [intOf]; omega
        | false =>
          have hv : facE xs = 1 := by rw [facE, if_neg (by omega), if_neg (by rw [allIn_false hb hlt]; decide)]
          have HV := Lib.hid hv; clear hv
          go_wp2_with (go_at_call 91; refine (rin_any _ _).mono ?_; rintro e w' ⟨rfl, rfl⟩)
          rw [HV.out]
          go_ret
          exact ⟨rfl, rfl⟩
      · obtain rfl : k = xs.length := by omega
        have hv : facE xs = 0 := by rw [facE, if_neg (by omega), if_pos ha.out]
        have HV := Lib.hid hv; clear hv
        go_wp2_with fail
        rw [HV.out]
        go_ret
        exact ⟨rfl, rfl⟩

set_option maxHeartbeats 800000 in
theorem rat_any (A : Option Addr) (cap : Nat) (p : List Int) (x : Int) (hl : p.length ≤ 7) (hi : allIn p p.length = true) (x0 : 0 ≤ x) (x1 : x < 257) (w : World) (hI : Ints w A p) :
    Calls Tryz.prog 93 #[.slice A p.length cap, .int .i64 x] w fun e w' => e = .returned (.int .i64 (PM.hor p x)) ∧ w = w' := by
  have HI := Lib.hid hi; clear hi
  have hv := PM.atS_hor p x
  rw [show (fun i => p.getD i 0) = gi p from rfl] at hv
  rw [← hv]
  clear hv
  go_enter Tryz.func93, Tryz.ntmps93
  go_wp2_with fail
  go_loop [5, 6, 7] (fun s t i => ∃ k : Nat, k ≤ p.length ∧ i = .int .i64 k ∧ s = .int .i64 (PM.atS (gi p) x k) ∧ t = .int .i64 (PM.atT x k)) (fun _ _ i => p.length - (intOf i).toNat)
  case atStart => exact ⟨0, Nat.zero_le _, rfl, rfl, rfl⟩
  case round =>
    obtain ⟨k, hk, rfl, rfl, rfl⟩ := hrel
    obtain ⟨s0, s1⟩ := PM.atS_range (gi p) x k
    obtain ⟨t0, t1⟩ := PM.atT_range x k
    by_cases hlt : k < p.length
    · obtain ⟨b, off, rfl, hbl, hcell⟩ := hI.at_ hlt
      obtain ⟨g0, g1⟩ := inB_true.1 (allIn_at HI.out hlt)
      have hs : PM.atS (gi p) x (k + 1) = (PM.atS (gi p) x k + gi p k * PM.atT x k) % 257 := rfl
      have ht : PM.atT x (k + 1) = PM.atT x k * x % 257 := rfl
      have HS := Lib.hid hs; have HT := Lib.hid ht; clear hs ht
      generalize PM.atS (gi p) x k = S at *
      generalize PM.atT x k = T at *
      obtain ⟨m1, m2⟩ := mul_bd g0 g1 t0 t1 (by omega)
      obtain ⟨m3, m4⟩ := mul_bd t0 t1 x0 x1 (by omega)
      go_wp2_with fail
      go_round
      case rel => exact ⟨k + 1, by omega, by go_num, by rw [HS.out], by rw [HT.out]⟩
      case measure => simp [intOf]; omega
    · obtain rfl : k = p.length := by omega
      go_wp2_with fail
      go_ret
      exact ⟨rfl, rfl⟩

set_option maxHeartbeats 800000 in
theorem rdealt_any (s : Int) (A : Option Addr) (cap : Nat) (r : List Int) (m : Int) (w : World) (hI : Ints w A r) :
    Calls Tryz.prog 51 #[.int .i64 s, .slice A r.length cap, .int .i64 m] w fun e w' => e = .returned (.int .i64 (shE s r m)) ∧ w = w' := by
  have c1 := fun W (hW : Ints W A r) => rfactors_any A cap r W hW
  cases hs : inB s with
  | false =>
    have hv : shE s r m = 1 := by rw [shE, if_pos hs]
    rw [hv]
    clear hv c1
    go_enter Tryz.func51, Tryz.ntmps51
    go_wp2_with (go_at_call 91; refine (rin_any _ _).mono ?_; rintro e w' ⟨rfl, rfl⟩)
    go_ret
    exact ⟨rfl, rfl⟩
  | true =>
    by_cases h6 : 6 < r.length
    · have hv : shE s r m = 4 := by rw [shE, if_neg (by rw [hs]; decide), if_pos h6]
      rw [hv]
      clear hv c1
      go_enter Tryz.func51, Tryz.ntmps51
      go_wp2_with (go_at_call 91; refine (rin_any _ _).mono ?_; rintro e w' ⟨rfl, rfl⟩)
      go_ret
      exact ⟨rfl, rfl⟩
    · cases ha : allIn r r.length with
      | false =>
        have hf : facE r = 1 := by rw [facE, if_neg (by omega), if_neg (by rw [ha]; decide)]
        have hv : shE s r m = 1 := by rw [shE, if_neg (by rw [hs]; decide), if_neg h6, if_pos ha]
        rw [hv]
        rw [hf] at c1
        have C1 := Lib.hid c1; clear hv c1 hf ha
        go_enter Tryz.func51, Tryz.ntmps51
        go_wp2_with (first | (go_at_call 91; refine (rin_any _ _).mono ?_; rintro e w' ⟨rfl, rfl⟩) | (go_at_call 92; refine (C1.out _ hI).mono ?_; rintro e w' ⟨rfl, rfl⟩))
        go_ret
        exact ⟨rfl, rfl⟩
      | true =>
        have hf : facE r = 0 := by rw [facE, if_neg (by omega), if_pos ha]
        have hv : shE s r m = if manB m = false then 1 else if m ≤ r.length then 3 else 0 := by rw [shE, if_neg (by rw [hs]; decide), if_neg h6, if_neg (by rw [ha]; decide)]
        rw [hf] at c1
        have C1 := Lib.hid c1; have HA := Lib.hid ha; clear c1 hf ha
        by_cases h1 : 1 ≤ m
        · by_cases h7 : m ≤ 7
          · rw [if_neg (by rw [manB_true.2 ⟨h1, h7⟩]; decide)] at hv
            by_cases h3 : m ≤ r.length
            · rw [if_pos h3] at hv
              rw [hv]
              clear hv
              go_enter Tryz.func51, Tryz.ntmps51
              go_wp2_with (first | (go_at_call 91; refine (rin_any _ _).mono ?_; rintro e w' ⟨rfl, rfl⟩) | (go_at_call 92; refine (C1.out _ hI).mono ?_; rintro e w' ⟨rfl, rfl⟩))
              go_ret
              exact ⟨rfl, rfl⟩
            · rw [if_neg h3] at hv
              rw [hv]
              clear hv
              go_enter Tryz.func51, Tryz.ntmps51
              go_wp2_with (first | (go_at_call 91; refine (rin_any _ _).mono ?_; rintro e w' ⟨rfl, rfl⟩) | (go_at_call 92; refine (C1.out _ hI).mono ?_; rintro e w' ⟨rfl, rfl⟩))
              go_ret
              exact ⟨rfl, rfl⟩
          · rw [if_pos (by rw [← Bool.not_eq_true, manB_true]; omega)] at hv
            rw [hv]
            clear hv
            go_enter Tryz.func51, Tryz.ntmps51
            go_wp2_with (first | (go_at_call 91; refine (rin_any _ _).mono ?_; rintro e w' ⟨rfl, rfl⟩) | (go_at_call 92; refine (C1.out _ hI).mono ?_; rintro e w' ⟨rfl, rfl⟩))
            go_ret
            exact ⟨rfl, rfl⟩
        · rw [if_pos (by rw [← Bool.not_eq_true, manB_true]; omega)] at hv
          rw [hv]
          clear hv
          go_enter Tryz.func51, Tryz.ntmps51
          go_wp2_with (first | (go_at_call 91; refine (rin_any _ _).mono ?_; rintro e w' ⟨rfl, rfl⟩) | (go_at_call 92; refine (C1.out _ hI).mono ?_; rintro e w' ⟨rfl, rfl⟩))
          go_ret
          exact ⟨rfl, rfl⟩
end Go.Proofs.YtpgemofkolmabaaGreatDoor
namespace Go.Proofs.YtpgemofkolmabaaGreatDoor
open Go.RowKit
set_option linter.unusedVariables false

theorem wasB_false {l : List Sh} {x : Int} {k : Nat} (h : wasB l x k = false) {j : Nat} (hj : j < k) : (ga l j == x) = false := by
  induction k with
  | zero => omega
  | succ k ih =>
    simp only [wasB, Bool.or_eq_false_iff] at h
    by_cases e : j = k
    · subst e; exact h.2
    · exact ih h.1 (by omega)
theorem wasB_true {l : List Sh} {x : Int} {k j : Nat} (hj : j < k) (h : (ga l j == x) = true) : wasB l x k = true := by
  cases e : wasB l x k with
  | true => rfl
  | false => rw [wasB_false e hj] at h; cases h

/-! ### Next, Neville's way: the row is filled, then written over in place -/
def seconds (l : List Sh) (k : Nat) : List Int := (List.range k).map (gb l)
theorem seconds_succ (l : List Sh) (k : Nat) : seconds l (k + 1) = seconds l k ++ [gb l k] := by simp [seconds, List.range_succ]
theorem seconds_length (l : List Sh) (k : Nat) : (seconds l k).length = k := by simp [seconds]
theorem seconds_at (l : List Sh) (n k : Nat) (h : k < n) : gi (seconds l n) k = gb l k := by simp [gi, seconds, h]
theorem OInts.at_ {w : World} {base c : Nat} {A : Option Addr} {l : List Int} (h : OInts w base A c l) (h0 : 0 < l.length) :
    ∃ g, A = some ⟨g, 0, none⟩ ∧ base ≤ g ∧ g < w.heap.size ∧ ∀ i, i < l.length → w.cell? ⟨g, i, none⟩ = some (.int .i64 (gi l i)) ∧ w.frozen? ⟨g, i, none⟩ = false := by
  obtain ⟨g, cap', hv, hgb, hlt⟩ := World.ownsRow.form h h0
  have hA : A = some ⟨g, 0, none⟩ := by injection hv
  subst hA
  refine ⟨g, rfl, hgb, hlt, fun i hi => ⟨?_, World.ownsRow.frozenAt h i⟩⟩
  rw [World.ownsRow.cellAt h i (by omega)]
  simp [gi, hi]
theorem OInts.set {w : World} {base c g : Nat} {l : List Int} (h : OInts w base (some ⟨g, 0, none⟩) c l) (i : Nat) (v : Int) (hb : base ≤ g) {w0 : World} (hz : w0.heap.size ≤ base) (h0 : Below w0.heap.size w0 w) :
    OInts (w.setCell ⟨g, i, none⟩ (.int .i64 v)) base (some ⟨g, 0, none⟩) c (l.set i v) ∧ Below w0.heap.size w0 (w.setCell ⟨g, i, none⟩ (.int .i64 v)) := by
  obtain ⟨h1, h2⟩ := World.ownsRow.stored h i (.int .i64 v)
  refine ⟨?_, bset h0 (by show w0.heap.size ≤ g; omega) _⟩
  unfold OInts
  rw [List.length_set, List.map_set]; exact h1
theorem gi_set (l : List Int) (i : Nat) (v : Int) (hi : i < l.length) (j : Nat) : gi (l.set i v) j = if j = i then v else gi l j := by
  unfold gi
  simp only [List.getD_eq_getElem?_getD, List.getElem?_set]
  by_cases e : i = j
  · subst e; rw [if_pos rfl, if_pos rfl, if_pos hi]; rfl
  · rw [if_neg e, if_neg (fun h => e h.symm)]
end Go.Proofs.YtpgemofkolmabaaGreatDoor
namespace Go.Proofs.YtpgemofkolmabaaGreatDoor
open Go.RowKit
set_option linter.unusedVariables false

end Go.Proofs.YtpgemofkolmabaaGreatDoor
namespace Go.Proofs.YtpgemofkolmabaaGreatDoor
open Go.RowKit
set_option linter.unusedVariables false

set_option maxHeartbeats 1600000 in
set_option maxRecDepth 100000 in
theorem rdeal_any (s : Int) (A : Option Addr) (cap : Nat) (r : List Int) (n : Nat) (he : shE s r n = 0) (w : World) (hI : Ints w A r) :
    Calls Tryz.prog 53 #[.int .i64 s, .slice A r.length cap, .int .i64 n] w fun e w' => ∃ A' c', e = .returned (.slice A' n c') ∧ OShares w' w.heap.size A' c' (dealL (s :: r) n) ∧ Below w.heap.size w w' := by
  obtain ⟨hs, h6, ha, hm, hlt⟩ := shE_zero he
  obtain ⟨m0, m1⟩ := manB_true.1 hm
  have hall : allIn (s :: r) (s :: r).length = true := allIn_of fun i hi => by
    cases i with
    | zero => simpa [gi] using hs
    | succ i => have := allIn_at ha (i := i) (by simpa using hi); simpa [gi] using this
  have hlen : (s :: r).length = 1 + r.length := by simp; omega
  have c3 := fun A' c' (x : Int) (x0 : 0 ≤ x) (x1 : x < 257) W (hW : Ints W A' (s :: r)) => rat_any A' c' (s :: r) x (by rw [hlen]; omega) hall x0 x1 W hW
  rw [hlen] at c3
  have C3 := Lib.hid c3; clear c3 he hs ha hm hall hlen
  have hl1 : ([s] : List Int).length + r.length ≤ 1000000 := by simp; omega
  go_enter Tryz.func53, Tryz.ntmps53
  go_wp2_with (at_builtin; refine wpList_append_ints rfl _ _ rfl w.heap.size (some ⟨w.heap.size, 0, none⟩) 1 [s] rfl ⟨rfl, .inr ⟨w.heap.size, 1, #[.int .i64 s], rfl, Nat.le_refl _, heap_alloc_new w _, Nat.le_refl _, by decide, rfl, rfl⟩⟩ A _ r rfl (Sl.alloc hI _) hl1 (by simp) ?_; intro A1 c1 w1 ho1 hb1)
  have hI1 := ho1.ints
  rw [show [s] ++ r = s :: r from rfl] at hI1 ho1
  have hb1' : Below w.heap.size w w1 := (bal1 w _).trans hb1
  clear hb1
  have HW1 := Lib.hid hb1'; clear hb1'
  go_loopw [8, 9] (fun o i wr => ∃ (k : Nat) (A' : Option Addr) (c' : Nat), k ≤ n ∧ i = .int .i64 ((k : Int) + 1) ∧ o = .slice A' (dealL (s :: r) k).length c' ∧ OShares wr w1.heap.size A' c' (dealL (s :: r) k) ∧ Below w1.heap.size w1 wr) (fun _ i _ => (n + 1) - (intOf i).toNat)
  case atStart => exact ⟨0, none, 0, Nat.zero_le _, rfl, rfl, OShares.nil, Below.refl _ _⟩
  case round =>
    obtain ⟨k, A', c', hk, rfl, rfl, ho, hb⟩ := hrel
    have hll : (dealL (s :: r) k).length = k := dealL_length (s :: r) k
    by_cases hlt2 : k < n
    · have hs := dealL_succ (s :: r) k
      have HS := Lib.hid hs; clear hs
      have hz := hb.size
      have hl6 : (dealL (s :: r) k).length ≤ 1000000 := by omega
      have c4 := C3.out A1 c1 ((k : Int) + 1) (by omega) (by omega) wr (hI1.below hb (Nat.le_refl _))
      have C4 := Lib.hid c4; have HL := Lib.hid hll; clear c4 hll
      go_wp2_with fail
      refine C4.out.mono ?_
      rintro e w2 ⟨rfl, rfl⟩
      go_wp2_with (at_builtin; refine wpList_append_share rfl _ _ rfl w1.heap.size A' c' _ rfl (ho.keep (bal1 _ _)) wr.heap.size _ _ rfl (cell_new2a _ _ _ _) (cell_new2b _ _ _ _) hl6 (le_al hz _) ?_; intro A2 c2 w3 ho3 hb3)
      go_roundw
      case rel => exact ⟨k + 1, A2, c2, by omega, by go_num, by rw [HS.out]; simp, by rw [HS.out]; exact ho3, (bal hb _).trans hb3⟩
      case measure => simp [intOf]; omega
    · obtain rfl : k = n := by omega
      rw [hll]
      clear hll
      go_wp2_with fail
      go_ret
      have hbz := HW1.out.size
      exact ⟨A', c', rfl, own_mono ho hbz, HW1.out.trans (hb.mono hbz)⟩

end Go.Proofs.YtpgemofkolmabaaGreatDoor
namespace Go.Proofs.YtpgemofkolmabaaGreatDoor
open Go.RowKit Go.Joins Go.ChangeShapes Go.WideShapes Go.Deep
set_option linter.unusedVariables false

theorem pcs_at {c : UInt8} {l : List UInt8} {fr i : Nat} (hf : fr ≤ i) (h : l[i]? = some c) (hk : ∀ k, fr ≤ k → k < i → l[k]? ≠ some c) : pcs c (l.drop fr) = (l.drop fr).take (i - fr) :: pcs c (l.drop (i + 1)) := by
  rw [pcs_some c (l.drop fr) (i - fr) (by rw [List.getElem?_drop, show fr + (i - fr) = i by omega]; exact h) fun k hl => by
    rw [List.getElem?_drop]; exact hk (fr + k) (by omega) (by omega)]
  rw [List.drop_drop, show fr + (i - fr + 1) = i + 1 by omega]
theorem pcs_end {c : UInt8} {l : List UInt8} {fr : Nat} (hk : ∀ k, fr ≤ k → l[k]? ≠ some c) : pcs c (l.drop fr) = [l.drop fr] :=
  pcs_none c _ fun k => by rw [List.getElem?_drop]; exact hk (fr + k) (by omega)
theorem ext_mid (s : ByteArray) (a b : Nat) : (s.extract a b).data.toList = (s.data.toList.drop a).take (b - a) := by
  rw [ByteArray.data_extract, Array.toList_extract]
theorem wpList_append_strB {w : World} {ops : Array Oper} {rest : List Oper} {o : Oper} {a : Act} {Q : Exit → Act → World → Prop} (hgd : o.guard = none) (s x : Operand)
    (ho : o.op = .call { callee := .builtin .append, args := #[s, x], argTypes := #[39, 39] }) (base : Nat) (A : Option Addr) (c : Nat) (l : List ByteArray) (m : Nat) (hm : l.length = m) (hs : a.eval s = .slice A m c) (hown : OStrs w base A c l)
    (g : Nat) (p : ByteArray) (hx : a.eval x = .slice (some ⟨g, 0, none⟩) 1 1) (h0 : w.cell? ⟨g, 0, none⟩ = some (.string p)) (hn : l.length ≤ 4000000) (hbase : base ≤ w.heap.size)
    (h : ∀ A' c' w', OStrs w' base A' c' (l ++ [p]) → Below base w w' → wpList Tryz.prog ops Q rest (a.put o.dst (.slice A' (m + 1) c')) w') : wpList Tryz.prog ops Q (o :: rest) a w := by
  subst hm
  refine wpList_append_all hgd s x _ ho base 9 _ 1 16 Tryz.underlying39 infoStr rfl (by decide) A c l.length _ hs hown (some ⟨g, 0, none⟩) 1 1 [.string p] hx rfl ?_ (by simp [Value.oneCell']) (by unfold maxLen; omega) (by omega) hbase ?_
  · intro _
    refine ⟨g, 0, rfl, fun j u hj => ?_⟩
    match j, hj with
    | 0, hj => simp at hj; subst hj; exact h0
  · intro A' c' w' h2 h3
    refine h A' c' w' ?_ (own_below h3 hown hbase)
    unfold OStrs; rw [List.length_append, List.map_append]; exact h2
theorem wpList_append_valB {w : World} {ops : Array Oper} {rest : List Oper} {o : Oper} {a : Act} {Q : Exit → Act → World → Prop} (hgd : o.guard = none) (s x : Operand)
    (ho : o.op = .call { callee := .builtin .append, args := #[s, x], argTypes := #[31, 31] }) (base : Nat) (A : Option Addr) (c : Nat) (l : List Va) (m : Nat) (hm : l.length = m) (hs : a.eval s = .slice A m c) (hown : OVals w base A c l)
    (g : Nat) (v : Va) (hx : a.eval x = .slice (some ⟨g, 0, none⟩) 1 1) (hv : AtB w g #[.int .i64 v.k, .int .i64 v.n, .string v.s] 30) (hn : l.length ≤ 4000000) (hbase : base ≤ w.heap.size)
    (h : ∀ A' c' w', OVals w' base A' c' (l ++ [v]) → Below base w w' → wpList Tryz.prog ops Q rest (a.put o.dst (.slice A' (m + 1) c')) w') : wpList Tryz.prog ops Q (o :: rest) a w := by
  subst hm
  refine wpList_append_all hgd s x _ ho base 30 _ 3 32 Tryz.underlying31 infoV rfl (by decide) A c l.length _ hs hown (some ⟨g, 0, none⟩) 1 1 [.int .i64 v.k, .int .i64 v.n, .string v.s] hx rfl ?_ (by simp [Value.oneCell']) (by unfold maxLen; omega) (by omega) hbase ?_
  · intro _
    refine ⟨g, 0, rfl, fun j u hj => ?_⟩
    rw [Nat.zero_add]
    exact hv.cell (i := j) (by rw [← hj]; simp)
  · intro A' c' w' h2 h3
    refine h A' c' w' ?_ (own_below h3 hown hbase)
    unfold OVals; rw [List.length_append, vaCells_append]; exact h2
set_option maxHeartbeats 1600000 in
set_option maxRecDepth 100000 in
theorem rcut_any (s : ByteArray) (hs : s.size ≤ 2000000) (b : UInt8) (w : World) :
    Calls Tryz.prog 15 #[.string s, .int .u8 b.toNat] w fun e w' => (∃ (A : Option Addr) (c : Nat), e = .returned (.slice A (pcsB b s).length c) ∧ OStrs w' w.heap.size A c (pcsB b s)) ∧ Below w.heap.size w w' := by
  obtain ⟨ps, hps⟩ : ∃ ps, ps = pcsB b s := ⟨_, rfl⟩
  rw [← hps]
  have hp0 : ps.map (·.data.toList) = pcs b s.data.toList := by
    rw [hps, pcsB, List.map_map]
    exact (List.map_congr_left fun l _ => rfl).trans (List.map_id _)
  have HP0 := Lib.hid hp0
  clear hps hp0
  go_enter Tryz.func15, Tryz.ntmps15
  go_wp2_with fail
  go_loopw [5, 6, 7] (fun so sf si wr => ∃ (A : Option Addr) (c : Nat) (done : List ByteArray) (n fr i : Nat), fr ≤ i ∧ i ≤ s.size ∧ n ≤ fr ∧ done.length = n ∧ so = .slice A n c ∧ sf = .int .i64 fr ∧ si = .int .i64 i ∧ Hid (OStrs wr w.heap.size A c done) ∧ Hid (Below w.heap.size w wr) ∧ Hid (ps.map (·.data.toList) = done.map (·.data.toList) ++ pcs b (s.data.toList.drop fr)) ∧ Hid (∀ k, fr ≤ k → k < i → s.data.toList[k]? ≠ some b)) (fun _ _ si _ => s.size - (intOf si).toNat)
  case atStart => exact ⟨none, 0, [], 0, 0, 0, by omega, by omega, by omega, rfl, rfl, rfl, rfl, OStrs.nil, Below.refl _ _, Lib.hid (HP0.out.trans rfl), Lib.hid (fun k h1 h2 => by omega)⟩
  case round =>
    obtain ⟨A, c, done, n, fr, i, hfi, his, hnf, hdn, rfl, rfl, rfl, HO, HB, HP, HK⟩ := hrel
    have i0 : (0 : Int) ≤ (i : Int) := by omega
    have f0 : (0 : Int) ≤ (fr : Int) := by omega
    have f1 : (fr : Int) ≤ (i : Int) := by omega
    have f2 : (fr : Int) ≤ (s.size : Int) := by omega
    have i2 : (i : Int) ≤ (s.size : Int) := by omega
    by_cases hlt : i < s.size
    · have i1 : (i : Int) < (s.size : Int) := by omega
      have hat := list_at hlt
      by_cases hb : s[i] = b
      · have q : (((s[i]'hlt).toNat : Int) == (b.toNat : Int)) = true := by rw [hb]; simp
        rw [hb] at hat
        have hp := HP.out
        rw [pcs_at hfi hat HK.out, ← ext_mid] at hp
        have hp2 : ps.map (·.data.toList) = (done ++ [s.extract fr i]).map (·.data.toList) ++ pcs b (s.data.toList.drop (i + 1)) := by
          rw [hp, List.map_append]; simp
        have HP2 := Lib.hid hp2; have HDN := Lib.hid hdn
        have hdl : done.length ≤ 4000000 := by omega
        clear hp hp2 hat hb hdn
        go_wp2_with (at_builtin; refine wpList_append_strB rfl _ _ rfl w.heap.size A c done n HDN.out rfl (HO.out.keep (bal1 _ _)) wr.heap.size (s.extract fr i) rfl ((AtB.new _ _ _).cell (i := 0) rfl) hdl (le_al HB.out.size _) ?_; intro A2 c2 w2 h1 h2; have HO2 := Lib.hid h1; have HB2 := Lib.hid ((bal HB.out _).trans h2); clear h1 h2)
        go_roundw
        case rel => exact ⟨A2, c2, done ++ [s.extract fr i], n + 1, i + 1, i + 1, by omega, by omega, by omega, by rw [List.length_append, HDN.out]; rfl, rfl, by go_num, by go_num, HO2, HB2, HP2, Lib.hid (fun k h1 h2 => by omega)⟩
        case measure => simp [intOf]; omega
      · have q : (((s[i]'hlt).toNat : Int) == (b.toNat : Int)) = false := beq_eq_false_iff_ne.2 fun e => hb (UInt8.toNat_inj.1 (by omega))
        have hk2 : ∀ k, fr ≤ k → k < i + 1 → s.data.toList[k]? ≠ some b := fun k h1 h2 => by
          by_cases e : k = i
          · subst e; rw [hat]; intro e2; exact hb (Option.some.inj e2)
          · exact HK.out k h1 (by omega)
        have HK2 := Lib.hid hk2
        clear hat hb hk2
        go_wp2_with fail
        go_roundw
        case rel => exact ⟨A, c, done, n, fr, i + 1, by omega, by omega, hnf, hdn, rfl, rfl, by go_num, HO, HB, HP, HK2⟩
        case measure => simp [intOf]; omega
    · obtain rfl : i = s.size := by omega
      have hp := HP.out
      rw [pcs_end (fun k h1 => by
        rcases Nat.lt_or_ge k s.size with h2 | h2
        · exact HK.out k h1 h2
        · rw [List.getElem?_eq_none (by rw [Array.length_toList]; exact h2)]; simp), ← ext_drop] at hp
      have hp2 : ps = done ++ [s.extract fr s.size] := by
        have : ps.map (·.data.toList) = (done ++ [s.extract fr s.size]).map (·.data.toList) := by rw [hp, List.map_append]; rfl
        exact List.map_inj_right (fun x y h => bytes_eq h) |>.1 this
      have HP2 := Lib.hid hp2; have HDN := Lib.hid hdn
      have hdl : done.length ≤ 4000000 := by omega
      clear hp hp2 hdn
      go_wp2_with (at_builtin; refine wpList_append_strB rfl _ _ rfl w.heap.size A c done n HDN.out rfl (HO.out.keep (bal1 _ _)) wr.heap.size (s.extract fr s.size) rfl ((AtB.new _ _ _).cell (i := 0) rfl) hdl (le_al HB.out.size _) ?_; intro A2 c2 w2 h1 h2; have HO2 := Lib.hid h1; have HB2 := Lib.hid ((bal HB.out _).trans h2); clear h1 h2)
      go_ret
      rw [HP2.out]
      exact ⟨⟨A2, c2, by rw [List.length_append, HDN.out]; rfl, HO2.out⟩, HB2.out⟩
end Go.Proofs.YtpgemofkolmabaaGreatDoor
namespace Go.Proofs.YtpgemofkolmabaaGreatDoor
open Go.RowKit Go.Joins Go.ChangeShapes Go.WideShapes Go.Deep
set_option linter.unusedVariables false

theorem pcsB_len (s : ByteArray) (c : UInt8) : (pcsB c s).length ≤ s.size + 1 := by
  have := pcs_cnt c s.data.toList
  rw [Array.length_toList] at this
  rw [pcsB, List.length_map]
  exact this
set_option maxHeartbeats 1600000 in
set_option maxRecDepth 100000 in
theorem rreadt_any (s : ByteArray) (hs : s.size ≤ 2000000) (w : World) :
    Calls Tryz.prog 54 #[.string s] w fun e w' => (∃ (A : Option Addr) (c : Nat), e = .returned (.tuple #[.slice A (tpR s).length c, .int .i64 (tpE s)]) ∧ OVals w' w.heap.size A c (tpR s)) ∧ Below w.heap.size w w' := by
  by_cases h0 : 0 < s.size
  · have q0 := emp_test h0
    obtain ⟨ps, hps⟩ : ∃ ps, ps = pcsB 44 s := ⟨_, rfl⟩
    have cc := rcut_any s hs 44 w
    rw [show (((44 : UInt8).toNat : Nat) : Int) = 44 from rfl, ← hps] at cc
    have hl := pcsB_len s 44
    rw [← hps] at hl
    have hne : s.size ≠ 0 := by omega
    have hE1 : tpF ps ≠ 0 → tpE s = tpF ps ∧ tpR s = [] := fun h => by
      have e : tpE s = tpF ps := by rw [tpE, if_neg hne, ← hps, if_pos h]
      exact ⟨e, by rw [tpR, if_neg (by rw [e]; exact h)]⟩
    have hE2 : tpF ps = 0 → 5 < ps.length → tpE s = 4 ∧ tpR s = [] := fun h h5 => by
      have e : tpE s = 4 := by rw [tpE, if_neg hne, ← hps, if_neg (by rw [h]; simp), if_pos h5]
      exact ⟨e, by rw [tpR, if_neg (by rw [e]; decide)]⟩
    have hE3 : tpF ps = 0 → ¬ 5 < ps.length → tpE s = 0 ∧ tpR s = ps.map rdR := fun h h5 => by
      have e : tpE s = 0 := by rw [tpE, if_neg hne, ← hps, if_neg (by rw [h]; simp), if_neg h5]
      exact ⟨e, by rw [tpR, if_pos e, ← hps]⟩
    have CC := Lib.hid cc; have HPS := Lib.hid hps; have HE1 := Lib.hid hE1; have HE2 := Lib.hid hE2; have HE3 := Lib.hid hE3
    clear cc hps hE1 hE2 hE3 hne
    go_enter Tryz.func54, Tryz.ntmps54
    go_wp2_with (go_at_call 15; refine CC.out.mono ?_; rintro e w1 ⟨⟨A0, c0, rfl, hS⟩, hb1⟩; have HS := Lib.hid hS.strs; have HB1 := Lib.hid hb1; clear hS hb1)
    go_loopw [5, 6, 7, 8] (fun so si _ _ wr => ∃ (A : Option Addr) (c k : Nat), k ≤ ps.length ∧ so = .slice A k c ∧ si = .int .i64 k ∧ Hid (OVals wr w1.heap.size A c ((ps.take k).map rdR)) ∧ Hid (Below w1.heap.size w1 wr) ∧ Hid (tpF (ps.take k) = 0)) (fun _ si _ _ _ => ps.length - (intOf si).toNat)
    case atStart => exact ⟨none, 0, 0, Nat.zero_le _, rfl, rfl, OVals.nil, Below.refl _ _, rfl⟩
    case round =>
      obtain ⟨A, c, k, hk, rfl, rfl, HO, HB, HF⟩ := hrel
      have hlk : ((ps.take k).map rdR).length = k := by rw [List.length_map, List.length_take]; omega
      have i0 : (0 : Int) ≤ (k : Int) := by omega
      by_cases hlt : k < ps.length
      · have i1 : (k : Int) < (ps.length : Int) := by omega
        obtain ⟨b2, o2, rfl, hl2, ch0⟩ := (HS.out.below HB.out (Nat.le_refl _)).at_ hlt
        obtain ⟨x, hx⟩ : ∃ x, ps[k]? = some x := ⟨_, List.getElem?_eq_getElem hlt⟩
        have hgx : gs ps k = x := by simp [gs, List.getD_eq_getElem?_getD, hx]
        rw [hgx] at ch0
        have hxs : x.size ≤ s.size := pcsB_size (c := 44) (k := k) (by rw [← HPS.out]; exact hx)
        have cr := fun W => rread_any x (by omega) W
        by_cases hE : rdE x = 0
        · have hF2 := tpF_next HF.out hx hE
          have hmap : (ps.take (k + 1)).map rdR = (ps.take k).map rdR ++ [rdR x] := by rw [List.take_add_one, hx]; simp
          rw [hE] at cr
          have CR := Lib.hid cr; have HF2 := Lib.hid hF2; have HMAP := Lib.hid hmap; have HLK := Lib.hid hlk
          have hdl : ((ps.take k).map rdR).length ≤ 4000000 := by omega
          clear cr hF2 hmap hE hgx hxs hx hlk
          generalize rdR x = R at *
          go_wp2_with (first
            | (go_at_call 94; refine (CR.out _).mono ?_; rintro e w2 ⟨rfl, hb2⟩; have HO2 := Lib.hid ((HO.out.keep hb2).keep (bal1 _ (.cells #[.int .i64 R.k, .int .i64 R.n, .string R.s] 30))); have HB2 := Lib.hid (bal (bcl HB.out hb2) (.cells #[.int .i64 R.k, .int .i64 R.n, .string R.s] 30)); clear hb2)
            | (at_builtin; refine wpList_append_valB rfl _ _ rfl w1.heap.size A c ((ps.take k).map rdR) k HLK.out rfl (HO2.out.keep (bal1 _ _)) (w2.heap.size + 1) R rfl (by have := AtB.new (w2.alloc (.cells #[.int .i64 R.k, .int .i64 R.n, .string R.s] 30)) #[.int .i64 R.k, .int .i64 R.n, .string R.s] 30; rw [World.size_alloc] at this; exact this) hdl (le_al HB2.out.size _) ?_; intro A2 c2 w3 h1 h2; have HO3 := Lib.hid h1; have HB3 := Lib.hid ((bal HB2.out _).trans h2); clear h1 h2))
          go_roundw
          case rel => exact ⟨A2, c2, k + 1, by omega, by go_num, by go_num, Lib.hid (by rw [HMAP.out]; exact HO3.out), HB3, HF2⟩
          case measure => simp [intOf]; omega
        · have hF := tpF_at HF.out hx hE
          obtain ⟨e1, e2⟩ := HE1.out (by rw [hF]; exact hE)
          have q : (rdE x != 0) = true := by rw [bne_iff_ne]; exact hE
          have hEE : tpE s = rdE x := by rw [e1, hF]
          generalize rdE x = E at *
          generalize rdR x = R at *
          have CR := Lib.hid cr; have HV := Lib.hid hEE; have HR := Lib.hid e2
          clear cr hF e1 e2 hEE hE hgx hxs hx
          go_wp2_with (go_at_call 94; refine (CR.out _).mono ?_; rintro e w2 ⟨rfl, hb2⟩; have HB2 := Lib.hid (bal (bcl HB.out hb2) (.cells #[.int .i64 R.k, .int .i64 R.n, .string R.s] 30)); clear hb2)
          go_ret2
          exact ⟨⟨none, 0, by rw [HV.out, HR.out]; rfl, by rw [HR.out]; exact OVals.nil⟩, bcl HB1.out HB2.out⟩
      · obtain rfl : k = ps.length := by omega
        have hf := HF.out
        rw [List.take_length] at hf
        have ho := HO.out
        rw [List.take_length] at ho
        by_cases h5 : 5 < ps.length
        · obtain ⟨e1, e2⟩ := HE2.out hf h5
          have HV := Lib.hid e1; have HR := Lib.hid e2
          have h5' : (5 : Int) < (ps.length : Int) := by omega
          clear e1 e2 hf ho
          go_wp2_with fail
          go_ret2
          exact ⟨⟨none, 0, by rw [HV.out, HR.out]; rfl, by rw [HR.out]; exact OVals.nil⟩, bcl HB1.out HB.out⟩
        · obtain ⟨e1, e2⟩ := HE3.out hf h5
          have HV := Lib.hid e1; have HR := Lib.hid e2
          have h5' : decide ((5 : Int) < (ps.length : Int)) = false := by simp; omega
          have HO4 := Lib.hid (own_mono ho HB1.out.size)
          clear e1 e2 hf ho h5
          go_wp2_with fail
          go_ret2
          exact ⟨⟨A, c, by rw [HV.out, HR.out, List.length_map]; rfl, by rw [HR.out]; exact HO4.out⟩, bcl HB1.out HB.out⟩
  · obtain ⟨e1, e2⟩ := tp_empty (show s.size = 0 by omega)
    obtain rfl := emp_of (show s.size = 0 by omega)
    rw [e1, e2]
    clear e1 e2
    go_enter Tryz.func54, Tryz.ntmps54
    go_wp2_with fail
    go_ret2
    exact ⟨⟨none, 0, rfl, OVals.nil⟩, (by repeat (first | exact Below.refl _ _ | assumption | refine bal ?_ _ | refine bdn ?_ _ | refine bdr ?_ | refine bcl ?_ (by assumption)))⟩
end Go.Proofs.YtpgemofkolmabaaGreatDoor
namespace Go.Proofs.YtpgemofkolmabaaGreatDoor
open Go.RowKit Go.Joins Go.ChangeShapes Go.WideShapes Go.Deep
set_option linter.unusedVariables false

theorem numO_dec {s : ByteArray} (h0 : 0 < s.size) (h4 : s.size ≤ 4) (h48 : ¬ (s[0].toNat = 48 ∧ 1 < s.size)) : numO s = (Lib.decFrom 0 s.data.toList).map fun (m : Nat) => (m : Int) := by
  by_cases h45 : s[0].toNat = 45
  · have hd : Lib.decFrom 0 s.data.toList = none := dec_bad _ 0 0 s[0] (list_at h0) (by rw [Lib.digitVal, if_neg (by omega)])
    rw [hd, numO, if_pos h4, rdN_minus h0 h45]
    split
    · rename_i n hn
      split at hn
      · cases hn
      · rename_i hc
        simp only [Option.map_eq_some_iff] at hn
        obtain ⟨m, hm, rfl⟩ := hn
        have hl : (dgs s 1).length = s.size - 1 := dgs_len s 1
        have hp := (dd_of (dgs s 1).length (dgs s 1) rfl (by intro e; rw [e] at hc; exact hc (.inl (by simp))) (by
          intro c hcc e
          refine hc (.inr (.inr ?_))
          rw [hcc, (byte_eq (by decide)).1 e]
          rfl) m hm).2
        rw [if_neg (by omega)]
        rfl
    · rfl
  · rw [numO, if_pos h4, rdN_plain (.inr ⟨h0, h45⟩), if_neg]
    · show (match (Lib.decFrom 0 s.data.toList).map (fun (m : Nat) => (m : Int)) with | some n => if 0 ≤ n then some n else none | none => none) = _
      cases Lib.decFrom 0 s.data.toList with
      | none => rfl
      | some m => show (if (0 : Int) ≤ (m : Int) then some (m : Int) else none) = some (m : Int); rw [if_pos (by omega)]
    · rw [dgs_len]
      rintro (h | h | ⟨h, h2⟩)
      · omega
      · omega
      · rw [dgs_head h0] at h
        simp only [Option.some.injEq] at h
        exact h48 ⟨by rw [h]; rfl, by omega⟩
theorem numO_none {s : ByteArray} (h : s.size = 0 ∨ 4 < s.size ∨ ∃ h : 0 < s.size, (s[0]'h).toNat = 48 ∧ 1 < s.size) : numO s = none := by
  rw [numO]
  by_cases h4 : s.size ≤ 4
  · rw [if_pos h4]
    have hr : rdN s.data.toList = none := by
      rcases h with h | h | ⟨h0, h, h1⟩
      · rw [rdN_plain (.inl h), if_pos (.inl (by rw [dgs_len]; omega))]
      · omega
      · rw [rdN_plain (.inr ⟨h0, by omega⟩), if_pos (.inr (.inr ⟨by rw [dgs_head h0, (byte_eq (by decide)).1 h]; rfl, by rw [dgs_len]; omega⟩))]
    rw [hr]
  · rw [if_neg h4]
/-- what the reference says of a number's word -/
def nuV (s : ByteArray) : Value := .tuple #[.int .i64 ((numO s).getD 0), .bool (numO s).isSome]
theorem nuV_none {s : ByteArray} (h : numO s = none) : nuV s = .tuple #[.int .i64 0, .bool false] := by rw [nuV, h]; rfl
theorem nuV_some {s : ByteArray} {n : Int} (h : numO s = some n) : nuV s = .tuple #[.int .i64 n, .bool true] := by rw [nuV, h]; rfl
set_option maxHeartbeats 800000 in
set_option maxRecDepth 100000 in
theorem snum_any (s : ByteArray) (hs : s.size ≤ 4000) (w : World) : Calls Tryz.prog 50 #[.string s] w fun e w' => e = .returned (nuV s) ∧ w = w' := by
  by_cases h0 : 0 < s.size
  · have q0 := emp_test h0
    by_cases h4 : s.size ≤ 4
    · have q4 : ¬ (4 : Int) < (s.size : Int) := by omega
      by_cases h48 : s[0].toNat = 48 ∧ 1 < s.size
      · rw [nuV_none (numO_none (.inr (.inr ⟨h0, h48⟩)))]
        have q1 : ((s[0].toNat : Int) == 48) = true := beq_iff_eq.2 (by omega)
        have q2 : (1 : Int) < (s.size : Int) := by omega
        clear h48
        go_enter Tryz.func50, Tryz.ntmps50
        go_wp2_with fail
        go_ret2
        exact ⟨rfl, rfl⟩
      · have hv := numO_dec h0 h4 h48
        have q1 : ((s[0].toNat : Int) == 48) = false ∨ (((s[0].toNat : Int) == 48) = true ∧ ¬ (1 : Int) < (s.size : Int)) := by
          by_cases h : s[0].toNat = 48
          · exact .inr ⟨beq_iff_eq.2 (by omega), by omega⟩
          · exact .inl (beq_eq_false_iff_ne.2 (by omega))
        have HV := Lib.hid hv
        clear hv h48
        rcases q1 with q1 | ⟨q1, q2⟩
        all_goals
          go_enter Tryz.func50, Tryz.ntmps50
          go_wp2_with fail
          go_loopw [4, 5] (fun m i wr => ∃ (j : Nat) (n : Nat), j ≤ s.size ∧ i = .int .i64 j ∧ m = .int .i64 n ∧ n < 10000000 ∧ Hid (Lib.decFrom 0 (s.data.toList.take j) = some n) ∧ Hid (wr = w)) (fun _ i _ => s.size - (intOf i).toNat)
          case atStart => exact ⟨0, 0, by omega, rfl, rfl, by omega, rfl, rfl⟩
          case round =>
            obtain ⟨j, n, hj, rfl, rfl, hn7, HD, HW⟩ := hrel
            have hw := HW.out
            subst hw
            clear HW
            by_cases hlt : j < s.size
            · have hc := list_at hlt
              have hb := (s[j]'hlt).toNat_lt
              have j0 : (0 : Int) ≤ (j : Int) := by omega
              have j1 : (j : Int) < (s.size : Int) := by omega
              by_cases h5 : ((s[j]'hlt).toNat : Int) < 48
              · have hbd := dec_bad _ _ 0 _ hc (by unfold Lib.digitVal; rw [if_neg (by omega)])
                have hv' : numO s = none := by rw [HV.out, hbd]; rfl
                have R := Lib.hid (nuV_none hv')
                clear hv' hbd hc hb
                go_wp2_with fail
                go_ret2
                exact ⟨by rw [R.out]; rfl, rfl⟩
              · by_cases h6 : 57 < ((s[j]'hlt).toNat : Int)
                · have hbd := dec_bad _ _ 0 _ hc (by unfold Lib.digitVal; rw [if_neg (by omega)])
                  have hv' : numO s = none := by rw [HV.out, hbd]; rfl
                  have R := Lib.hid (nuV_none hv')
                  clear hv' hbd hc hb
                  go_wp2_with fail
                  go_ret2
                  exact ⟨by rw [R.out]; rfl, rfl⟩
                · have hd := dec_take_succ HD.out hc (by omega) (by omega)
                  have hlt7 := dec_take_lt hd (by omega)
                  have HD2 := Lib.hid hd; have HL7 := Lib.hid hlt7
                  clear hd hlt7 hc
                  go_wp2_with fail
                  go_roundw
                  case rel => exact ⟨j + 1, n * 10 + ((s[j]'hlt).toNat - 48), by omega, by go_num, by go_num, HL7.out, HD2, Lib.hid trivial⟩
                  case measure => simp [intOf]; omega
            · obtain rfl : j = s.size := by omega
              have hd := HD.out
              rw [List.take_of_length_le (by rw [Array.length_toList]; exact Nat.le_refl _)] at hd
              have hv' : numO s = some n := by rw [HV.out, hd]; rfl
              have R := Lib.hid (nuV_some hv')
              clear hv' hd
              go_wp2_with fail
              go_ret2
              exact ⟨by rw [R.out]; rfl, rfl⟩
    · rw [nuV_none (numO_none (.inr (.inl (by omega))))]
      have q4 : (4 : Int) < (s.size : Int) := by omega
      go_enter Tryz.func50, Tryz.ntmps50
      go_wp2_with fail
      go_ret2
      exact ⟨rfl, rfl⟩
  · rw [nuV_none (numO_none (.inl (by omega)))]
    obtain rfl := emp_of (show s.size = 0 by omega)
    go_enter Tryz.func50, Tryz.ntmps50
    go_wp2_with fail
    go_ret2
    exact ⟨rfl, rfl⟩
set_option maxHeartbeats 800000 in
set_option maxRecDepth 100000 in
theorem sname_any (e : Int) (h0 : 0 ≤ e) (h8 : e ≤ 8) (w : World) : Calls Tryz.prog 52 #[.int .i64 e] w fun o w' => o = .returned (.string (nmB e)) ∧ Below w.heap.size w w' := by
  have h : e = 0 ∨ e = 1 ∨ e = 2 ∨ e = 3 ∨ e = 4 ∨ e = 5 ∨ e = 6 ∨ e = 7 ∨ e = 8 := by omega
  rcases h with rfl | rfl | rfl | rfl | rfl | rfl | rfl | rfl | rfl
  all_goals
    go_enter Tryz.func52, Tryz.ntmps52
    go_wp2_with fail
    go_ret
    exact ⟨rfl, (by repeat (first | exact Below.refl _ _ | assumption | refine bal ?_ _ | refine bdn ?_ _ | refine bdr ?_ | refine bcl ?_ (by assumption)))⟩
end Go.Proofs.YtpgemofkolmabaaGreatDoor
namespace Go.Proofs.YtpgemofkolmabaaGreatDoor
open Go.RowKit Go.Joins Go.ChangeShapes Go.WideShapes Go.Deep
set_option linter.unusedVariables false

/-- the words of a line lie in memory -/
def CutA (s x : ByteArray) (r : List ByteArray) : Prop := ∀ W, Calls Tryz.prog 15 #[.string s, .int .u8 32] W fun e w' => (∃ (b c : Nat), e = .returned (.slice (some ⟨b, 0, none⟩) (r.length + 1 : Nat) c) ∧ Strs w' (some ⟨b, 0, none⟩) (x :: r) ∧ W.heap.size ≤ b) ∧ Below W.heap.size W w'
theorem cut_words {s x : ByteArray} {r : List ByteArray} (hs : s.size ≤ 4000) (h : pcsB 32 s = x :: r) : CutA s x r := fun W => by
  have c := rcut_any s (by omega) 32 W
  rw [h, show (((32 : UInt8).toNat : Nat) : Int) = 32 from rfl] at c
  refine c.mono ?_
  rintro e w' ⟨⟨A, c, rfl, ho⟩, hb⟩
  obtain ⟨g, hg, hgb⟩ : ∃ g, A = some ⟨g, 0, none⟩ ∧ W.heap.size ≤ g := by
    rcases ho.2 with ⟨_, h0⟩ | ⟨g, cap, cur, h3, h4, _⟩
    · simp at h0
    · injection h3 with ha _ hc
      exact ⟨g, ha, h4⟩
  subst hg
  exact ⟨⟨g, c, rfl, ho.strs, hgb⟩, hb⟩
theorem eq_other {x : ByteArray} {l : List UInt8} (h : x ≠ ⟨l.toArray⟩) : (x.toList == l) = false := by
  rw [beq_eq_false_iff_ne, ByteArray.toList_eq]
  exact fun e => h (bytes_eq (by rw [e]))
theorem str_cell {w : World} {b : Nat} {l : List ByteArray} (h : Strs w (some ⟨b, 0, none⟩) l) {i : Nat} (hi : i < l.length) : w.cell? ⟨b, i, none⟩ = some (.string (gs l i)) := by
  obtain ⟨b2, o2, e, _, h2⟩ := h.at_ hi
  injection e with e
  injection e with e1 e2 e3
  subst e1; subst e2
  simpa using h2
theorem OM2.keep {w w' : World} {b1 b2 c : Nat} {A : Option Addr} {L : List (List Va)} (h : OM2 Vals 31 30 w b1 b2 A c L) (h2 : b2 ≤ b1) (hl : b1 ≤ b1) (h1 : b1 ≤ w.heap.size) (hb : Below w.heap.size w w') : OM2 Vals 31 30 w' b1 b2 A c L := by
  obtain ⟨vs, k1, k2⟩ := h
  refine ⟨vs, own_keep k1 hb, fun i hi => ?_⟩
  obtain ⟨B, C, e1, q, m1, m2, m3⟩ := k2 i hi
  have hst : ∀ a, B = some a → w'.heap[a.block]? = w.heap[a.block]? := fun a ha => hb.block _ (m3.lt (Nat.le_trans h2 h1) ha)
  exact ⟨B, C, e1, vals_stay _ _ _ _ hb.size hst q, m1, m2, m3.stay hst⟩
theorem mw_one {w : World} {b2 g C : Nat} {B : Option Addr} {l : List Va} (h : w.cell? ⟨g, 0, none⟩ = some (.slice B l.length C)) (hv : Vals w B l) (h1 : l.length ≤ C) (h2 : C ≤ maxLen) (hi : Inn w b2 30 B) : MW Vals 30 w b2 (some ⟨g, 0, none⟩) [l] := by
  refine ⟨[.slice B l.length C], rfl, fun _ => ⟨g, 0, rfl, fun j u hj => ?_⟩, fun i hi' => ?_⟩
  · cases j with
    | zero => simp at hj; subst hj; exact h
    | succ j => simp at hj
  · obtain rfl : i = 0 := by simpa using hi'
    exact ⟨B, C, rfl, hv, h1, h2, hi⟩
section
variable {base p : Nat} {g : Option Nat} {L : List (List Va)}
set_option maxHeartbeats 800000 in
set_option maxRecDepth 100000 in
theorem sl_count (s x : ByteArray) (r : List ByteArray) (hc : CutA s x r) (hl : r.length ≤ 5000) (hw : wantN x ≠ some r.length) (m : Value) (w : World) :
    Calls Tryz.prog 16 #[m, .string s] w fun e w' => e = .returned (.string cBad) ∧ Below w.heap.size w w' := by
  have HC := Lib.hid hc
  clear hc
  by_cases h_Put : x = cPut
  · subst h_Put
    have hk : r.length ≠ 1 := fun e => hw (by rw [e]; decide)
    have hne : (((r.length : Int) + 1) - 1 != 1) = true := by rw [bne_iff_ne]; omega
    have hne2 : ((r.length : Int) != 1) = true := by rw [bne_iff_ne]; omega
    clear hw hk
    simp only [cPut] at HC
    go_enter Tryz.func16, Tryz.ntmps16
    go_wp2_with (go_at_call 15; refine (HC.out _).mono ?_; rintro e w1 ⟨⟨b, c, rfl, hS, hbb⟩, hb⟩; have c0 := str0 hS)
    go_ret
    exact ⟨rfl, hb⟩
  by_cases h_Read : x = cRead
  · subst h_Read
    have hk : r.length ≠ 1 := fun e => hw (by rw [e]; decide)
    have hne : (((r.length : Int) + 1) - 1 != 1) = true := by rw [bne_iff_ne]; omega
    have hne2 : ((r.length : Int) != 1) = true := by rw [bne_iff_ne]; omega
    clear hw hk
    simp only [cRead] at HC
    go_enter Tryz.func16, Tryz.ntmps16
    go_wp2_with (go_at_call 15; refine (HC.out _).mono ?_; rintro e w1 ⟨⟨b, c, rfl, hS, hbb⟩, hb⟩; have c0 := str0 hS)
    go_ret
    exact ⟨rfl, hb⟩
  by_cases h_Take : x = cTake
  · subst h_Take
    have hk : r.length ≠ 1 := fun e => hw (by rw [e]; decide)
    have hne : (((r.length : Int) + 1) - 1 != 1) = true := by rw [bne_iff_ne]; omega
    have hne2 : ((r.length : Int) != 1) = true := by rw [bne_iff_ne]; omega
    clear hw hk
    simp only [cTake] at HC
    go_enter Tryz.func16, Tryz.ntmps16
    go_wp2_with (go_at_call 15; refine (HC.out _).mono ?_; rintro e w1 ⟨⟨b, c, rfl, hS, hbb⟩, hb⟩; have c0 := str0 hS)
    go_ret
    exact ⟨rfl, hb⟩
  by_cases h_Count : x = cCount
  · subst h_Count
    have hk : r.length ≠ 1 := fun e => hw (by rw [e]; decide)
    have hne : (((r.length : Int) + 1) - 1 != 1) = true := by rw [bne_iff_ne]; omega
    have hne2 : ((r.length : Int) != 1) = true := by rw [bne_iff_ne]; omega
    clear hw hk
    simp only [cCount] at HC
    go_enter Tryz.func16, Tryz.ntmps16
    go_wp2_with (go_at_call 15; refine (HC.out _).mono ?_; rintro e w1 ⟨⟨b, c, rfl, hS, hbb⟩, hb⟩; have c0 := str0 hS)
    go_ret
    exact ⟨rfl, hb⟩
  by_cases h_Print : x = cPrint
  · subst h_Print
    have hk : r.length ≠ 1 := fun e => hw (by rw [e]; decide)
    have hne : (((r.length : Int) + 1) - 1 != 1) = true := by rw [bne_iff_ne]; omega
    have hne2 : ((r.length : Int) != 1) = true := by rw [bne_iff_ne]; omega
    clear hw hk
    simp only [cPrint] at HC
    go_enter Tryz.func16, Tryz.ntmps16
    go_wp2_with (go_at_call 15; refine (HC.out _).mono ?_; rintro e w1 ⟨⟨b, c, rfl, hS, hbb⟩, hb⟩; have c0 := str0 hS)
    go_ret
    exact ⟨rfl, hb⟩
  by_cases h_Once : x = cOnce
  · subst h_Once
    have hk : r.length ≠ 2 := fun e => hw (by rw [e]; decide)
    have hne : (((r.length : Int) + 1) - 1 != 2) = true := by rw [bne_iff_ne]; omega
    have hne2 : ((r.length : Int) != 2) = true := by rw [bne_iff_ne]; omega
    clear hw hk
    simp only [cOnce] at HC
    go_enter Tryz.func16, Tryz.ntmps16
    go_wp2_with (go_at_call 15; refine (HC.out _).mono ?_; rintro e w1 ⟨⟨b, c, rfl, hS, hbb⟩, hb⟩; have c0 := str0 hS)
    go_ret
    exact ⟨rfl, hb⟩
  by_cases h_Deal : x = cDeal
  · subst h_Deal
    have hk : r.length ≠ 3 := fun e => hw (by rw [e]; decide)
    have hne : (((r.length : Int) + 1) - 1 != 3) = true := by rw [bne_iff_ne]; omega
    have hne2 : ((r.length : Int) != 3) = true := by rw [bne_iff_ne]; omega
    clear hw hk
    simp only [cDeal] at HC
    go_enter Tryz.func16, Tryz.ntmps16
    go_wp2_with (go_at_call 15; refine (HC.out _).mono ?_; rintro e w1 ⟨⟨b, c, rfl, hS, hbb⟩, hb⟩; have c0 := str0 hS)
    go_ret
    exact ⟨rfl, hb⟩
  have t_Put := eq_other (l := [112, 117, 116]) h_Put
  have t_Read := eq_other (l := [114, 101, 97, 100]) h_Read
  have t_Take := eq_other (l := [116, 97, 107, 101]) h_Take
  have t_Count := eq_other (l := [99, 111, 117, 110, 116]) h_Count
  have t_Print := eq_other (l := [112, 114, 105, 110, 116]) h_Print
  have t_Once := eq_other (l := [111, 110, 99, 101]) h_Once
  have t_Deal := eq_other (l := [100, 101, 97, 108]) h_Deal
  have hne : (((r.length : Int) + 1) - 1 != -1) = true := by rw [bne_iff_ne]; omega
  have hne2 : ((r.length : Int) != -1) = true := by rw [bne_iff_ne]; omega
  clear hw h_Put h_Read h_Take h_Count h_Print h_Once h_Deal
  go_enter Tryz.func16, Tryz.ntmps16
  go_wp2_with (go_at_call 15; refine (HC.out _).mono ?_; rintro e w1 ⟨⟨b, c, rfl, hS, hbb⟩, hb⟩; have c0 := str0 hS)
  go_ret
  exact ⟨rfl, hb⟩
end
end Go.Proofs.YtpgemofkolmabaaGreatDoor
namespace Go.Proofs.YtpgemofkolmabaaGreatDoor
open Go.RowKit Go.Joins Go.ChangeShapes Go.WideShapes Go.Deep
set_option linter.unusedVariables false
theorem vaE_le (v : Va) : 0 ≤ vaE v ∧ vaE v ≤ 8 := by unfold vaE; split <;> (try split) <;> (try split) <;> omega
theorem lsE_le (l : List Va) : ∀ n, 0 ≤ lsE l n ∧ lsE l n ≤ 8
  | 0 => ⟨Int.le_refl _, (by decide : (0 : Int) ≤ 8)⟩
  | k + 1 => by
    rw [lsE]
    split
    · exact lsE_le l k
    · exact vaE_le _
theorem liE_le (l : List Va) : 0 ≤ liE l ∧ liE l ≤ 8 := by
  unfold liE
  split
  · omega
  · split
    · omega
    · exact lsE_le _ _
theorem tuE_le (l : List Va) : 0 ≤ tuE l ∧ tuE l ≤ 8 := by
  unfold tuE
  split
  · exact liE_le l
  · split <;> omega
theorem putE_le (L : List (List Va)) (l : List Va) : 0 ≤ putE L l ∧ putE L l ≤ 8 := by
  unfold putE
  split
  · exact tuE_le l
  · split <;> omega
theorem finE_le (l : List Va) (L : List (List Va)) : 0 ≤ finE l L ∧ finE l L ≤ 8 := by
  unfold finE
  split
  · exact liE_le l
  · split <;> omega
section
variable {base p : Nat} {g : Option Nat} {L : List (List Va)}
theorem itB_nn {n : Int} (h : 0 ≤ n) : itB n = ⟨(Lib.decDigits n.toNat).toArray⟩ := by rw [itB, Lib.itoa, if_neg (by omega)]
theorem RSp.not_at {w : World} (hS : RSp w base p g L) {b : Nat} (hb : w.heap.size ≤ b) : ¬ RM p g b := fun h => by
  rcases h with h | h
  · have := hS.lt; omega
  · have := (hS.gkin h).2.lt; omega
/-- Get, in one word -/
theorem sl_get (base p : Nat) (g : Option Nat) (L : List (List Va)) (A : Option Addr) (c : Nat) (a : List Va) (hm : a.length ≤ maxLen) (hok : okL a) (w : World) (hS : RSp w base p g L) (hA : Vals w A a) (x : Bool) :
    Calls Tryz.prog 56 #[.pointer (some ⟨p, 0, none⟩), .slice A a.length c, .bool x] w fun e w' => ∃ B C, e = .returned (.tuple #[.slice B (rT a L).length C, .int .i64 (finE a L)]) ∧ Vals w' B (rT a L) ∧
      ∃ g', RSp w' base p g' (if x = true then rL a L else L) ∧ Chs (RM p g) w w' ∧ Nwb g g' w.heap.size := by
  by_cases h : finE a L = 0
  · obtain ⟨k, hk, hp, h1, h2⟩ := fin_at h
    rw [h, h1, h2]
    cases x with
    | false => exact (rget_read _ p g L A c a hm hok w hS hA k hk hp h).mono fun e w' ⟨B, C, e1, e2, e3, e4, e5, e6⟩ => ⟨B, C, e1, e2, g, by rw [if_neg (by decide)]; exact hS.keep e6, Chs.of_below _ e6, Nwb.refl _ _⟩
    | true => exact (rget_take _ p g L A c a hm hok w hS hA k hk hp h).mono fun e w' ⟨B, C, g', e1, e2, e3, e4, e5, e6, e7, e8⟩ => ⟨B, C, e1, e2, g', by rw [if_pos rfl]; exact e6, e7, e8⟩
  · rw [rT, rL, if_neg h, if_neg h]
    refine (rget_no _ p g L A c a hm hok w hS hA x h).mono fun e w' ⟨e1, e2⟩ => ⟨none, 0, e1, Sl.zero, g, ?_, Chs.of_below _ e2, Nwb.refl _ _⟩
    rw [ite_self]; exact hS.keep e2
theorem rT_ok {w : World} (hS : RSp w base p g L) {a : List Va} (h : finE a L = 0) : (rT a L).length ≤ 5 ∧ rgt (rT a L) := by
  obtain ⟨k, hk, _, h1, _⟩ := fin_at h
  have hm : gg L k ∈ L := by simp only [gg, List.getD_eq_getElem?_getD, List.getElem?_eq_getElem hk, Option.getD_some]; exact List.getElem_mem hk
  have := liE_iff.1 (tuE_zero (hS.ok _ hm).2).1
  rw [h1]
  exact ⟨this.2.1, this.2.2⟩
set_option maxHeartbeats 800000 in
set_option maxRecDepth 100000 in
theorem sl_put (s u V : ByteArray) (L' : List (List Va)) (hc : CutA s cPut [u]) (hu : u.size ≤ 4000) (w : World) (hS : RSp w base p g L)
    (hbad : allB [u] = false → V = cBad ∧ L' = L) (hgood : allB [u] = true → V = (if putE L (tpR u) = 0 then txOk else nmB (putE L (tpR u))) ∧ L' = putL L (tpR u)) :
    Calls Tryz.prog 16 #[.pointer (some ⟨p, 0, none⟩), .string s] w fun e w' => e = .returned (.string V) ∧ ∃ g', RSp w' base p g' L' ∧ Chs (RM p g) w w' ∧ Nwb g g' w.heap.size := by
    obtain ⟨r, hr⟩ : ∃ r, r = [u] := ⟨_, rfl⟩
    have hu' : ∀ x ∈ r, x.size ≤ 4000 := by
      rw [hr]; intro x hx
      rw [List.mem_singleton.1 hx]
      exact hu
    have hrl : r.length = 1 := by rw [hr]; rfl
    rw [← hr] at hbad hgood hc
    have HC := Lib.hid hc; have HU := Lib.hid hu'; have HS0 := Lib.hid hS; have HBAD := Lib.hid hbad; have HGOOD := Lib.hid hgood; have HRR := Lib.hid hr
    have hne : (((r.length : Int) + 1) - 1 != 1) = false := by rw [bne_eq_false_iff_eq]; omega
    have hne2 : ((r.length : Int) != 1) = false := by rw [bne_eq_false_iff_eq]; omega
    clear hc hu' hS hbad hgood hr hu
    simp only [cPut] at HC
    go_enter Tryz.func16, Tryz.ntmps16
    go_wp2_with (go_at_call 15; refine (HC.out _).mono ?_; rintro e w1 ⟨⟨b, c, rfl, hS, hbb⟩, hb⟩; have c0 := str0 hS; have HBB := Lib.hid hbb; clear hbb; have HST := Lib.hid hS; have HB1 := Lib.hid hb; clear hS hb)
    go_loopw [16, 17, 18, 19] (fun so si _ _ wr => ∃ (k : Nat) (A : Option Addr) (c : Nat), k ≤ r.length ∧ so = .slice A k c ∧ si = .int .i64 ((k + 1 : Nat) : Int) ∧ Hid (OM2 Vals 31 30 wr w1.heap.size base A c ((r.take k).map tpR)) ∧ Hid (Below w1.heap.size w1 wr) ∧ Hid (allB (r.take k) = true)) (fun _ si _ _ _ => r.length + 1 - (intOf si).toNat)
    case atStart => exact ⟨0, none, 0, Nat.zero_le _, rfl, rfl, OM2.nil, Below.refl _ _, rfl⟩
    case round =>
      obtain ⟨k, A', c', hk, rfl, rfl, HO, HB, HALL⟩ := hrel
      have htk : ((r.take k).map tpR).length = k := by rw [List.length_map, List.length_take]; omega
      have hbw := HB1.out.size
      have hbs : base ≤ w1.heap.size := Nat.le_trans HS0.out.hb hbw
      by_cases hlt : k < r.length
      · have i0 : (0 : Int) ≤ ((k + 1 : Nat) : Int) := by omega
        have i1 : ((k + 1 : Nat) : Int) < (r.length : Int) + 1 := by omega
        obtain ⟨x, hx⟩ : ∃ x, r[k]? = some x := ⟨_, List.getElem?_eq_getElem hlt⟩
        have hgx : gs ((⟨#[112, 117, 116]⟩ : ByteArray) :: r) (k + 1) = x := by simp [gs, List.getD_eq_getElem?_getD, hx]
        have ch0 := str_cell (HST.out.below HB.out (Nat.le_refl _)) (i := k + 1) (by simp; omega)
        rw [hgx] at ch0
        have hz := HB.out.size
        have cp := fun (W : World) => rreadt_any x (by have := HU.out x (List.mem_of_getElem? hx); omega) W
        by_cases hE : tpE x = 0
        · have hall := (all_next HALL.out hx).trans (decide_eq_true hE)
          have hmap : (r.take (k + 1)).map tpR = (r.take k).map tpR ++ [tpR x] := by rw [List.take_add_one, hx]; simp
          rw [hE] at cp
          have CP := Lib.hid cp; have HALL2 := Lib.hid hall; have HMAP := Lib.hid hmap; have HTK := Lib.hid htk
          have HTK2 := Lib.hid (show ((r.take (k + 1)).map tpR).length = k + 1 by rw [List.length_map, List.length_take]; omega)
          clear cp hall hmap hE hgx hx htk
          generalize tpR x = R at *
          go_wp2_with (first
            | (go_at_call 54; refine (CP.out _).mono ?_; rintro e w2 ⟨⟨A2, c2, rfl, ho2⟩, hb2⟩; have HO2 := Lib.hid ho2; clear ho2; have hb3 := bcl HB.out hb2)
            | (at_builtin; refine wpList_append_manysN vals_stay rfl _ _ 42 31 30 rfl Tryz.underlying42 infoVals (by decide) w1.heap.size base hbs A' c' ((r.take k).map tpR) k HTK.out rfl (HO.out.keep hbs (Nat.le_refl _) hz (bal hb2 _)) (some ⟨w2.heap.size, 0, none⟩) 1 [R] 1 rfl rfl (mw_one (cell_new1 _ _ _) (Sl.alloc HO2.out.vals _) HO2.out.cap.1 HO2.out.cap.2 ((Inn.own HO2.out).alloc (Nat.le_trans (Nat.le_trans hbs hz) hb2.size) _)) (by omega) (Nat.le_trans hz (le_al hb2.size _)) ((r.take (k + 1)).map tpR) HMAP.out.symm (k + 1) HTK2.out ?_; intro A3 c3 w3 ho3 hb4))
          go_roundw
          case rel => exact ⟨k + 1, A3, c3, by omega, by go_num, by go_num, ho3, (bal hb3 _).trans hb4, HALL2⟩
          case measure => simp [intOf]; omega
        · have hall := all_not hx hE
          have q : (tpE x != 0) = true := by rw [bne_iff_ne]; exact hE
          have CP := Lib.hid cp; have HV := Lib.hid (HBAD.out hall)
          clear cp hall hE hgx hx htk
          generalize tpE x = E at *
          generalize tpR x = R at *
          go_wp2_with (go_at_call 54; refine (CP.out _).mono ?_; rintro e w2 ⟨⟨A2, c2, rfl, ho2⟩, hb2⟩; have HB3 := Lib.hid (bcl HB1.out (bcl HB.out hb2)); clear ho2 hb2)
          go_ret
          obtain ⟨e1, e2⟩ := HV.out
          rw [e1, e2]
          exact ⟨rfl, g, HS0.out.keep HB3.out, Chs.of_below _ HB3.out, Nwb.refl _ _⟩
      · obtain rfl : k = 1 := by omega
        have ho := HO.out
        have ha := HALL.out
        rw [HRR.out] at ho ha
        have hgb := fun (a : Addr) (ha : A' = some a) => OMany.base (ho.up hbs) ha
        have ho : OMany Vals 31 30 wr base A' c' [tpR u] := ho.many hbs
        have ha : allB [u] = true := ha
        obtain ⟨e1, e2⟩ := HGOOD.out (by rw [HRR.out]; exact ha)
        have hu0 : tpE u = 0 := by simpa [allB] using ha
        obtain ⟨hli, hok⟩ := tpR_ok hu0
        have h5 := (liE_iff.1 hli).2.1
        obtain ⟨b4, B, C, rfl, cc, hv, hC1, hC2, hin⟩ := ho.vat (i := 0) (by simp)
        have cc : wr.cell? ⟨b4, 0, none⟩ = some (.slice B (tpR u).length C) := cc
        have hv : Vals wr B (tpR u) := hv
        have hC1 : (tpR u).length ≤ C := hC1
        have hbw := bcl HB1.out HB.out
        have hS1 := HS0.out.keep hbw
        have c0w := str0 (HST.out.below HB.out (Nat.le_refl _))
        have hgb : w1.heap.size ≤ b4 := hgb ⟨b4, 0, none⟩ rfl
        have cq := rput_any base p g L B C (tpR u) hC1 hC2 hok wr hS1 ⟨hv, fun _ => hin⟩
        have hr8 := putE_le L (tpR u)
        by_cases hE : putE L (tpR u) = 0
        · rw [if_pos hE] at e1
          rw [hE] at cq
          have CQ := Lib.hid cq; have E1 := Lib.hid e1; have E2 := Lib.hid e2; have HBW := Lib.hid hbw
          clear cq e1 e2 hE hr8 ho ha hu0 hli hok h5 hv hC1 hC2 hin hbw hS1
          generalize tpR u = T at *
          generalize putL L T = L2 at *
          go_wp2_with (go_at_call 55; refine CQ.out.mono ?_; rintro e w2 ⟨rfl, g', hS2, hch, hnw⟩)
          go_ret
          rw [E1.out, E2.out]
          exact ⟨rfl, g', hS2, (Chs.of_below _ HBW.out).trans hch (fun b h => .inl h), fun b h => (hnw b h).imp id (Nat.le_trans HBW.out.size)⟩
        · rw [if_neg hE] at e1
          have q : (putE L (tpR u) != 0) = true := by rw [bne_iff_ne]; exact hE
          have cn := fun (W : World) => sname_any (putE L (tpR u)) hr8.1 hr8.2 W
          have CQ := Lib.hid cq; have CN := Lib.hid cn; have E1 := Lib.hid e1; have E2 := Lib.hid e2; have HBW := Lib.hid hbw
          clear cq cn e1 e2 hE hr8 ho ha hu0 hli hok h5 hv hC1 hC2 hin hbw hS1
          generalize tpR u = T at *
          generalize putL L T = L2 at *
          generalize putE L T = E at *
          go_wp2_with (first
            | (go_at_call 55; refine CQ.out.mono ?_; rintro e w2 ⟨rfl, g', hS2, hch, hnw⟩)
            | (go_at_call 52; refine (CN.out _).mono ?_; rintro e w3 ⟨rfl, hb5⟩))
          go_ret
          rw [E1.out, E2.out]
          exact ⟨rfl, g', hS2.keep hb5, ((Chs.of_below _ HBW.out).trans hch (fun b h => .inl h)).trans (Chs.of_below (RM p g) hb5) (fun b h => .inl h), fun b h => (hnw b h).imp id (Nat.le_trans HBW.out.size)⟩
set_option maxHeartbeats 800000 in
set_option maxRecDepth 100000 in
theorem sl_read (s u V : ByteArray) (L' : List (List Va)) (hc : CutA s cRead [u]) (hu : u.size ≤ 4000) (w : World) (hS : RSp w base p g L)
    (hbad : allB [u] = false → V = cBad ∧ L' = L) (hgood : allB [u] = true → V = (if finE (tpR u) L = 0 then lin (rT (tpR u) L) else nmB (finE (tpR u) L)) ∧ L' = L) :
    Calls Tryz.prog 16 #[.pointer (some ⟨p, 0, none⟩), .string s] w fun e w' => e = .returned (.string V) ∧ ∃ g', RSp w' base p g' L' ∧ Chs (RM p g) w w' ∧ Nwb g g' w.heap.size := by
    obtain ⟨r, hr⟩ : ∃ r, r = [u] := ⟨_, rfl⟩
    have hu' : ∀ x ∈ r, x.size ≤ 4000 := by
      rw [hr]; intro x hx
      rw [List.mem_singleton.1 hx]
      exact hu
    have hrl : r.length = 1 := by rw [hr]; rfl
    rw [← hr] at hbad hgood hc
    have HC := Lib.hid hc; have HU := Lib.hid hu'; have HS0 := Lib.hid hS; have HBAD := Lib.hid hbad; have HGOOD := Lib.hid hgood; have HRR := Lib.hid hr
    have hne : (((r.length : Int) + 1) - 1 != 1) = false := by rw [bne_eq_false_iff_eq]; omega
    have hne2 : ((r.length : Int) != 1) = false := by rw [bne_eq_false_iff_eq]; omega
    clear hc hu' hS hbad hgood hr hu
    simp only [cRead] at HC
    go_enter Tryz.func16, Tryz.ntmps16
    go_wp2_with (go_at_call 15; refine (HC.out _).mono ?_; rintro e w1 ⟨⟨b, c, rfl, hS, hbb⟩, hb⟩; have c0 := str0 hS; have HBB := Lib.hid hbb; clear hbb; have HST := Lib.hid hS; have HB1 := Lib.hid hb; clear hS hb)
    go_loopw [16, 17, 18, 19] (fun so si _ _ wr => ∃ (k : Nat) (A : Option Addr) (c : Nat), k ≤ r.length ∧ so = .slice A k c ∧ si = .int .i64 ((k + 1 : Nat) : Int) ∧ Hid (OM2 Vals 31 30 wr w1.heap.size base A c ((r.take k).map tpR)) ∧ Hid (Below w1.heap.size w1 wr) ∧ Hid (allB (r.take k) = true)) (fun _ si _ _ _ => r.length + 1 - (intOf si).toNat)
    case atStart => exact ⟨0, none, 0, Nat.zero_le _, rfl, rfl, OM2.nil, Below.refl _ _, rfl⟩
    case round =>
      obtain ⟨k, A', c', hk, rfl, rfl, HO, HB, HALL⟩ := hrel
      have htk : ((r.take k).map tpR).length = k := by rw [List.length_map, List.length_take]; omega
      have hbw := HB1.out.size
      have hbs : base ≤ w1.heap.size := Nat.le_trans HS0.out.hb hbw
      by_cases hlt : k < r.length
      · have i0 : (0 : Int) ≤ ((k + 1 : Nat) : Int) := by omega
        have i1 : ((k + 1 : Nat) : Int) < (r.length : Int) + 1 := by omega
        obtain ⟨x, hx⟩ : ∃ x, r[k]? = some x := ⟨_, List.getElem?_eq_getElem hlt⟩
        have hgx : gs ((⟨#[114, 101, 97, 100]⟩ : ByteArray) :: r) (k + 1) = x := by simp [gs, List.getD_eq_getElem?_getD, hx]
        have ch0 := str_cell (HST.out.below HB.out (Nat.le_refl _)) (i := k + 1) (by simp; omega)
        rw [hgx] at ch0
        have hz := HB.out.size
        have cp := fun (W : World) => rreadt_any x (by have := HU.out x (List.mem_of_getElem? hx); omega) W
        by_cases hE : tpE x = 0
        · have hall := (all_next HALL.out hx).trans (decide_eq_true hE)
          have hmap : (r.take (k + 1)).map tpR = (r.take k).map tpR ++ [tpR x] := by rw [List.take_add_one, hx]; simp
          rw [hE] at cp
          have CP := Lib.hid cp; have HALL2 := Lib.hid hall; have HMAP := Lib.hid hmap; have HTK := Lib.hid htk
          have HTK2 := Lib.hid (show ((r.take (k + 1)).map tpR).length = k + 1 by rw [List.length_map, List.length_take]; omega)
          clear cp hall hmap hE hgx hx htk
          generalize tpR x = R at *
          go_wp2_with (first
            | (go_at_call 54; refine (CP.out _).mono ?_; rintro e w2 ⟨⟨A2, c2, rfl, ho2⟩, hb2⟩; have HO2 := Lib.hid ho2; clear ho2; have hb3 := bcl HB.out hb2)
            | (at_builtin; refine wpList_append_manysN vals_stay rfl _ _ 42 31 30 rfl Tryz.underlying42 infoVals (by decide) w1.heap.size base hbs A' c' ((r.take k).map tpR) k HTK.out rfl (HO.out.keep hbs (Nat.le_refl _) hz (bal hb2 _)) (some ⟨w2.heap.size, 0, none⟩) 1 [R] 1 rfl rfl (mw_one (cell_new1 _ _ _) (Sl.alloc HO2.out.vals _) HO2.out.cap.1 HO2.out.cap.2 ((Inn.own HO2.out).alloc (Nat.le_trans (Nat.le_trans hbs hz) hb2.size) _)) (by omega) (Nat.le_trans hz (le_al hb2.size _)) ((r.take (k + 1)).map tpR) HMAP.out.symm (k + 1) HTK2.out ?_; intro A3 c3 w3 ho3 hb4))
          go_roundw
          case rel => exact ⟨k + 1, A3, c3, by omega, by go_num, by go_num, ho3, (bal hb3 _).trans hb4, HALL2⟩
          case measure => simp [intOf]; omega
        · have hall := all_not hx hE
          have q : (tpE x != 0) = true := by rw [bne_iff_ne]; exact hE
          have CP := Lib.hid cp; have HV := Lib.hid (HBAD.out hall)
          clear cp hall hE hgx hx htk
          generalize tpE x = E at *
          generalize tpR x = R at *
          go_wp2_with (go_at_call 54; refine (CP.out _).mono ?_; rintro e w2 ⟨⟨A2, c2, rfl, ho2⟩, hb2⟩; have HB3 := Lib.hid (bcl HB1.out (bcl HB.out hb2)); clear ho2 hb2)
          go_ret
          obtain ⟨e1, e2⟩ := HV.out
          rw [e1, e2]
          exact ⟨rfl, g, HS0.out.keep HB3.out, Chs.of_below _ HB3.out, Nwb.refl _ _⟩
      · obtain rfl : k = 1 := by omega
        have ho := HO.out
        have ha := HALL.out
        rw [HRR.out] at ho ha
        have hgb := fun (a : Addr) (ha : A' = some a) => OMany.base (ho.up hbs) ha
        have ho : OMany Vals 31 30 wr base A' c' [tpR u] := ho.many hbs
        have ha : allB [u] = true := ha
        obtain ⟨e1, e2⟩ := HGOOD.out (by rw [HRR.out]; exact ha)
        have hu0 : tpE u = 0 := by simpa [allB] using ha
        obtain ⟨hli, hok⟩ := tpR_ok hu0
        have h5 := (liE_iff.1 hli).2.1
        obtain ⟨b4, B, C, rfl, cc, hv, hC1, hC2, hin⟩ := ho.vat (i := 0) (by simp)
        have cc : wr.cell? ⟨b4, 0, none⟩ = some (.slice B (tpR u).length C) := cc
        have hv : Vals wr B (tpR u) := hv
        have hC1 : (tpR u).length ≤ C := hC1
        have hbw := bcl HB1.out HB.out
        have hS1 := HS0.out.keep hbw
        have c0w := str0 (HST.out.below HB.out (Nat.le_refl _))
        have hgb : w1.heap.size ≤ b4 := hgb ⟨b4, 0, none⟩ rfl
        have cq := sl_get base p g L B C (tpR u) (by unfold maxLen; omega) hok wr.drew (HS0.out.keep (bdr hbw)) (show Vals wr.drew B (tpR u) from hv) false
        have hr8 := finE_le (tpR u) L
        have hl1 : b < wr.heap.size := lt_of_cell c0w
        have hl4 : b4 < wr.heap.size := lt_of_cell cc
        have hn1 := HS0.out.not_at HBB.out
        have hn4 := HS0.out.not_at (Nat.le_trans HB1.out.size hgb)
        have bk := fun (W2 : World) (k : Chs (RM p g) wr.drew W2) => And.intro ((World.cell?_of_block (a := ⟨b, 0, none⟩) (k.block b hl1 hn1)).trans c0w) ((World.cell?_of_block (a := ⟨b4, 0, none⟩) (k.block b4 hl4 hn4)).trans cc)
        have hbw := bdr hbw
        by_cases hE : finE (tpR u) L = 0
        · rw [if_pos hE] at e1
          rw [hE] at cq
          obtain ⟨hl5, hrg⟩ := rT_ok hS1 hE
          have cn := fun (W : World) (X : Option Addr) (y : Nat) (hX : Vals W X (rT (tpR u) L)) => rline_any X y (rT (tpR u) L) (by omega) hrg W hX
          have CQ := Lib.hid cq; have CN := Lib.hid cn; have E1 := Lib.hid e1; have E2 := Lib.hid e2; have HBW := Lib.hid hbw; have BK := Lib.hid bk
          clear cq cn hl5 hrg e1 e2 hE hr8 ho ha hu0 hli hok h5 hv hC1 hC2 hin hbw hS1 bk hn1 hn4 hl1 hl4
          generalize rT (tpR u) L = T2 at *
          generalize rL (tpR u) L = L2 at *
          generalize tpR u = T at *
          go_wp2_with fail
          go_region_held3 (fun w' => w'.cell? ⟨b, 0, none⟩ = some (.string ⟨#[114, 101, 97, 100]⟩) ∧ w'.cell? ⟨b4, 0, none⟩ = some (.slice B T.length C)) (first | exact ⟨c0w, cc⟩ | exact BK.out _ HCH.out | go_keep) ((go_at_call 56; refine CQ.out.mono ?_; rintro e w2 ⟨B2, C2, rfl, hV2, g', hS2, hch, hnw⟩; have HV2 := Lib.hid hV2; have HS2 := Lib.hid hS2; have HCH := Lib.hid hch; have HNW := Lib.hid hnw; clear hV2 hS2 hch hnw))
          go_wp2_with (go_at_call 57; refine (CN.out _ _ _ HV2.out).mono ?_; rintro e w3 ⟨rfl, hb5⟩)
          go_ret
          rw [E1.out, E2.out]
          exact ⟨rfl, g', RSp.keep (by simpa using HS2.out) hb5, ((Chs.of_below _ HBW.out).trans HCH.out (fun b h => .inl h)).trans (Chs.of_below (RM p g) hb5) (fun b h => .inl h), fun b h => (HNW.out b h).imp id (Nat.le_trans HBW.out.size)⟩
        · rw [if_neg hE] at e1
          have q : (finE (tpR u) L != 0) = true := by rw [bne_iff_ne]; exact hE
          have cn := fun (W : World) => sname_any (finE (tpR u) L) hr8.1 hr8.2 W
          have CQ := Lib.hid cq; have CN := Lib.hid cn; have E1 := Lib.hid e1; have E2 := Lib.hid e2; have HBW := Lib.hid hbw; have BK := Lib.hid bk
          clear cq cn e1 e2 hE hr8 ho ha hu0 hli hok h5 hv hC1 hC2 hin hbw hS1 bk hn1 hn4 hl1 hl4
          generalize rT (tpR u) L = T2 at *
          generalize rL (tpR u) L = L2 at *
          generalize finE (tpR u) L = E at *
          generalize tpR u = T at *
          go_wp2_with fail
          go_region_held3 (fun w' => w'.cell? ⟨b, 0, none⟩ = some (.string ⟨#[114, 101, 97, 100]⟩) ∧ w'.cell? ⟨b4, 0, none⟩ = some (.slice B T.length C)) (first | exact ⟨c0w, cc⟩ | exact BK.out _ HCH.out | go_keep) ((go_at_call 56; refine CQ.out.mono ?_; rintro e w2 ⟨B2, C2, rfl, hV2, g', hS2, hch, hnw⟩; have HV2 := Lib.hid hV2; have HS2 := Lib.hid hS2; have HCH := Lib.hid hch; have HNW := Lib.hid hnw; clear hV2 hS2 hch hnw))
          go_wp2_with (go_at_call 52; refine (CN.out _).mono ?_; rintro e w3 ⟨rfl, hb5⟩)
          go_ret
          rw [E1.out, E2.out]
          exact ⟨rfl, g', RSp.keep (by simpa using HS2.out) hb5, ((Chs.of_below _ HBW.out).trans HCH.out (fun b h => .inl h)).trans (Chs.of_below (RM p g) hb5) (fun b h => .inl h), fun b h => (HNW.out b h).imp id (Nat.le_trans HBW.out.size)⟩
set_option maxHeartbeats 800000 in
set_option maxRecDepth 100000 in
theorem sl_take (s u V : ByteArray) (L' : List (List Va)) (hc : CutA s cTake [u]) (hu : u.size ≤ 4000) (w : World) (hS : RSp w base p g L)
    (hbad : allB [u] = false → V = cBad ∧ L' = L) (hgood : allB [u] = true → V = (if finE (tpR u) L = 0 then lin (rT (tpR u) L) else nmB (finE (tpR u) L)) ∧ L' = rL (tpR u) L) :
    Calls Tryz.prog 16 #[.pointer (some ⟨p, 0, none⟩), .string s] w fun e w' => e = .returned (.string V) ∧ ∃ g', RSp w' base p g' L' ∧ Chs (RM p g) w w' ∧ Nwb g g' w.heap.size := by
    obtain ⟨r, hr⟩ : ∃ r, r = [u] := ⟨_, rfl⟩
    have hu' : ∀ x ∈ r, x.size ≤ 4000 := by
      rw [hr]; intro x hx
      rw [List.mem_singleton.1 hx]
      exact hu
    have hrl : r.length = 1 := by rw [hr]; rfl
    rw [← hr] at hbad hgood hc
    have HC := Lib.hid hc; have HU := Lib.hid hu'; have HS0 := Lib.hid hS; have HBAD := Lib.hid hbad; have HGOOD := Lib.hid hgood; have HRR := Lib.hid hr
    have hne : (((r.length : Int) + 1) - 1 != 1) = false := by rw [bne_eq_false_iff_eq]; omega
    have hne2 : ((r.length : Int) != 1) = false := by rw [bne_eq_false_iff_eq]; omega
    clear hc hu' hS hbad hgood hr hu
    simp only [cTake] at HC
    go_enter Tryz.func16, Tryz.ntmps16
    go_wp2_with (go_at_call 15; refine (HC.out _).mono ?_; rintro e w1 ⟨⟨b, c, rfl, hS, hbb⟩, hb⟩; have c0 := str0 hS; have HBB := Lib.hid hbb; clear hbb; have HST := Lib.hid hS; have HB1 := Lib.hid hb; clear hS hb)
    go_loopw [16, 17, 18, 19] (fun so si _ _ wr => ∃ (k : Nat) (A : Option Addr) (c : Nat), k ≤ r.length ∧ so = .slice A k c ∧ si = .int .i64 ((k + 1 : Nat) : Int) ∧ Hid (OM2 Vals 31 30 wr w1.heap.size base A c ((r.take k).map tpR)) ∧ Hid (Below w1.heap.size w1 wr) ∧ Hid (allB (r.take k) = true)) (fun _ si _ _ _ => r.length + 1 - (intOf si).toNat)
    case atStart => exact ⟨0, none, 0, Nat.zero_le _, rfl, rfl, OM2.nil, Below.refl _ _, rfl⟩
    case round =>
      obtain ⟨k, A', c', hk, rfl, rfl, HO, HB, HALL⟩ := hrel
      have htk : ((r.take k).map tpR).length = k := by rw [List.length_map, List.length_take]; omega
      have hbw := HB1.out.size
      have hbs : base ≤ w1.heap.size := Nat.le_trans HS0.out.hb hbw
      by_cases hlt : k < r.length
      · have i0 : (0 : Int) ≤ ((k + 1 : Nat) : Int) := by omega
        have i1 : ((k + 1 : Nat) : Int) < (r.length : Int) + 1 := by omega
        obtain ⟨x, hx⟩ : ∃ x, r[k]? = some x := ⟨_, List.getElem?_eq_getElem hlt⟩
        have hgx : gs ((⟨#[116, 97, 107, 101]⟩ : ByteArray) :: r) (k + 1) = x := by simp [gs, List.getD_eq_getElem?_getD, hx]
        have ch0 := str_cell (HST.out.below HB.out (Nat.le_refl _)) (i := k + 1) (by simp; omega)
        rw [hgx] at ch0
        have hz := HB.out.size
        have cp := fun (W : World) => rreadt_any x (by have := HU.out x (List.mem_of_getElem? hx); omega) W
        by_cases hE : tpE x = 0
        · have hall := (all_next HALL.out hx).trans (decide_eq_true hE)
          have hmap : (r.take (k + 1)).map tpR = (r.take k).map tpR ++ [tpR x] := by rw [List.take_add_one, hx]; simp
          rw [hE] at cp
          have CP := Lib.hid cp; have HALL2 := Lib.hid hall; have HMAP := Lib.hid hmap; have HTK := Lib.hid htk
          have HTK2 := Lib.hid (show ((r.take (k + 1)).map tpR).length = k + 1 by rw [List.length_map, List.length_take]; omega)
          clear cp hall hmap hE hgx hx htk
          generalize tpR x = R at *
          go_wp2_with (first
            | (go_at_call 54; refine (CP.out _).mono ?_; rintro e w2 ⟨⟨A2, c2, rfl, ho2⟩, hb2⟩; have HO2 := Lib.hid ho2; clear ho2; have hb3 := bcl HB.out hb2)
            | (at_builtin; refine wpList_append_manysN vals_stay rfl _ _ 42 31 30 rfl Tryz.underlying42 infoVals (by decide) w1.heap.size base hbs A' c' ((r.take k).map tpR) k HTK.out rfl (HO.out.keep hbs (Nat.le_refl _) hz (bal hb2 _)) (some ⟨w2.heap.size, 0, none⟩) 1 [R] 1 rfl rfl (mw_one (cell_new1 _ _ _) (Sl.alloc HO2.out.vals _) HO2.out.cap.1 HO2.out.cap.2 ((Inn.own HO2.out).alloc (Nat.le_trans (Nat.le_trans hbs hz) hb2.size) _)) (by omega) (Nat.le_trans hz (le_al hb2.size _)) ((r.take (k + 1)).map tpR) HMAP.out.symm (k + 1) HTK2.out ?_; intro A3 c3 w3 ho3 hb4))
          go_roundw
          case rel => exact ⟨k + 1, A3, c3, by omega, by go_num, by go_num, ho3, (bal hb3 _).trans hb4, HALL2⟩
          case measure => simp [intOf]; omega
        · have hall := all_not hx hE
          have q : (tpE x != 0) = true := by rw [bne_iff_ne]; exact hE
          have CP := Lib.hid cp; have HV := Lib.hid (HBAD.out hall)
          clear cp hall hE hgx hx htk
          generalize tpE x = E at *
          generalize tpR x = R at *
          go_wp2_with (go_at_call 54; refine (CP.out _).mono ?_; rintro e w2 ⟨⟨A2, c2, rfl, ho2⟩, hb2⟩; have HB3 := Lib.hid (bcl HB1.out (bcl HB.out hb2)); clear ho2 hb2)
          go_ret
          obtain ⟨e1, e2⟩ := HV.out
          rw [e1, e2]
          exact ⟨rfl, g, HS0.out.keep HB3.out, Chs.of_below _ HB3.out, Nwb.refl _ _⟩
      · obtain rfl : k = 1 := by omega
        have ho := HO.out
        have ha := HALL.out
        rw [HRR.out] at ho ha
        have hgb := fun (a : Addr) (ha : A' = some a) => OMany.base (ho.up hbs) ha
        have ho : OMany Vals 31 30 wr base A' c' [tpR u] := ho.many hbs
        have ha : allB [u] = true := ha
        obtain ⟨e1, e2⟩ := HGOOD.out (by rw [HRR.out]; exact ha)
        have hu0 : tpE u = 0 := by simpa [allB] using ha
        obtain ⟨hli, hok⟩ := tpR_ok hu0
        have h5 := (liE_iff.1 hli).2.1
        obtain ⟨b4, B, C, rfl, cc, hv, hC1, hC2, hin⟩ := ho.vat (i := 0) (by simp)
        have cc : wr.cell? ⟨b4, 0, none⟩ = some (.slice B (tpR u).length C) := cc
        have hv : Vals wr B (tpR u) := hv
        have hC1 : (tpR u).length ≤ C := hC1
        have hbw := bcl HB1.out HB.out
        have hS1 := HS0.out.keep hbw
        have c0w := str0 (HST.out.below HB.out (Nat.le_refl _))
        have hgb : w1.heap.size ≤ b4 := hgb ⟨b4, 0, none⟩ rfl
        have cq := sl_get base p g L B C (tpR u) (by unfold maxLen; omega) hok wr.drew (HS0.out.keep (bdr hbw)) (show Vals wr.drew B (tpR u) from hv) true
        have hr8 := finE_le (tpR u) L
        have hl1 : b < wr.heap.size := lt_of_cell c0w
        have hl4 : b4 < wr.heap.size := lt_of_cell cc
        have hn1 := HS0.out.not_at HBB.out
        have hn4 := HS0.out.not_at (Nat.le_trans HB1.out.size hgb)
        have bk := fun (W2 : World) (k : Chs (RM p g) wr.drew W2) => And.intro ((World.cell?_of_block (a := ⟨b, 0, none⟩) (k.block b hl1 hn1)).trans c0w) ((World.cell?_of_block (a := ⟨b4, 0, none⟩) (k.block b4 hl4 hn4)).trans cc)
        have hbw := bdr hbw
        by_cases hE : finE (tpR u) L = 0
        · rw [if_pos hE] at e1
          rw [hE] at cq
          obtain ⟨hl5, hrg⟩ := rT_ok hS1 hE
          have cn := fun (W : World) (X : Option Addr) (y : Nat) (hX : Vals W X (rT (tpR u) L)) => rline_any X y (rT (tpR u) L) (by omega) hrg W hX
          have CQ := Lib.hid cq; have CN := Lib.hid cn; have E1 := Lib.hid e1; have E2 := Lib.hid e2; have HBW := Lib.hid hbw; have BK := Lib.hid bk
          clear cq cn hl5 hrg e1 e2 hE hr8 ho ha hu0 hli hok h5 hv hC1 hC2 hin hbw hS1 bk hn1 hn4 hl1 hl4
          generalize rT (tpR u) L = T2 at *
          generalize rL (tpR u) L = L2 at *
          generalize tpR u = T at *
          go_wp2_with fail
          go_region_held3 (fun w' => w'.cell? ⟨b, 0, none⟩ = some (.string ⟨#[116, 97, 107, 101]⟩) ∧ w'.cell? ⟨b4, 0, none⟩ = some (.slice B T.length C)) (first | exact ⟨c0w, cc⟩ | exact BK.out _ HCH.out | go_keep) ((go_at_call 56; refine CQ.out.mono ?_; rintro e w2 ⟨B2, C2, rfl, hV2, g', hS2, hch, hnw⟩; have HV2 := Lib.hid hV2; have HS2 := Lib.hid hS2; have HCH := Lib.hid hch; have HNW := Lib.hid hnw; clear hV2 hS2 hch hnw))
          go_wp2_with (go_at_call 57; refine (CN.out _ _ _ HV2.out).mono ?_; rintro e w3 ⟨rfl, hb5⟩)
          go_ret
          rw [E1.out, E2.out]
          exact ⟨rfl, g', RSp.keep (by simpa using HS2.out) hb5, ((Chs.of_below _ HBW.out).trans HCH.out (fun b h => .inl h)).trans (Chs.of_below (RM p g) hb5) (fun b h => .inl h), fun b h => (HNW.out b h).imp id (Nat.le_trans HBW.out.size)⟩
        · rw [if_neg hE] at e1
          have q : (finE (tpR u) L != 0) = true := by rw [bne_iff_ne]; exact hE
          have cn := fun (W : World) => sname_any (finE (tpR u) L) hr8.1 hr8.2 W
          have CQ := Lib.hid cq; have CN := Lib.hid cn; have E1 := Lib.hid e1; have E2 := Lib.hid e2; have HBW := Lib.hid hbw; have BK := Lib.hid bk
          clear cq cn e1 e2 hE hr8 ho ha hu0 hli hok h5 hv hC1 hC2 hin hbw hS1 bk hn1 hn4 hl1 hl4
          generalize rT (tpR u) L = T2 at *
          generalize rL (tpR u) L = L2 at *
          generalize finE (tpR u) L = E at *
          generalize tpR u = T at *
          go_wp2_with fail
          go_region_held3 (fun w' => w'.cell? ⟨b, 0, none⟩ = some (.string ⟨#[116, 97, 107, 101]⟩) ∧ w'.cell? ⟨b4, 0, none⟩ = some (.slice B T.length C)) (first | exact ⟨c0w, cc⟩ | exact BK.out _ HCH.out | go_keep) ((go_at_call 56; refine CQ.out.mono ?_; rintro e w2 ⟨B2, C2, rfl, hV2, g', hS2, hch, hnw⟩; have HV2 := Lib.hid hV2; have HS2 := Lib.hid hS2; have HCH := Lib.hid hch; have HNW := Lib.hid hnw; clear hV2 hS2 hch hnw))
          go_wp2_with (go_at_call 52; refine (CN.out _).mono ?_; rintro e w3 ⟨rfl, hb5⟩)
          go_ret
          rw [E1.out, E2.out]
          exact ⟨rfl, g', RSp.keep (by simpa using HS2.out) hb5, ((Chs.of_below _ HBW.out).trans HCH.out (fun b h => .inl h)).trans (Chs.of_below (RM p g) hb5) (fun b h => .inl h), fun b h => (HNW.out b h).imp id (Nat.le_trans HBW.out.size)⟩
set_option maxHeartbeats 800000 in
set_option maxRecDepth 100000 in
theorem sl_cnt (s u V : ByteArray) (L' : List (List Va)) (hc : CutA s cCount [u]) (hu : u.size ≤ 4000) (w : World) (hS : RSp w base p g L)
    (hbad : allB [u] = false → V = cBad ∧ L' = L) (hgood : allB [u] = true → V = itB (cnt (tpR u) L L.length : Nat) ∧ L' = L) :
    Calls Tryz.prog 16 #[.pointer (some ⟨p, 0, none⟩), .string s] w fun e w' => e = .returned (.string V) ∧ ∃ g', RSp w' base p g' L' ∧ Chs (RM p g) w w' ∧ Nwb g g' w.heap.size := by
    obtain ⟨r, hr⟩ : ∃ r, r = [u] := ⟨_, rfl⟩
    have hu' : ∀ x ∈ r, x.size ≤ 4000 := by
      rw [hr]; intro x hx
      rw [List.mem_singleton.1 hx]
      exact hu
    have hrl : r.length = 1 := by rw [hr]; rfl
    rw [← hr] at hbad hgood hc
    have HC := Lib.hid hc; have HU := Lib.hid hu'; have HS0 := Lib.hid hS; have HBAD := Lib.hid hbad; have HGOOD := Lib.hid hgood; have HRR := Lib.hid hr
    have hne : (((r.length : Int) + 1) - 1 != 1) = false := by rw [bne_eq_false_iff_eq]; omega
    have hne2 : ((r.length : Int) != 1) = false := by rw [bne_eq_false_iff_eq]; omega
    clear hc hu' hS hbad hgood hr hu
    simp only [cCount] at HC
    go_enter Tryz.func16, Tryz.ntmps16
    go_wp2_with (go_at_call 15; refine (HC.out _).mono ?_; rintro e w1 ⟨⟨b, c, rfl, hS, hbb⟩, hb⟩; have c0 := str0 hS; have HBB := Lib.hid hbb; clear hbb; have HST := Lib.hid hS; have HB1 := Lib.hid hb; clear hS hb)
    go_loopw [16, 17, 18, 19] (fun so si _ _ wr => ∃ (k : Nat) (A : Option Addr) (c : Nat), k ≤ r.length ∧ so = .slice A k c ∧ si = .int .i64 ((k + 1 : Nat) : Int) ∧ Hid (OM2 Vals 31 30 wr w1.heap.size base A c ((r.take k).map tpR)) ∧ Hid (Below w1.heap.size w1 wr) ∧ Hid (allB (r.take k) = true)) (fun _ si _ _ _ => r.length + 1 - (intOf si).toNat)
    case atStart => exact ⟨0, none, 0, Nat.zero_le _, rfl, rfl, OM2.nil, Below.refl _ _, rfl⟩
    case round =>
      obtain ⟨k, A', c', hk, rfl, rfl, HO, HB, HALL⟩ := hrel
      have htk : ((r.take k).map tpR).length = k := by rw [List.length_map, List.length_take]; omega
      have hbw := HB1.out.size
      have hbs : base ≤ w1.heap.size := Nat.le_trans HS0.out.hb hbw
      by_cases hlt : k < r.length
      · have i0 : (0 : Int) ≤ ((k + 1 : Nat) : Int) := by omega
        have i1 : ((k + 1 : Nat) : Int) < (r.length : Int) + 1 := by omega
        obtain ⟨x, hx⟩ : ∃ x, r[k]? = some x := ⟨_, List.getElem?_eq_getElem hlt⟩
        have hgx : gs ((⟨#[99, 111, 117, 110, 116]⟩ : ByteArray) :: r) (k + 1) = x := by simp [gs, List.getD_eq_getElem?_getD, hx]
        have ch0 := str_cell (HST.out.below HB.out (Nat.le_refl _)) (i := k + 1) (by simp; omega)
        rw [hgx] at ch0
        have hz := HB.out.size
        have cp := fun (W : World) => rreadt_any x (by have := HU.out x (List.mem_of_getElem? hx); omega) W
        by_cases hE : tpE x = 0
        · have hall := (all_next HALL.out hx).trans (decide_eq_true hE)
          have hmap : (r.take (k + 1)).map tpR = (r.take k).map tpR ++ [tpR x] := by rw [List.take_add_one, hx]; simp
          rw [hE] at cp
          have CP := Lib.hid cp; have HALL2 := Lib.hid hall; have HMAP := Lib.hid hmap; have HTK := Lib.hid htk
          have HTK2 := Lib.hid (show ((r.take (k + 1)).map tpR).length = k + 1 by rw [List.length_map, List.length_take]; omega)
          clear cp hall hmap hE hgx hx htk
          generalize tpR x = R at *
          go_wp2_with (first
            | (go_at_call 54; refine (CP.out _).mono ?_; rintro e w2 ⟨⟨A2, c2, rfl, ho2⟩, hb2⟩; have HO2 := Lib.hid ho2; clear ho2; have hb3 := bcl HB.out hb2)
            | (at_builtin; refine wpList_append_manysN vals_stay rfl _ _ 42 31 30 rfl Tryz.underlying42 infoVals (by decide) w1.heap.size base hbs A' c' ((r.take k).map tpR) k HTK.out rfl (HO.out.keep hbs (Nat.le_refl _) hz (bal hb2 _)) (some ⟨w2.heap.size, 0, none⟩) 1 [R] 1 rfl rfl (mw_one (cell_new1 _ _ _) (Sl.alloc HO2.out.vals _) HO2.out.cap.1 HO2.out.cap.2 ((Inn.own HO2.out).alloc (Nat.le_trans (Nat.le_trans hbs hz) hb2.size) _)) (by omega) (Nat.le_trans hz (le_al hb2.size _)) ((r.take (k + 1)).map tpR) HMAP.out.symm (k + 1) HTK2.out ?_; intro A3 c3 w3 ho3 hb4))
          go_roundw
          case rel => exact ⟨k + 1, A3, c3, by omega, by go_num, by go_num, ho3, (bal hb3 _).trans hb4, HALL2⟩
          case measure => simp [intOf]; omega
        · have hall := all_not hx hE
          have q : (tpE x != 0) = true := by rw [bne_iff_ne]; exact hE
          have CP := Lib.hid cp; have HV := Lib.hid (HBAD.out hall)
          clear cp hall hE hgx hx htk
          generalize tpE x = E at *
          generalize tpR x = R at *
          go_wp2_with (go_at_call 54; refine (CP.out _).mono ?_; rintro e w2 ⟨⟨A2, c2, rfl, ho2⟩, hb2⟩; have HB3 := Lib.hid (bcl HB1.out (bcl HB.out hb2)); clear ho2 hb2)
          go_ret
          obtain ⟨e1, e2⟩ := HV.out
          rw [e1, e2]
          exact ⟨rfl, g, HS0.out.keep HB3.out, Chs.of_below _ HB3.out, Nwb.refl _ _⟩
      · obtain rfl : k = 1 := by omega
        have ho := HO.out
        have ha := HALL.out
        rw [HRR.out] at ho ha
        have hgb := fun (a : Addr) (ha : A' = some a) => OMany.base (ho.up hbs) ha
        have ho : OMany Vals 31 30 wr base A' c' [tpR u] := ho.many hbs
        have ha : allB [u] = true := ha
        obtain ⟨e1, e2⟩ := HGOOD.out (by rw [HRR.out]; exact ha)
        have hu0 : tpE u = 0 := by simpa [allB] using ha
        obtain ⟨hli, hok⟩ := tpR_ok hu0
        have h5 := (liE_iff.1 hli).2.1
        obtain ⟨b4, B, C, rfl, cc, hv, hC1, hC2, hin⟩ := ho.vat (i := 0) (by simp)
        have cc : wr.cell? ⟨b4, 0, none⟩ = some (.slice B (tpR u).length C) := cc
        have hv : Vals wr B (tpR u) := hv
        have hC1 : (tpR u).length ≤ C := hC1
        have hbw := bcl HB1.out HB.out
        have hS1 := HS0.out.keep hbw
        have c0w := str0 (HST.out.below HB.out (Nat.le_refl _))
        have hgb : w1.heap.size ≤ b4 := hgb ⟨b4, 0, none⟩ rfl
        obtain ⟨E, cp, a1, a2, a3⟩ := hS1.there
        have a4 : wr.cell? ⟨p, 0, none⟩ = some (.slice E L.length cp) := a1.cell (i := 0) rfl
        have hl20 := hS1.len
        have cq := rcount_any p B C (tpR u) (by unfold maxLen; omega) E cp L (by unfold maxLen; omega) wr hv a3.many a4
        have hcn := cnt_le (tpR u) L L.length
        have cn := fun (W : World) => rdigits_any ((cnt (tpR u) L L.length : Nat) : Int) (by omega) (by omega) W
        rw [← itB_nn (by omega)] at cn
        have CQ := Lib.hid cq; have CN := Lib.hid cn; have E1 := Lib.hid e1; have E2 := Lib.hid e2; have HBW := Lib.hid hbw; have HS1 := Lib.hid hS1
        clear cq cn e1 e2 ho ha hu0 hli hok h5 hv hC1 hC2 hin hbw hS1 a1 a2 a3 a4
        generalize cnt (tpR u) L L.length = N at *
        generalize tpR u = T at *
        go_wp2_with (first
          | (go_at_call 58; refine CQ.out.mono ?_; rintro e w2 ⟨rfl, hb5⟩)
          | (go_at_call 17; refine (CN.out _).mono ?_; rintro e w3 ⟨rfl, rfl⟩))
        go_ret
        rw [E1.out, E2.out]
        exact ⟨rfl, g, HS1.out.keep hb5, Chs.of_below _ (bcl HBW.out hb5), Nwb.refl _ _⟩
set_option maxHeartbeats 800000 in
set_option maxRecDepth 100000 in
theorem sl_print (s u V : ByteArray) (L' : List (List Va)) (hc : CutA s cPrint [u]) (hu : u.size ≤ 4000) (w : World) (hS : RSp w base p g L)
    (hbad : allB [u] = false → V = cBad ∧ L' = L) (hgood : allB [u] = true → V = itB (dgt (tpR u)) ∧ L' = L) :
    Calls Tryz.prog 16 #[.pointer (some ⟨p, 0, none⟩), .string s] w fun e w' => e = .returned (.string V) ∧ ∃ g', RSp w' base p g' L' ∧ Chs (RM p g) w w' ∧ Nwb g g' w.heap.size := by
    obtain ⟨r, hr⟩ : ∃ r, r = [u] := ⟨_, rfl⟩
    have hu' : ∀ x ∈ r, x.size ≤ 4000 := by
      rw [hr]; intro x hx
      rw [List.mem_singleton.1 hx]
      exact hu
    have hrl : r.length = 1 := by rw [hr]; rfl
    rw [← hr] at hbad hgood hc
    have HC := Lib.hid hc; have HU := Lib.hid hu'; have HS0 := Lib.hid hS; have HBAD := Lib.hid hbad; have HGOOD := Lib.hid hgood; have HRR := Lib.hid hr
    have hne : (((r.length : Int) + 1) - 1 != 1) = false := by rw [bne_eq_false_iff_eq]; omega
    have hne2 : ((r.length : Int) != 1) = false := by rw [bne_eq_false_iff_eq]; omega
    clear hc hu' hS hbad hgood hr hu
    simp only [cPrint] at HC
    go_enter Tryz.func16, Tryz.ntmps16
    go_wp2_with (go_at_call 15; refine (HC.out _).mono ?_; rintro e w1 ⟨⟨b, c, rfl, hS, hbb⟩, hb⟩; have c0 := str0 hS; have HBB := Lib.hid hbb; clear hbb; have HST := Lib.hid hS; have HB1 := Lib.hid hb; clear hS hb)
    go_loopw [16, 17, 18, 19] (fun so si _ _ wr => ∃ (k : Nat) (A : Option Addr) (c : Nat), k ≤ r.length ∧ so = .slice A k c ∧ si = .int .i64 ((k + 1 : Nat) : Int) ∧ Hid (OM2 Vals 31 30 wr w1.heap.size base A c ((r.take k).map tpR)) ∧ Hid (Below w1.heap.size w1 wr) ∧ Hid (allB (r.take k) = true)) (fun _ si _ _ _ => r.length + 1 - (intOf si).toNat)
    case atStart => exact ⟨0, none, 0, Nat.zero_le _, rfl, rfl, OM2.nil, Below.refl _ _, rfl⟩
    case round =>
      obtain ⟨k, A', c', hk, rfl, rfl, HO, HB, HALL⟩ := hrel
      have htk : ((r.take k).map tpR).length = k := by rw [List.length_map, List.length_take]; omega
      have hbw := HB1.out.size
      have hbs : base ≤ w1.heap.size := Nat.le_trans HS0.out.hb hbw
      by_cases hlt : k < r.length
      · have i0 : (0 : Int) ≤ ((k + 1 : Nat) : Int) := by omega
        have i1 : ((k + 1 : Nat) : Int) < (r.length : Int) + 1 := by omega
        obtain ⟨x, hx⟩ : ∃ x, r[k]? = some x := ⟨_, List.getElem?_eq_getElem hlt⟩
        have hgx : gs ((⟨#[112, 114, 105, 110, 116]⟩ : ByteArray) :: r) (k + 1) = x := by simp [gs, List.getD_eq_getElem?_getD, hx]
        have ch0 := str_cell (HST.out.below HB.out (Nat.le_refl _)) (i := k + 1) (by simp; omega)
        rw [hgx] at ch0
        have hz := HB.out.size
        have cp := fun (W : World) => rreadt_any x (by have := HU.out x (List.mem_of_getElem? hx); omega) W
        by_cases hE : tpE x = 0
        · have hall := (all_next HALL.out hx).trans (decide_eq_true hE)
          have hmap : (r.take (k + 1)).map tpR = (r.take k).map tpR ++ [tpR x] := by rw [List.take_add_one, hx]; simp
          rw [hE] at cp
          have CP := Lib.hid cp; have HALL2 := Lib.hid hall; have HMAP := Lib.hid hmap; have HTK := Lib.hid htk
          have HTK2 := Lib.hid (show ((r.take (k + 1)).map tpR).length = k + 1 by rw [List.length_map, List.length_take]; omega)
          clear cp hall hmap hE hgx hx htk
          generalize tpR x = R at *
          go_wp2_with (first
            | (go_at_call 54; refine (CP.out _).mono ?_; rintro e w2 ⟨⟨A2, c2, rfl, ho2⟩, hb2⟩; have HO2 := Lib.hid ho2; clear ho2; have hb3 := bcl HB.out hb2)
            | (at_builtin; refine wpList_append_manysN vals_stay rfl _ _ 42 31 30 rfl Tryz.underlying42 infoVals (by decide) w1.heap.size base hbs A' c' ((r.take k).map tpR) k HTK.out rfl (HO.out.keep hbs (Nat.le_refl _) hz (bal hb2 _)) (some ⟨w2.heap.size, 0, none⟩) 1 [R] 1 rfl rfl (mw_one (cell_new1 _ _ _) (Sl.alloc HO2.out.vals _) HO2.out.cap.1 HO2.out.cap.2 ((Inn.own HO2.out).alloc (Nat.le_trans (Nat.le_trans hbs hz) hb2.size) _)) (by omega) (Nat.le_trans hz (le_al hb2.size _)) ((r.take (k + 1)).map tpR) HMAP.out.symm (k + 1) HTK2.out ?_; intro A3 c3 w3 ho3 hb4))
          go_roundw
          case rel => exact ⟨k + 1, A3, c3, by omega, by go_num, by go_num, ho3, (bal hb3 _).trans hb4, HALL2⟩
          case measure => simp [intOf]; omega
        · have hall := all_not hx hE
          have q : (tpE x != 0) = true := by rw [bne_iff_ne]; exact hE
          have CP := Lib.hid cp; have HV := Lib.hid (HBAD.out hall)
          clear cp hall hE hgx hx htk
          generalize tpE x = E at *
          generalize tpR x = R at *
          go_wp2_with (go_at_call 54; refine (CP.out _).mono ?_; rintro e w2 ⟨⟨A2, c2, rfl, ho2⟩, hb2⟩; have HB3 := Lib.hid (bcl HB1.out (bcl HB.out hb2)); clear ho2 hb2)
          go_ret
          obtain ⟨e1, e2⟩ := HV.out
          rw [e1, e2]
          exact ⟨rfl, g, HS0.out.keep HB3.out, Chs.of_below _ HB3.out, Nwb.refl _ _⟩
      · obtain rfl : k = 1 := by omega
        have ho := HO.out
        have ha := HALL.out
        rw [HRR.out] at ho ha
        have hgb := fun (a : Addr) (ha : A' = some a) => OMany.base (ho.up hbs) ha
        have ho : OMany Vals 31 30 wr base A' c' [tpR u] := ho.many hbs
        have ha : allB [u] = true := ha
        obtain ⟨e1, e2⟩ := HGOOD.out (by rw [HRR.out]; exact ha)
        have hu0 : tpE u = 0 := by simpa [allB] using ha
        obtain ⟨hli, hok⟩ := tpR_ok hu0
        have h5 := (liE_iff.1 hli).2.1
        obtain ⟨b4, B, C, rfl, cc, hv, hC1, hC2, hin⟩ := ho.vat (i := 0) (by simp)
        have cc : wr.cell? ⟨b4, 0, none⟩ = some (.slice B (tpR u).length C) := cc
        have hv : Vals wr B (tpR u) := hv
        have hC1 : (tpR u).length ≤ C := hC1
        have hbw := bcl HB1.out HB.out
        have hS1 := HS0.out.keep hbw
        have c0w := str0 (HST.out.below HB.out (Nat.le_refl _))
        have hgb : w1.heap.size ≤ b4 := hgb ⟨b4, 0, none⟩ rfl
        have cl := fun (W : World) (X : Option Addr) (y : Nat) (hX : Vals W X (tpR u)) => rline_any X y (tpR u) (by omega) (fun i hi => (liE_iff.1 hli).2.2 i hi) W hX
        have ch := fun (W : World) => rhash_any (lin (tpR u)) (by have := (lin_back hli).2.2.1; unfold maxLen; omega) W
        have hrg := hs_range (lin (tpR u)) (lin (tpR u)).size
        have cn := fun (W : World) => rdigits_any (dgt (tpR u)) hrg.1 (by have := hrg.2; unfold dgt; omega) W
        rw [← itB_nn (show 0 ≤ dgt (tpR u) from hrg.1)] at cn
        have CL := Lib.hid cl; have CH := Lib.hid ch; have CN := Lib.hid cn; have E1 := Lib.hid e1; have E2 := Lib.hid e2; have HBW := Lib.hid hbw; have HS1 := Lib.hid hS1; have HV := Lib.hid hv
        change Hid (∀ W : World, Calls Tryz.prog 60 #[.string (lin (tpR u))] W fun e w' => e = .returned (.int .i64 (dgt (tpR u))) ∧ W = w') at CH
        clear cl ch cn hrg e1 e2 ho ha hu0 hli hok h5 hv hC1 hC2 hin hbw hS1
        generalize dgt (tpR u) = N at *
        generalize lin (tpR u) = X at *
        generalize tpR u = T at *
        go_wp2_with (first
          | (go_at_call 57; refine (CL.out _ _ _ HV.out).mono ?_; rintro e w2 ⟨rfl, hb5⟩)
          | (go_at_call 60; refine (CH.out _).mono ?_; rintro e w3 ⟨rfl, rfl⟩)
          | (go_at_call 17; refine (CN.out _).mono ?_; rintro e w3 ⟨rfl, rfl⟩))
        go_ret
        rw [E1.out, E2.out]
        exact ⟨rfl, g, HS1.out.keep hb5, Chs.of_below _ (bcl HBW.out hb5), Nwb.refl _ _⟩
end
end Go.Proofs.YtpgemofkolmabaaGreatDoor
namespace Go.Proofs.YtpgemofkolmabaaGreatDoor
open Go.RowKit Go.Joins Go.ChangeShapes Go.WideShapes Go.Deep
set_option linter.unusedVariables false
section
variable {base p : Nat} {g : Option Nat} {L : List (List Va)}
theorem rcnt_sp (B : Option Addr) (C : Nat) (a : List Va) (hm : a.length ≤ maxLen) (w : World) (hS : RSp w base p g L) (hA : Vals w B a) :
    Calls Tryz.prog 58 #[.pointer (some ⟨p, 0, none⟩), .slice B a.length C] w fun e w' => e = .returned (.int .i64 (cnt a L L.length)) ∧ Below w.heap.size w w' := by
  obtain ⟨E, cp, a1, a2, a3⟩ := hS.there
  exact rcount_any p B C a hm E cp L (by have := hS.len; unfold maxLen; omega) w hA a3.many (a1.cell (i := 0) rfl)
set_option maxHeartbeats 1600000 in
set_option maxRecDepth 100000 in
theorem sl_once (s u v V : ByteArray) (L' : List (List Va)) (hc : CutA s cOnce [u, v]) (hu : u.size ≤ 4000 ∧ v.size ≤ 4000) (w : World) (hS : RSp w base p g L)
    (hbad : allB [u, v] = false → V = cBad ∧ L' = L) (hgood : allB [u, v] = true → V = (if tuE (tpR v) ≠ 0 then nmB (tuE (tpR v)) else if cnt (tpR u) L L.length ≠ 0 then cNo else if putE L (tpR v) = 0 then cYes else nmB (putE L (tpR v))) ∧ L' = (if tuE (tpR v) ≠ 0 then L else if cnt (tpR u) L L.length ≠ 0 then L else putL L (tpR v))) :
    Calls Tryz.prog 16 #[.pointer (some ⟨p, 0, none⟩), .string s] w fun e w' => e = .returned (.string V) ∧ ∃ g', RSp w' base p g' L' ∧ Chs (RM p g) w w' ∧ Nwb g g' w.heap.size := by
    obtain ⟨r, hr⟩ : ∃ r, r = [u, v] := ⟨_, rfl⟩
    have hu' : ∀ x ∈ r, x.size ≤ 4000 := by
      rw [hr]; intro x hx
      rcases List.mem_cons.1 hx with rfl | hx
      exact hu.1
      rw [List.mem_singleton.1 hx]
      exact hu.2
    have hrl : r.length = 2 := by rw [hr]; rfl
    rw [← hr] at hbad hgood hc
    have HC := Lib.hid hc; have HU := Lib.hid hu'; have HS0 := Lib.hid hS; have HBAD := Lib.hid hbad; have HGOOD := Lib.hid hgood; have HRR := Lib.hid hr
    have hne : (((r.length : Int) + 1) - 1 != 2) = false := by rw [bne_eq_false_iff_eq]; omega
    have hne2 : ((r.length : Int) != 2) = false := by rw [bne_eq_false_iff_eq]; omega
    clear hc hu' hS hbad hgood hr hu
    simp only [cOnce] at HC
    go_enter Tryz.func16, Tryz.ntmps16
    go_wp2_with (go_at_call 15; refine (HC.out _).mono ?_; rintro e w1 ⟨⟨b, c, rfl, hS, hbb⟩, hb⟩; have c0 := str0 hS; have HBB := Lib.hid hbb; clear hbb; have HST := Lib.hid hS; have HB1 := Lib.hid hb; clear hS hb)
    go_loopw [16, 17, 18, 19] (fun so si _ _ wr => ∃ (k : Nat) (A : Option Addr) (c : Nat), k ≤ r.length ∧ so = .slice A k c ∧ si = .int .i64 ((k + 1 : Nat) : Int) ∧ Hid (OM2 Vals 31 30 wr w1.heap.size base A c ((r.take k).map tpR)) ∧ Hid (Below w1.heap.size w1 wr) ∧ Hid (allB (r.take k) = true)) (fun _ si _ _ _ => r.length + 1 - (intOf si).toNat)
    case atStart => exact ⟨0, none, 0, Nat.zero_le _, rfl, rfl, OM2.nil, Below.refl _ _, rfl⟩
    case round =>
      obtain ⟨k, A', c', hk, rfl, rfl, HO, HB, HALL⟩ := hrel
      have htk : ((r.take k).map tpR).length = k := by rw [List.length_map, List.length_take]; omega
      have hbw := HB1.out.size
      have hbs : base ≤ w1.heap.size := Nat.le_trans HS0.out.hb hbw
      by_cases hlt : k < r.length
      · have i0 : (0 : Int) ≤ ((k + 1 : Nat) : Int) := by omega
        have i1 : ((k + 1 : Nat) : Int) < (r.length : Int) + 1 := by omega
        obtain ⟨x, hx⟩ : ∃ x, r[k]? = some x := ⟨_, List.getElem?_eq_getElem hlt⟩
        have hgx : gs ((⟨#[111, 110, 99, 101]⟩ : ByteArray) :: r) (k + 1) = x := by simp [gs, List.getD_eq_getElem?_getD, hx]
        have ch0 := str_cell (HST.out.below HB.out (Nat.le_refl _)) (i := k + 1) (by simp; omega)
        rw [hgx] at ch0
        have hz := HB.out.size
        have cp := fun (W : World) => rreadt_any x (by have := HU.out x (List.mem_of_getElem? hx); omega) W
        by_cases hE : tpE x = 0
        · have hall := (all_next HALL.out hx).trans (decide_eq_true hE)
          have hmap : (r.take (k + 1)).map tpR = (r.take k).map tpR ++ [tpR x] := by rw [List.take_add_one, hx]; simp
          rw [hE] at cp
          have CP := Lib.hid cp; have HALL2 := Lib.hid hall; have HMAP := Lib.hid hmap; have HTK := Lib.hid htk
          have HTK2 := Lib.hid (show ((r.take (k + 1)).map tpR).length = k + 1 by rw [List.length_map, List.length_take]; omega)
          clear cp hall hmap hE hgx hx htk
          generalize tpR x = R at *
          go_wp2_with (first
            | (go_at_call 54; refine (CP.out _).mono ?_; rintro e w2 ⟨⟨A2, c2, rfl, ho2⟩, hb2⟩; have HO2 := Lib.hid ho2; clear ho2; have hb3 := bcl HB.out hb2)
            | (at_builtin; refine wpList_append_manysN vals_stay rfl _ _ 42 31 30 rfl Tryz.underlying42 infoVals (by decide) w1.heap.size base hbs A' c' ((r.take k).map tpR) k HTK.out rfl (HO.out.keep hbs (Nat.le_refl _) hz (bal hb2 _)) (some ⟨w2.heap.size, 0, none⟩) 1 [R] 1 rfl rfl (mw_one (cell_new1 _ _ _) (Sl.alloc HO2.out.vals _) HO2.out.cap.1 HO2.out.cap.2 ((Inn.own HO2.out).alloc (Nat.le_trans (Nat.le_trans hbs hz) hb2.size) _)) (by omega) (Nat.le_trans hz (le_al hb2.size _)) ((r.take (k + 1)).map tpR) HMAP.out.symm (k + 1) HTK2.out ?_; intro A3 c3 w3 ho3 hb4))
          go_roundw
          case rel => exact ⟨k + 1, A3, c3, by omega, by go_num, by go_num, ho3, (bal hb3 _).trans hb4, HALL2⟩
          case measure => simp [intOf]; omega
        · have hall := all_not hx hE
          have q : (tpE x != 0) = true := by rw [bne_iff_ne]; exact hE
          have CP := Lib.hid cp; have HV := Lib.hid (HBAD.out hall)
          clear cp hall hE hgx hx htk
          generalize tpE x = E at *
          generalize tpR x = R at *
          go_wp2_with (go_at_call 54; refine (CP.out _).mono ?_; rintro e w2 ⟨⟨A2, c2, rfl, ho2⟩, hb2⟩; have HB3 := Lib.hid (bcl HB1.out (bcl HB.out hb2)); clear ho2 hb2)
          go_ret
          obtain ⟨e1, e2⟩ := HV.out
          rw [e1, e2]
          exact ⟨rfl, g, HS0.out.keep HB3.out, Chs.of_below _ HB3.out, Nwb.refl _ _⟩
      · obtain rfl : k = 2 := by omega
        have ho := HO.out
        have ha := HALL.out
        rw [HRR.out] at ho ha
        have ho : OMany Vals 31 30 wr base A' c' [tpR u, tpR v] := ho.many hbs
        have ha : allB [u, v] = true := ha
        obtain ⟨e1, e2⟩ := HGOOD.out (by rw [HRR.out]; exact ha)
        have hu0 : tpE u = 0 ∧ tpE v = 0 := by simpa [allB] using ha
        obtain ⟨hli, hok⟩ := tpR_ok hu0.1
        obtain ⟨hli2, hok2⟩ := tpR_ok hu0.2
        have h5 := (liE_iff.1 hli).2.1
        have h52 := (liE_iff.1 hli2).2.1
        obtain ⟨b4, B, C, rfl, cc, hv, hC1, hC2, hin⟩ := ho.vat (i := 0) (by simp)
        obtain ⟨b5, B2, C2, e5, cc2, hv2, hD1, hD2, hin2⟩ := ho.vat (i := 1) (by simp)
        cases e5
        have cc : wr.cell? ⟨b4, 0, none⟩ = some (.slice B (tpR u).length C) := cc
        have cc2 : wr.cell? ⟨b4, 1, none⟩ = some (.slice B2 (tpR v).length C2) := cc2
        have hv : Vals wr B (tpR u) := hv
        have hv2 : Vals wr B2 (tpR v) := hv2
        have hD1 : (tpR v).length ≤ C2 := hD1
        have hbw := bcl HB1.out HB.out
        have hS1 := HS0.out.keep hbw
        have hbsr := hS1.hb
        have c0w := str0 (HST.out.below HB.out (Nat.le_refl _))
        have hl4 : b4 < wr.heap.size := lt_of_cell cc
        have hvin : Vin wr base B2 (tpR v) := ⟨hv2, fun _ => hin2⟩
        have ct := rtuple_any B2 C2 (tpR v) (by unfold maxLen; omega) hok2 wr hv2
        have hr8 := tuE_le (tpR v)
        by_cases hT : tuE (tpR v) = 0
        · rw [if_neg (by rw [hT]; simp)] at e1 e2
          rw [hT] at ct
          have cq := fun (W : World) (hW : Below wr.heap.size wr W) => rcnt_sp B C (tpR u) (by unfold maxLen; omega) W (hS1.keep hW) (hv.below hW (Nat.le_refl _))
          by_cases hN : cnt (tpR u) L L.length = 0
          · rw [if_neg (by rw [hN]; simp)] at e1 e2
            rw [hN] at cq
            have cp := fun (W : World) (hW : Below wr.heap.size wr W) => rput_any base p g L B2 C2 (tpR v) hD1 hD2 hok2 W (hS1.keep hW) (hvin.below hW (Nat.le_refl _) hbsr)
            have hp8 := putE_le L (tpR v)
            by_cases hE : putE L (tpR v) = 0
            · rw [if_pos hE] at e1
              rw [hE] at cp
              have CT := Lib.hid ct; have CQ := Lib.hid cq; have CP := Lib.hid cp; have E1 := Lib.hid e1; have E2 := Lib.hid e2; have HBW := Lib.hid hbw
              clear ct cq cp e1 e2 hE hN hT hr8 hp8 ho ha hu0 hli hok hli2 hok2 h5 h52 hv hv2 hC1 hC2 hD1 hD2 hin hin2 hbw hS1 hvin hbsr
              generalize tpR u = T at *
              generalize tpR v = T2 at *
              generalize putL L T2 = L2 at *
              go_wp2_with (first
                | (go_at_call 59; refine CT.out.mono ?_; rintro e w2 ⟨rfl, hb2⟩; have d1 := (hb2.cell (p := ⟨b4, 0, none⟩) hl4).trans cc; have d2 := (hb2.cell (p := ⟨b4, 1, none⟩) hl4).trans cc2)
                | (go_at_call 58; refine (CQ.out _ hb2).mono ?_; rintro e w3 ⟨rfl, hb3⟩; have hb4 := bcl hb2 hb3; have d3 := (hb4.cell (p := ⟨b4, 1, none⟩) hl4).trans cc2)
                | (go_at_call 55; refine (CP.out _ hb4).mono ?_; rintro e w5 ⟨rfl, g', hS2, hch, hnw⟩))
              go_ret
              rw [E1.out, E2.out]
              exact ⟨rfl, g', hS2, (Chs.of_below _ (bcl HBW.out hb4)).trans hch (fun b h => .inl h), fun b h => (hnw b h).imp id (Nat.le_trans (bcl HBW.out hb4).size)⟩
            · rw [if_neg hE] at e1
              have q : (putE L (tpR v) != 0) = true := by rw [bne_iff_ne]; exact hE
              have cn := fun (W : World) => sname_any (putE L (tpR v)) hp8.1 hp8.2 W
              have CT := Lib.hid ct; have CQ := Lib.hid cq; have CP := Lib.hid cp; have CN := Lib.hid cn; have E1 := Lib.hid e1; have E2 := Lib.hid e2; have HBW := Lib.hid hbw
              clear ct cq cp cn e1 e2 hE hN hT hr8 hp8 ho ha hu0 hli hok hli2 hok2 h5 h52 hv hv2 hC1 hC2 hD1 hD2 hin hin2 hbw hS1 hvin hbsr
              generalize tpR u = T at *
              generalize tpR v = T2 at *
              generalize putL L T2 = L2 at *
              generalize putE L T2 = E at *
              go_wp2_with (first
                | (go_at_call 59; refine CT.out.mono ?_; rintro e w2 ⟨rfl, hb2⟩; have d1 := (hb2.cell (p := ⟨b4, 0, none⟩) hl4).trans cc; have d2 := (hb2.cell (p := ⟨b4, 1, none⟩) hl4).trans cc2)
                | (go_at_call 58; refine (CQ.out _ hb2).mono ?_; rintro e w3 ⟨rfl, hb3⟩; have hb4 := bcl hb2 hb3; have d3 := (hb4.cell (p := ⟨b4, 1, none⟩) hl4).trans cc2)
                | (go_at_call 55; refine (CP.out _ hb4).mono ?_; rintro e w5 ⟨rfl, g', hS2, hch, hnw⟩)
                | (go_at_call 52; refine (CN.out _).mono ?_; rintro e w6 ⟨rfl, hb6⟩))
              go_ret
              rw [E1.out, E2.out]
              exact ⟨rfl, g', hS2.keep hb6, ((Chs.of_below _ (bcl HBW.out hb4)).trans hch (fun b h => .inl h)).trans (Chs.of_below (RM p g) hb6) (fun b h => .inl h), fun b h => (hnw b h).imp id (Nat.le_trans (bcl HBW.out hb4).size)⟩
          · rw [if_pos hN] at e1 e2
            have hN2 : (0 : Int) < ((cnt (tpR u) L L.length : Nat) : Int) := by omega
            have CT := Lib.hid ct; have CQ := Lib.hid cq; have E1 := Lib.hid e1; have E2 := Lib.hid e2; have HBW := Lib.hid hbw
            clear ct cq e1 e2 hN hT hr8 ho ha hu0 hli hok hli2 hok2 h5 h52 hv hv2 hC1 hC2 hD1 hD2 hin hin2 hbw hS1 hvin hbsr
            generalize cnt (tpR u) L L.length = N at *
            generalize tpR u = T at *
            generalize tpR v = T2 at *
            go_wp2_with (first
              | (go_at_call 59; refine CT.out.mono ?_; rintro e w2 ⟨rfl, hb2⟩; have d1 := (hb2.cell (p := ⟨b4, 0, none⟩) hl4).trans cc)
              | (go_at_call 58; refine (CQ.out _ hb2).mono ?_; rintro e w3 ⟨rfl, hb3⟩; have hb4 := bcl hb2 hb3))
            go_ret
            rw [E1.out, E2.out]
            exact ⟨rfl, g, HS0.out.keep (bcl HBW.out hb4), Chs.of_below _ (bcl HBW.out hb4), Nwb.refl _ _⟩
        · rw [if_pos hT] at e1 e2
          have q : (tuE (tpR v) != 0) = true := by rw [bne_iff_ne]; exact hT
          have cn := fun (W : World) => sname_any (tuE (tpR v)) hr8.1 hr8.2 W
          have CT := Lib.hid ct; have CN := Lib.hid cn; have E1 := Lib.hid e1; have E2 := Lib.hid e2; have HBW := Lib.hid hbw
          clear ct cn e1 e2 hT hr8 ho ha hu0 hli hok hli2 hok2 h5 h52 hv hv2 hC1 hC2 hD1 hD2 hin hin2 hbw hS1 hvin hbsr
          generalize tuE (tpR v) = E at *
          generalize tpR u = T at *
          generalize tpR v = T2 at *
          go_wp2_with (first
            | (go_at_call 59; refine CT.out.mono ?_; rintro e w2 ⟨rfl, hb2⟩)
            | (go_at_call 52; refine (CN.out _).mono ?_; rintro e w3 ⟨rfl, hb3⟩))
          go_ret
          rw [E1.out, E2.out]
          exact ⟨rfl, g, HS0.out.keep (bcl HBW.out (bcl hb2 hb3)), Chs.of_below _ (bcl HBW.out (bcl hb2 hb3)), Nwb.refl _ _⟩
end
end Go.Proofs.YtpgemofkolmabaaGreatDoor
namespace Go.Proofs.YtpgemofkolmabaaGreatDoor
open Go.RowKit Go.Joins Go.ChangeShapes Go.WideShapes Go.Deep
set_option linter.unusedVariables false
theorem itB_nn' {n : Int} (h : 0 ≤ n) : itB n = ⟨(Lib.decDigits n.toNat).toArray⟩ := by rw [itB, Lib.itoa, if_neg (by omega)]
theorem shE_le (s : Int) (r : List Int) (m : Int) : 0 ≤ shE s r m ∧ shE s r m ≤ 8 := by
  unfold shE
  repeat' split
  all_goals omega
theorem jn_take {sh : List Sh} (h7 : sh.length ≤ 7) (hr : ∀ k, k < sh.length → 0 ≤ gb sh k ∧ gb sh k < 257) (k : Nat) : (jn ((sh.take k).map fun s => itB s.2) ⟨#[32]⟩).size ≤ 1000 := by
  refine jn_shares (by rw [List.length_take]; omega) fun i hi => ?_
  rw [List.length_take] at hi
  have : gb (sh.take k) i = gb sh i := by simp only [gb, List.getD_eq_getElem?_getD, List.getElem?_take]; rw [if_pos (by omega)]
  rw [this]
  exact hr i (by omega)
set_option maxHeartbeats 1600000 in
set_option maxRecDepth 100000 in
theorem sl_deal (s x y z V : ByteArray) (hc : CutA s cDeal [x, y, z]) (hu : x.size ≤ 4000 ∧ y.size ≤ 4000 ∧ z.size ≤ 4000) (m : Value) (w : World)
    (hbad : (∃ u ∈ [x, y, z], numO u = none) → V = cBad) (hgood : ∀ a b d, numO x = some a → numO y = some b → numO z = some d → V = if shE a [b] d = 0 then jn ((dlL a b d).map fun s => itB s.2) ⟨#[32]⟩ else nmB (shE a [b] d)) :
    Calls Tryz.prog 16 #[m, .string s] w fun e w' => e = .returned (.string V) ∧ Below w.heap.size w w' := by
  obtain ⟨r, hr⟩ : ∃ r, r = [x, y, z] := ⟨_, rfl⟩
  have hu' : ∀ u ∈ r, u.size ≤ 4000 := by
    rw [hr]; intro u h
    simp at h
    rcases h with rfl | rfl | rfl
    · exact hu.1
    · exact hu.2.1
    · exact hu.2.2
  have hrl : r.length = 3 := by rw [hr]; rfl
  rw [← hr] at hbad hc
  have HC := Lib.hid hc; have HU := Lib.hid hu'; have HBAD := Lib.hid hbad; have HGOOD := Lib.hid hgood; have HRR := Lib.hid hr
  have hne : (((r.length : Int) + 1) - 1 != 3) = false := by rw [bne_eq_false_iff_eq]; omega
  have hne2 : ((r.length : Int) != 3) = false := by rw [bne_eq_false_iff_eq]; omega
  clear hc hu' hbad hgood hr hu
  simp only [cDeal] at HC
  go_enter Tryz.func16, Tryz.ntmps16
  go_wp2_with (go_at_call 15; refine (HC.out _).mono ?_; rintro e w1 ⟨⟨b, c, rfl, hS, hbb⟩, hb⟩; have c0 := str0 hS; have HST := Lib.hid hS; have HB1 := Lib.hid hb; clear hS hb hbb)
  go_loopw [7, 8, 9, 10] (fun o i _ _ wr => ∃ (k : Nat) (A' : Option Addr) (c' : Nat), k ≤ 3 ∧ i = .int .i64 ((k + 1 : Nat) : Int) ∧ o = .slice A' k c' ∧ Hid (OInts wr w1.heap.size A' c' ((r.take k).map nmv)) ∧ Hid (Below w1.heap.size w1 wr) ∧ Hid (∀ u ∈ r.take k, numO u ≠ none)) (fun _ i _ _ _ => 4 - (intOf i).toNat)
  case atStart => exact ⟨0, none, 0, Nat.zero_le _, rfl, rfl, OInts.nil, Below.refl _ _, fun u hu => by simp at hu⟩
  case round =>
    obtain ⟨k, A', c', hk, rfl, rfl, HO, HB, HALL⟩ := hrel
    have htk : ((r.take k).map nmv).length = k := by rw [List.length_map, List.length_take]; omega
    by_cases hlt : k < 3
    · have i0 : (0 : Int) ≤ ((k + 1 : Nat) : Int) := by omega
      have i1 : ((k + 1 : Nat) : Int) < 4 := by omega
      obtain ⟨u, hu⟩ : ∃ u, r[k]? = some u := ⟨_, List.getElem?_eq_getElem (by omega)⟩
      have hgx : gs ((⟨#[100, 101, 97, 108]⟩ : ByteArray) :: r) (k + 1) = u := by simp [gs, List.getD_eq_getElem?_getD, hu]
      have ch0 := str_cell (HST.out.below HB.out (Nat.le_refl _)) (i := k + 1) (by simp; omega)
      rw [hgx] at ch0
      have cp := fun (W : World) => snum_any u (HU.out u (List.mem_of_getElem? hu)) W
      by_cases hE : numO u = none
      · have hv := HBAD.out ⟨u, List.mem_of_getElem? hu, hE⟩
        rw [nuV_none hE] at cp
        have CP := Lib.hid cp; have HV := Lib.hid hv
        clear cp hv hE hgx hu htk
        go_wp2_with (go_at_call 50; refine (CP.out _).mono ?_; rintro e w2 ⟨rfl, rfl⟩)
        go_ret
        exact ⟨by rw [HV.out]; rfl, bcl HB1.out HB.out⟩
      · obtain ⟨n, hn⟩ := Option.ne_none_iff_exists'.1 hE
        have hmap : (r.take (k + 1)).map nmv = (r.take k).map nmv ++ [n] := by
          rw [List.take_add_one, hu]; simp [nmv, hn]
        have hall : ∀ v ∈ r.take (k + 1), numO v ≠ none := fun v hv => by
          rw [List.take_add_one, hu] at hv
          rcases List.mem_append.1 hv with h | h
          · exact HALL.out v h
          · simp at h; subst h; exact hE
        rw [nuV_some hn] at cp
        have CP := Lib.hid cp; have HALL2 := Lib.hid hall; have HMAP := Lib.hid hmap; have HTK := Lib.hid htk
        have hz := HB.out.size
        have hl6 : ((r.take k).map nmv).length ≤ 1000000 := by omega
        clear cp hall hmap hE hn hgx hu htk
        go_wp2_with (first
          | (go_at_call 50; refine (CP.out _).mono ?_; rintro e w2 ⟨rfl, rfl⟩)
          | (at_builtin; refine wpList_append_int rfl _ _ rfl w1.heap.size A' c' ((r.take k).map nmv) (by rw [HTK.out]; rfl) (HO.out.keep (bal1 _ _)) wr.heap.size n rfl (cell_new1 _ _ _) hl6 (le_al hz _) ?_; intro A3 c3 w3 ho3 hb4; rw [← HMAP.out] at ho3; rw [HTK.out]))
        go_roundw
        case rel => exact ⟨k + 1, A3, c3, by omega, by go_num, rfl, ho3, (bal HB.out _).trans hb4, HALL2⟩
        case measure => simp [intOf]; omega
    · obtain rfl : k = 3 := by omega
      have hal : ∀ u ∈ [x, y, z], numO u ≠ none := fun u hu => HALL.out u (by rw [HRR.out]; exact hu)
      obtain ⟨a, ea⟩ := Option.ne_none_iff_exists'.1 (hal x (by simp))
      obtain ⟨b0, eb⟩ := Option.ne_none_iff_exists'.1 (hal y (by simp))
      obtain ⟨d, ed⟩ := Option.ne_none_iff_exists'.1 (hal z (by simp))
      have hv := HGOOD.out a b0 d ea eb ed
      have ho := HO.out
      have hml : (r.take 3).map nmv = [a, b0, d] := by rw [HRR.out]; simp [nmv, ea, eb, ed]
      rw [hml] at ho
      have hI := ho.ints
      have hcap : 3 ≤ c' := ho.cap.1
      have hcm := ho.cap.2
      have hcap3 : ¬ c' = 1 := by omega
      have hcap2 : (2 : Int) ≤ (c' : Int) := by omega
      obtain ⟨b2, o2, rfl, hl2, q0⟩ := hI.at_ (show 0 < [a, b0, d].length by simp)
      obtain ⟨b3, o3, e3, _, q1⟩ := hI.at_ (show 1 < [a, b0, d].length by simp)
      obtain ⟨b4, o4, e4, _, q2⟩ := hI.at_ (show 2 < [a, b0, d].length by simp)
      cases e3; cases e4
      have q0 : wr.cell? ⟨b2, o2, none⟩ = some (.int .i64 a) := q0
      have q1 : wr.cell? ⟨b2, o2 + 1, none⟩ = some (.int .i64 b0) := q1
      have q2 : wr.cell? ⟨b2, o2 + 2, none⟩ = some (.int .i64 d) := q2
      have hI1 : ∀ W, (∀ X, W.cell? X = wr.cell? X) → b2 < W.heap.size → Ints W (some ⟨b2, o2 + 1, none⟩) [b0] := fun W hW hz _ => ⟨b2, o2 + 1, rfl, hz, fun i hi j hj => by
        obtain rfl : i = 0 := by simpa using hi
        obtain rfl : j = 0 := by omega
        exact (hW _).trans q1⟩
      have hbw := bcl HB1.out HB.out
      have h8 := shE_le a [b0] d
      have ce := fun (W : World) (C : Nat) (hW : ∀ X, W.cell? X = wr.cell? X) (hz : b2 < W.heap.size) => rdealt_any a (some ⟨b2, o2 + 1, none⟩) C [b0] d W (hI1 W hW hz)
      have HL2 := Lib.hid hl2
      by_cases hE : shE a [b0] d = 0
      · rw [if_pos hE] at hv
        rw [hE] at ce
        have hd0 : 0 ≤ d := by obtain ⟨_, _, _, h4, _⟩ := shE_zero hE; have := (manB_true.1 h4).1; omega
        obtain ⟨n, rfl⟩ : ∃ n : Nat, d = n := ⟨d.toNat, by omega⟩
        have hdl : dlL a b0 n = dealL [a, b0] n := by rw [dlL, if_pos hE, show ((n : Int)).toNat = n by omega]
        have hln : (dealL [a, b0] n).length = n := dealL_length _ _
        obtain ⟨hs7, hsr⟩ := dlL_ok a b0 n
        rw [hdl] at hv hs7 hsr
        have cd := fun (W : World) (C : Nat) (hW : ∀ X, W.cell? X = wr.cell? X) (hz : b2 < W.heap.size) => rdeal_any a (some ⟨b2, o2 + 1, none⟩) C [b0] n hE W (hI1 W hW hz)
        obtain ⟨sh, hsh⟩ : ∃ sh, sh = dealL [a, b0] n := ⟨_, rfl⟩
        rw [← hsh] at hv hs7 hsr hln
        have cd : ∀ (W : World) (C : Nat), (∀ X, W.cell? X = wr.cell? X) → b2 < W.heap.size → Calls Tryz.prog 53 #[.int .i64 a, .slice (some ⟨b2, o2 + 1, none⟩) 1 C, .int .i64 n] W fun e w' => ∃ A' c', e = .returned (.slice A' n c') ∧ Shares w' A' sh ∧ Below W.heap.size W w' := fun W C hW hz => (cd W C hW hz).mono fun e w' ⟨A', c', k1, k2, k3⟩ => ⟨A', c', k1, by rw [hsh]; exact k2.shares, k3⟩
        have htl := fun k => jn_take hs7 hsr k
        have CE := Lib.hid ce; have CD := Lib.hid cd; have HV := Lib.hid hv; have HBW := Lib.hid hbw; have HS7 := Lib.hid hs7; have HSR := Lib.hid hsr; have HTL := Lib.hid htl
        clear ce cd hv hE h8 ho hml hI hI1 hal ea eb ed hbw HALL HO HB htk hl2 hs7 hsr htl hsh hdl
        go_wp2_with fail
        go_region_held3 (fun w' => w'.cell? ⟨b2, o2, none⟩ = some (.int .i64 a) ∧ w'.cell? ⟨b2, o2 + 2, none⟩ = some (.int .i64 (n : Int))) (first | exact ⟨q0, q2⟩ | go_keep) ((go_at_call 51; refine (CE.out wr.drew _ (fun _ => rfl) HL2.out).mono ?_; rintro e w5 ⟨rfl, rfl⟩))
        go_wp2_with fail
        go_region_held3 (fun w' => w'.cell? ⟨b2, o2, none⟩ = some (.int .i64 a) ∧ w'.cell? ⟨b2, o2 + 2, none⟩ = some (.int .i64 (n : Int))) (first | exact ⟨q0, q2⟩ | exact ⟨(HB5.out.cell (p := ⟨b2, o2, none⟩) HL2.out).trans q0, (HB5.out.cell (p := ⟨b2, o2 + 2, none⟩) HL2.out).trans q2⟩ | go_keep) ((go_at_call 53; refine (CD.out wr.drew.drew _ (fun _ => rfl) HL2.out).mono ?_; rintro e w5 ⟨A2, c2, rfl, hS, hb5⟩; have HS := Lib.hid hS; have HB5 := Lib.hid hb5; clear hS hb5))
        have hn7 : n ≤ 7 := by have := HS7.out; omega
        have HB6 := Lib.hid (bcl (show Below w.heap.size w wr.drew.drew from bdr (bdr HBW.out)) HB5.out)
        go_wp2_with fail
        go_loopw [13, 14, 15] (fun st si _ w' => ∃ (k : Nat) (T : ByteArray), k ≤ n ∧ si = .int .i64 k ∧ st = .string T ∧ T.size ≤ 1000 ∧ Hid (T = jn ((sh.take k).map fun s => itB s.2) ⟨#[32]⟩) ∧ Hid (Below w5.heap.size w5 w')) (fun _ si _ _ => n - (intOf si).toNat)
        case atStart => exact ⟨0, _, Nat.zero_le _, rfl, rfl, by decide, rfl, Below.refl _ _⟩
        case round =>
          obtain ⟨k, T, hk, rfl, rfl, hT, HT, HB⟩ := hrel
          by_cases hlt : k < n
          · have i0 : (0 : Int) ≤ (k : Int) := by omega
            have i1 : (k : Int) < (n : Int) := by omega
            have hlk : k < sh.length := by omega
            obtain ⟨b6, o6, rfl, hl6, s0, s1⟩ := (HS.out.below HB.out (Nat.le_refl _)).at_ hlk
            have hr := HSR.out k hlk
            have ci := fun (W : World) => rdigits_any (gb sh k) hr.1 (by omega) W
            rw [← itB_nn' hr.1] at ci
            have hsz := itB_size (n := gb sh k) (by omega) (by omega)
            have e1 : (sh.take (k + 1)).map (fun s => itB s.2) = (sh.take k).map (fun s => itB s.2) ++ [itB (gb sh k)] := by
              have e : gb sh k = sh[k].2 := by simp [gb, List.getD_eq_getElem?_getD, List.getElem?_eq_getElem hlk]
              rw [List.take_add_one, List.getElem?_eq_getElem hlk, List.map_append, e]; rfl
            have htk := HTL.out (k + 1)
            rw [e1] at htk
            have HE1 := Lib.hid e1; have CI := Lib.hid ci
            clear ci e1
            by_cases hk0 : k = 0
            · subst hk0
              have hT0 : T = ⟨#[]⟩ := by rw [HT.out]; rfl
              subst hT0
              have hj : jn ((sh.take 0).map (fun s => itB s.2) ++ [itB (gb sh 0)]) ⟨#[32]⟩ = itB (gb sh 0) := jn_one _ _
              have HJ := Lib.hid hj
              clear htk hj
              generalize itB (gb sh 0) = X at *
              go_wp2_with (go_at_call 17; refine (CI.out _).mono ?_; rintro e w' ⟨rfl, rfl⟩)
              go_roundw
              case rel => exact ⟨1, _, by omega, by go_num, rfl, by (first | (rw [nil_app]; omega) | omega), Lib.hid (by rw [HE1.out, HJ.out]; first | rfl | exact nil_app _), HB⟩
              case measure => simp [intOf]; omega
            · have hj : jn ((sh.take k).map (fun s => itB s.2) ++ [itB (gb sh k)]) ⟨#[32]⟩ = (T ++ ⟨#[32]⟩) ++ itB (gb sh k) := by
                rw [jn_snoc _ _ _ (by
                  intro e
                  have h9 := congrArg List.length e
                  rw [List.length_map, List.length_take, List.length_nil] at h9
                  omega), ← HT.out]
              rw [hj] at htk
              have HJ := Lib.hid hj
              have k1 : (0 : Int) < (k : Int) := by omega
              clear hj
              generalize itB (gb sh k) = X at *
              go_wp2_with (go_at_call 17; refine (CI.out _).mono ?_; rintro e w' ⟨rfl, rfl⟩)
              go_roundw
              case rel => exact ⟨k + 1, _, by omega, by go_num, rfl, htk, Lib.hid (by rw [HE1.out, HJ.out]), HB⟩
              case measure => simp [intOf]; omega
          · obtain rfl : k = n := by omega
            have ht := HT.out
            rw [List.take_of_length_le (by omega)] at ht
            have hvt : V = T := by rw [HV.out, ht]
            subst hvt
            go_wp2_with fail
            go_ret
            exact ⟨rfl, bcl HB6.out HB.out⟩
      · rw [if_neg hE] at hv
        have q : (shE a [b0] d != 0) = true := by rw [bne_iff_ne]; exact hE
        have cn := fun (W : World) => sname_any (shE a [b0] d) h8.1 h8.2 W
        have CE := Lib.hid ce; have CN := Lib.hid cn; have HV := Lib.hid hv; have HBW := Lib.hid hbw
        clear ce cn hv hE h8 ho hml hI hI1 hal ea eb ed hbw HALL HO HB htk hl2
        generalize shE a [b0] d = E at *
        go_wp2_with fail
        go_region_held3 (fun w' => w'.cell? ⟨b2, o2, none⟩ = some (.int .i64 a) ∧ w'.cell? ⟨b2, o2 + 2, none⟩ = some (.int .i64 d)) (first | exact ⟨q0, q2⟩ | go_keep) ((go_at_call 51; refine (CE.out wr.drew _ (fun _ => rfl) HL2.out).mono ?_; rintro e w5 ⟨rfl, rfl⟩))
        go_wp2_with (go_at_call 52; refine (CN.out _).mono ?_; rintro e w6 ⟨rfl, hb6⟩)
        go_ret
        exact ⟨by rw [HV.out]; rfl, bcl (bdr HBW.out) hb6⟩
end Go.Proofs.YtpgemofkolmabaaGreatDoor
namespace Go.Proofs.YtpgemofkolmabaaGreatDoor
open Go.RowKit Go.Joins Go.ChangeShapes Go.WideShapes Go.Deep
set_option linter.unusedVariables false
section
variable {base p : Nat} {g : Option Nat} {L : List (List Va)}
def saV (L : List (List Va)) (x : ByteArray) (r : List ByteArray) : ByteArray := saidB (lnT L x r) (lnK L x r)
theorem ln_bad {x : ByteArray} {r : List ByteArray} (hw : wantN x = some r.length) (hd : x ≠ cDeal) (h : allB r = false) : saV L x r = cBad ∧ lnL L x r = L := by
  have h1 : ¬ wantN x ≠ some r.length := fun e => e hw
  rw [saV, lnT, lnK, lnL, if_neg h1, if_neg h1, if_neg h1, if_neg hd, if_neg hd, if_neg hd, if_pos h, if_pos h, if_pos h]
  exact ⟨rfl, rfl⟩
theorem ln_good {x : ByteArray} {r : List ByteArray} (hw : wantN x = some r.length) (hd : x ≠ cDeal) (h : allB r = true) :
    saV L x r = (if dE L x (tpR (gs r 0)) (tpR (gs r 1)) = 0 then dT L x (tpR (gs r 0)) (tpR (gs r 1)) else nmB (dE L x (tpR (gs r 0)) (tpR (gs r 1)))) ∧ lnL L x r = dL L x (tpR (gs r 0)) (tpR (gs r 1)) := by
  have h1 : ¬ wantN x ≠ some r.length := fun e => e hw
  have h2 : ¬ allB r = false := by rw [h]; decide
  rw [saV, lnT, lnK, lnL, if_neg h1, if_neg h1, if_neg h1, if_neg hd, if_neg hd, if_neg hd, if_neg h2, if_neg h2, if_neg h2]
  exact ⟨rfl, rfl⟩
theorem ln_deal_bad {x y z : ByteArray} (h : ∃ u ∈ [x, y, z], numO u = none) : saV L cDeal [x, y, z] = cBad := by
  have h1 : ¬ wantN cDeal ≠ some ([x, y, z] : List ByteArray).length := fun e => e (show wantN cDeal = some 3 by decide)
  rw [saV, lnT, lnK, if_neg h1, if_neg h1, if_pos rfl, if_pos rfl]
  have hk : dlK x y z = none := by
    obtain ⟨u, hu, hn⟩ := h
    simp at hu
    unfold dlK
    rcases hu with rfl | rfl | rfl
    · rw [hn]
    · rw [hn]; cases numO x <;> rfl
    · rw [hn]
      cases numO x with
      | none => rfl
      | some a => cases numO y <;> rfl
  show saidB (dlT x y z) (dlK x y z) = cBad
  rw [hk]
  rfl
theorem ln_deal_good {x y z : ByteArray} {a b d : Int} (h1 : numO x = some a) (h2 : numO y = some b) (h3 : numO z = some d) : saV L cDeal [x, y, z] = if shE a [b] d = 0 then jn ((dlL a b d).map fun s => itB s.2) ⟨#[32]⟩ else nmB (shE a [b] d) := by
  have h0 : ¬ wantN cDeal ≠ some ([x, y, z] : List ByteArray).length := fun e => e (show wantN cDeal = some 3 by decide)
  rw [saV, lnT, lnK, if_neg h0, if_neg h0, if_pos rfl, if_pos rfl]
  show saidB (dlT x y z) (dlK x y z) = _
  have e1 : dlT x y z = jn ((dlL a b d).map fun s => itB s.2) ⟨#[32]⟩ := by unfold dlT; rw [h1, h2, h3]
  have e2 : dlK x y z = some (shE a [b] d) := by unfold dlK; rw [h1, h2, h3]
  rw [e1, e2]
  rfl
theorem po_said {t u : List Va} (hl : liE t = 0) :
    (if poE t u L = 0 then (if poB t u L = true then cYes else cNo) else nmB (poE t u L)) = (if tuE u ≠ 0 then nmB (tuE u) else if cnt t L L.length ≠ 0 then cNo else if putE L u = 0 then cYes else nmB (putE L u)) ∧
    poL t u L = (if tuE u ≠ 0 then L else if cnt t L L.length ≠ 0 then L else putL L u) := by
  have ho : ocE t u = tuE u := by rw [ocE, if_neg (by simp [hl])]
  by_cases h1 : tuE u = 0
  · by_cases h2 : cnt t L L.length = 0
    · by_cases h3 : L.length = 20
      · have e : poE t u L = 4 := by rw [poE, ho, if_neg (by simp [h1]), if_neg (by simp [h2]), if_pos h3]
        have eb : poB t u L = false := by rw [poB]; exact decide_eq_false (fun h => h.2.2 h3)
        have ep : putE L u = 4 := by rw [putE, if_neg (by simp [h1]), if_pos h3]
        simp [e, eb, poL, h1, h2, ep, putL]
      · have e : poE t u L = 0 := by rw [poE, ho, if_neg (by simp [h1]), if_neg (by simp [h2]), if_neg h3]
        have eb : poB t u L = true := by rw [poB]; exact decide_eq_true ⟨ho.trans h1, h2, h3⟩
        have ep : putE L u = 0 := by rw [putE, if_neg (by simp [h1]), if_neg h3]
        simp [e, eb, poL, h1, h2, ep, putL]
    · have e : poE t u L = 0 := by rw [poE, ho, if_neg (by simp [h1]), if_pos h2]
      have eb : poB t u L = false := by rw [poB]; exact decide_eq_false (fun h => h2 h.2.1)
      simp [e, eb, poL, h1, h2]
  · have e : poE t u L = tuE u := by rw [poE, ho, if_pos h1]
    have eb : poB t u L = false := by rw [poB]; exact decide_eq_false (fun h => h1 (ho.symm.trans h.1))
    simp [e, eb, poL, h1]
theorem liE_tp {u : ByteArray} {r : List ByteArray} (h : allB (u :: r) = true) : liE (tpR u) = 0 := by
  have : tpE u = 0 := by
    have := List.all_eq_true.1 h u (by simp)
    exact of_decide_eq_true this
  exact (tpR_ok this).1
theorem sline_any (s : ByteArray) (hs : s.size ≤ 4000) (w : World) (hS : RSp w base p g L) :
    Calls Tryz.prog 16 #[.pointer (some ⟨p, 0, none⟩), .string s] w fun e w' => e = .returned (.string (lineF L s).1) ∧ ∃ g', RSp w' base p g' (lineF L s).2 ∧ Chs (RM p g) w w' ∧ Nwb g g' w.heap.size := by
  obtain ⟨x, r, hxr⟩ : ∃ x r, pcsB 32 s = x :: r := by
    cases h : pcsB 32 s with
    | nil => exact absurd h (pcsB_ne _ _)
    | cons x r => exact ⟨x, r, rfl⟩
  have e1 : (lineF L s).1 = saV L x r := by unfold lineF wd wr; rw [hxr]; rfl
  have e2 : (lineF L s).2 = lnL L x r := by unfold lineF wd wr; rw [hxr]; rfl
  rw [e1, e2]
  have hsz : ∀ u ∈ x :: r, u.size ≤ 4000 := fun u hu => by
    rw [← hxr] at hu
    obtain ⟨k, hk, e⟩ := List.mem_iff_getElem.1 hu
    have := pcsB_size (c := 32) (k := k) (s := s) (x := u) (by rw [← e]; exact List.getElem?_eq_getElem hk)
    omega
  have hrl : r.length ≤ 5000 := by
    have := pcsB_ln s 32
    rw [hxr, List.length_cons] at this; omega
  have hc := cut_words hs hxr
  by_cases hw : wantN x = some r.length
  · by_cases hd : x = cDeal
    · subst hd
      have hr3 : r.length = 3 := by
        have : wantN cDeal = some 3 := by decide
        rw [this] at hw; injection hw with h; exact h.symm
      obtain ⟨a, b, c, rfl⟩ : ∃ a b c, r = [a, b, c] := by
        match r, hr3 with
        | [a, b, c], _ => exact ⟨a, b, c, rfl⟩
      have hL : lnL L cDeal [a, b, c] = L := by rw [lnL, if_neg (fun e => e hw), if_pos rfl]
      rw [hL]
      exact (sl_deal s a b c _ hc ⟨hsz a (by simp), hsz b (by simp), hsz c (by simp)⟩ _ w ln_deal_bad (fun _ _ _ h1 h2 h3 => ln_deal_good h1 h2 h3)).mono fun e w' ⟨h1, h2⟩ => ⟨h1, g, hS.keep h2, Chs.of_below _ h2, Nwb.refl _ _⟩
    · rcases wantN_cases hw hd with ⟨hn, hx⟩ | ⟨hn, hx⟩
      · obtain ⟨u, rfl⟩ : ∃ u, r = [u] := by
          match r, hn with
          | [u], _ => exact ⟨u, rfl⟩
        have hu := hsz u (by simp)
        have hb := ln_bad (L := L) hw hd
        have hg := ln_good (L := L) hw hd
        rcases hx with rfl | rfl | rfl | rfl | rfl
        · refine sl_put s u _ _ hc hu w hS hb fun h => ?_
          obtain ⟨h1, h2⟩ := hg h
          have q1 : dE L cPut (tpR u) (tpR (gs [u] 1)) = putE L (tpR u) := by rw [dE, if_pos rfl]
          have q2 : dT L cPut (tpR u) (tpR (gs [u] 1)) = txOk := by rw [dT, if_pos rfl]
          have q3 : dL L cPut (tpR u) (tpR (gs [u] 1)) = putL L (tpR u) := by rw [dL, if_pos rfl]
          rw [h1, h2, show gs [u] 0 = u from rfl, q1, q2, q3]
          exact ⟨rfl, rfl⟩
        · refine sl_read s u _ _ hc hu w hS hb fun h => ?_
          obtain ⟨h1, h2⟩ := hg h
          have n1 : ¬ cRead = cPut := by decide
          have n2 : ¬ cRead = cTake := by decide
          have n3 : ¬ cRead = cOnce := by decide
          have q1 : dE L cRead (tpR u) (tpR (gs [u] 1)) = finE (tpR u) L := by rw [dE, if_neg n1, if_pos (.inl rfl)]
          have q2 : dT L cRead (tpR u) (tpR (gs [u] 1)) = lin (rT (tpR u) L) := by rw [dT, if_neg n1, if_pos (.inl rfl)]
          have q3 : dL L cRead (tpR u) (tpR (gs [u] 1)) = L := by rw [dL, if_neg n1, if_neg n2, if_neg n3]
          rw [h1, h2, show gs [u] 0 = u from rfl, q1, q2, q3]
          exact ⟨rfl, rfl⟩
        · refine sl_take s u _ _ hc hu w hS hb fun h => ?_
          obtain ⟨h1, h2⟩ := hg h
          have n1 : ¬ cTake = cPut := by decide
          have q1 : dE L cTake (tpR u) (tpR (gs [u] 1)) = finE (tpR u) L := by rw [dE, if_neg n1, if_pos (.inr rfl)]
          have q2 : dT L cTake (tpR u) (tpR (gs [u] 1)) = lin (rT (tpR u) L) := by rw [dT, if_neg n1, if_pos (.inr rfl)]
          have q3 : dL L cTake (tpR u) (tpR (gs [u] 1)) = rL (tpR u) L := by rw [dL, if_neg n1, if_pos rfl]
          rw [h1, h2, show gs [u] 0 = u from rfl, q1, q2, q3]
          exact ⟨rfl, rfl⟩
        · refine sl_cnt s u _ _ hc hu w hS hb fun h => ?_
          obtain ⟨h1, h2⟩ := hg h
          have n1 : ¬ cCount = cPut := by decide
          have n2 : ¬ (cCount = cRead ∨ cCount = cTake) := by decide
          have n3 : ¬ cCount = cOnce := by decide
          have n4 : ¬ cCount = cTake := by decide
          have q1 : dE L cCount (tpR u) (tpR (gs [u] 1)) = 0 := by rw [dE, if_neg n1, if_neg n2, if_neg n3]
          have q2 : dT L cCount (tpR u) (tpR (gs [u] 1)) = itB (cnt (tpR u) L L.length) := by rw [dT, if_neg n1, if_neg n2, if_pos rfl]
          have q3 : dL L cCount (tpR u) (tpR (gs [u] 1)) = L := by rw [dL, if_neg n1, if_neg n4, if_neg n3]
          rw [h1, h2, show gs [u] 0 = u from rfl, q1, q2, q3]
          exact ⟨rfl, rfl⟩
        · refine sl_print s u _ _ hc hu w hS hb fun h => ?_
          obtain ⟨h1, h2⟩ := hg h
          have n1 : ¬ cPrint = cPut := by decide
          have n2 : ¬ (cPrint = cRead ∨ cPrint = cTake) := by decide
          have n3 : ¬ cPrint = cOnce := by decide
          have n4 : ¬ cPrint = cTake := by decide
          have n5 : ¬ cPrint = cCount := by decide
          have q1 : dE L cPrint (tpR u) (tpR (gs [u] 1)) = 0 := by rw [dE, if_neg n1, if_neg n2, if_neg n3]
          have q2 : dT L cPrint (tpR u) (tpR (gs [u] 1)) = itB (dgt (tpR u)) := by rw [dT, if_neg n1, if_neg n2, if_neg n5, if_neg n3]
          have q3 : dL L cPrint (tpR u) (tpR (gs [u] 1)) = L := by rw [dL, if_neg n1, if_neg n4, if_neg n3]
          rw [h1, h2, show gs [u] 0 = u from rfl, q1, q2, q3]
          exact ⟨rfl, rfl⟩
      · obtain ⟨u, v, rfl⟩ : ∃ u v, r = [u, v] := by
          match r, hn with
          | [u, v], _ => exact ⟨u, v, rfl⟩
        subst hx
        refine sl_once s u v _ _ hc ⟨hsz u (by simp), hsz v (by simp)⟩ w hS (ln_bad hw hd) fun h => ?_
        obtain ⟨h1, h2⟩ := ln_good (L := L) hw hd h
        have n1 : ¬ cOnce = cPut := by decide
        have n2 : ¬ (cOnce = cRead ∨ cOnce = cTake) := by decide
        have n4 : ¬ cOnce = cTake := by decide
        have n5 : ¬ cOnce = cCount := by decide
        have q1 : dE L cOnce (tpR u) (tpR v) = poE (tpR u) (tpR v) L := by rw [dE, if_neg n1, if_neg n2, if_pos rfl]
        have q2 : dT L cOnce (tpR u) (tpR v) = if poB (tpR u) (tpR v) L = true then cYes else cNo := by rw [dT, if_neg n1, if_neg n2, if_neg n5, if_pos rfl]
        have q3 : dL L cOnce (tpR u) (tpR v) = poL (tpR u) (tpR v) L := by rw [dL, if_neg n1, if_neg n4, if_pos rfl]
        rw [h1, h2, show gs [u, v] 0 = u from rfl, show gs [u, v] 1 = v from rfl, q1, q2, q3]
        exact po_said (liE_tp h)
  · have h1 : saV L x r = cBad ∧ lnL L x r = L := by
      rw [saV, lnT, lnK, lnL, if_pos hw, if_pos hw, if_pos hw]
      exact ⟨rfl, rfl⟩
    rw [h1.1, h1.2]
    exact (sl_count s x r hc hrl hw _ w).mono fun e w' ⟨h1, h2⟩ => ⟨h1, g, hS.keep h2, Chs.of_below _ h2, Nwb.refl _ _⟩
end
end Go.Proofs.YtpgemofkolmabaaGreatDoor
namespace Go.Proofs.YtpgemofkolmabaaGreatDoor
set_option linter.unusedVariables false
def tr (q : List UInt8) : List UInt8 := Lib.trimSuffix q [10]
theorem tr_nl (q : List UInt8) : tr (q ++ [10]) = q := by simp [tr, Lib.trimSuffix, Lib.hasSuffix]
theorem tr_other {q : List UInt8} {c : UInt8} (h : c ≠ 10) : tr (q ++ [c]) = q ++ [c] := by simp [tr, Lib.trimSuffix, Lib.hasSuffix, Ne.symm h]
theorem tr_nil : tr [] = [] := rfl
theorem snoc_cases (q : List UInt8) : q = [] ∨ ∃ r c, q = r ++ [c] := by
  rcases List.eq_nil_or_concat q with h | ⟨r, c, h⟩
  · exact .inl h
  · exact .inr ⟨r, c, by rw [h, List.concat_eq_append]⟩
theorem tr_cons {x : UInt8} (hx : x ≠ 10) (q : List UInt8) : tr (x :: q) = x :: tr q := by
  rcases snoc_cases q with rfl | ⟨r, c, rfl⟩
  · exact tr_other (q := []) hx
  · by_cases hc : c = 10
    · subst hc
      rw [← List.cons_append, tr_nl, tr_nl]
    · rw [← List.cons_append, tr_other hc, tr_other hc]
      rfl
theorem pcs_lns : ∀ l : List UInt8, ∃ Q z, pcs 10 l = Q ++ [z] ∧ ((z = [] ∧ (lns l).map tr = Q) ∨ (z ≠ [] ∧ (lns l).map tr = Q ++ [z]))
  | [] => ⟨[], [], rfl, .inl ⟨rfl, rfl⟩⟩
  | x :: r => by
    obtain ⟨Q, z, h1, h2⟩ := pcs_lns r
    by_cases hx : x = 10
    · refine ⟨[] :: Q, z, ?_, ?_⟩
      · rw [pcs, if_pos hx, h1]; rfl
      · rw [lns, if_pos hx, List.map_cons, show tr [10] = [] from rfl]
        rcases h2 with ⟨h2, h3⟩ | ⟨h2, h3⟩
        · exact .inl ⟨h2, by rw [h3]⟩
        · exact .inr ⟨h2, by rw [h3]; rfl⟩
    · cases Q with
      | nil =>
        refine ⟨[], x :: z, ?_, .inr ⟨by simp, ?_⟩⟩
        · rw [pcs, if_neg hx, h1]; rfl
        · rw [lns, if_neg hx]
          rcases h2 with ⟨h2, h3⟩ | ⟨h2, h3⟩
          · have : lns r = [] := List.map_eq_nil_iff.1 h3
            rw [this, h2]
            show [tr [x]] = [[x]]
            rw [tr_cons hx, tr_nil]
          · obtain ⟨q, t, e⟩ : ∃ q t, lns r = q :: t := by
              cases h : lns r with
              | nil => rw [h] at h3; simp at h3
              | cons q t => exact ⟨q, t, rfl⟩
            rw [e] at h3 ⊢
            simp only [List.map_cons, List.nil_append, List.cons.injEq] at h3
            show tr (x :: q) :: t.map tr = [x :: z]
            rw [tr_cons hx, h3.1, h3.2]
      | cons p Q =>
        refine ⟨(x :: p) :: Q, z, ?_, ?_⟩
        · rw [pcs, if_neg hx, h1]; rfl
        · obtain ⟨q, t, e, e1, e2⟩ : ∃ q t, lns r = q :: t ∧ tr q = p ∧ ((z = [] ∧ t.map tr = Q) ∨ (z ≠ [] ∧ t.map tr = Q ++ [z])) := by
            cases h : lns r with
            | nil => rw [h] at h2; simp at h2
            | cons q t =>
              rw [h] at h2
              simp only [List.map_cons, List.cons_append, List.cons.injEq] at h2
              rcases h2 with ⟨h2, h3, h4⟩ | ⟨h2, h3, h4⟩
              · exact ⟨q, t, rfl, h3, .inl ⟨h2, h4⟩⟩
              · exact ⟨q, t, rfl, h3, .inr ⟨h2, h4⟩⟩
          rw [lns, if_neg hx, e]
          show (z = [] ∧ tr (x :: q) :: t.map tr = (x :: p) :: Q) ∨ (z ≠ [] ∧ tr (x :: q) :: t.map tr = (x :: p) :: Q ++ [z])
          rw [tr_cons hx, e1]
          rcases e2 with ⟨h2, h4⟩ | ⟨h2, h4⟩
          · exact .inl ⟨h2, by rw [h4]⟩
          · exact .inr ⟨h2, by rw [h4]; rfl⟩
theorem cut_lines (t : ByteArray) : ∃ Q z, pcsB 10 t = Q ++ [z] ∧ ((z = ⟨#[]⟩ ∧ (lnB t).map noEnd = Q) ∨ (0 < z.size ∧ (lnB t).map noEnd = Q ++ [z])) := by
  obtain ⟨Q, z, h1, h2⟩ := pcs_lns t.data.toList
  have e : (lnB t).map noEnd = ((lns t.data.toList).map tr).map fun l => (⟨l.toArray⟩ : ByteArray) := by
    rw [lnB, List.map_map, List.map_map]
    rfl
  refine ⟨Q.map fun l => ⟨l.toArray⟩, ⟨z.toArray⟩, by rw [pcsB, h1, List.map_append]; rfl, ?_⟩
  rcases h2 with ⟨h2, h3⟩ | ⟨h2, h3⟩
  · exact .inl ⟨by rw [h2], by rw [e, h3]⟩
  · refine .inr ⟨?_, by rw [e, h3, List.map_append]; rfl⟩
    have := List.length_pos_iff.2 h2
    show 0 < (z.toArray).size
    rw [List.size_toArray]
    exact this
end Go.Proofs.YtpgemofkolmabaaGreatDoor
namespace Go.Proofs.YtpgemofkolmabaaGreatDoor.runAnswers
open Go.ChangeShapes Go.WideShapes Go.ChangeAt Go.RowKit Go.Joins Go.Deep
set_option linter.unusedVariables false

theorem dT_rsize {w : World} {base p : Nat} {g : Option Nat} {L : List (List Va)} (hS : RSp w base p g L) (x : ByteArray) (t u : List Va) : (dT L x t u).size ≤ 1000 := by
  unfold dT
  split
  · decide
  · split
    · by_cases h : finE t L = 0
      · obtain ⟨h5, hr⟩ := rT_ok hS h
        have := lin_size hr (rT t L).length
        rw [List.take_length] at this
        omega
      · rw [rT, if_neg h]; decide
    · split
      · have h1 := cnt_le t L L.length
        have h2 := hS.len
        exact Nat.le_trans (itB_size (by omega) (by omega)) (by decide)
      · split
        · split <;> decide
        · have : 0 ≤ dgt t ∧ dgt t ≤ 10006 := hs_range _ _
          exact Nat.le_trans (itB_size (by omega) (by omega)) (by decide)
theorem line_rsize {w : World} {base p : Nat} {g : Option Nat} {L : List (List Va)} (hS : RSp w base p g L) (s : ByteArray) : (lineF L s).1.size ≤ 1000 := by
  show (saidB _ _).size ≤ 1000
  have ht : (lnT L (wd s) (wr s)).size ≤ 1000 := by
    unfold lnT
    split
    · decide
    · split
      · exact dlT_size _ _ _
      · split
        · decide
        · exact dT_rsize hS _ _ _
  unfold saidB
  split
  · decide
  · split
    · exact ht
    · exact nmB_size _
set_option maxHeartbeats 800000 in
set_option maxRecDepth 100000 in
theorem walk (w : World) (hr : ∀ W, Below w.heap.size w W → RT W ∧ HG W) (t : ByteArray) (ht : t.size ≤ maxLen) :
    Calls Tryz.prog 4 #[.string t] w fun e w' => e = .returned (.bool true) ∧ Below w.heap.size w w' := by
  have c0 := run_any t w hr
  unfold maxLen at ht
  by_cases h3 : 3000 < t.size
  · rw [show runF t = cLong from if_pos h3] at c0
    have h3 : (3000 : Int) < (t.size : Int) := by omega
    simp only [cLong] at c0
    have C0 := Lib.hid c0
    clear c0 hr
    go_enter Tryz.func4, Tryz.ntmps4
    go_wp2_with fail
    refine C0.out.mono ?_
    rintro e w1 ⟨rfl, hb1⟩
    go_wp2_with fail
    go_ret
    exact ⟨ret_true (by first | rfl | (simp; done) | (simp; omega)), hb1⟩
  · have hv : runF t = (runL (lnB t)).1 := if_neg h3
    rw [hv] at c0
    have h3' : ¬ (3000 : Int) < (t.size : Int) := by omega
    have cc := fun (W : World) => rcut_any t (by omega) 10 W
    rw [show (((10 : UInt8).toNat : Nat) : Int) = 10 from rfl] at cc
    obtain ⟨ps, hps⟩ : ∃ ps, ps = pcsB 10 t := ⟨_, rfl⟩
    rw [← hps] at cc
    obtain ⟨Q, z, hq, hz⟩ := cut_lines t
    rw [← hps] at hq
    have hlen : (lnB t).length ≤ 3000 := Nat.le_trans (lnB_cnt t) (by omega)
    have hxs : ∀ x ∈ lnB t, (noEnd x).size ≤ 4000 := fun x hx => Nat.le_trans (noEnd_size x) (Nat.le_trans (lnB_len hx) (by omega))
    have hpl : ps.length = Q.length + 1 := by rw [hq]; simp
    have hlast : gs ps Q.length = z := by rw [hq]; simp [gs, List.getD_eq_getElem?_getD]
    have hall : ∀ k, k < (lnB t).length → gs ps k = noEnd (gs (lnB t) k) := fun k hk => by
      have e1 : gs ((lnB t).map noEnd) k = noEnd (gs (lnB t) k) := by simp [gs, List.getD_eq_getElem?_getD, List.getElem?_eq_getElem hk]
      rw [← e1]
      rcases hz with ⟨_, h⟩ | ⟨_, h⟩
      · have : k < Q.length := by rw [← h, List.length_map]; exact hk
        rw [h, hq]
        simp [gs, List.getD_eq_getElem?_getD, List.getElem?_append_left this]
      · rw [h, hq]
    have hcase : (z = ⟨#[]⟩ ∧ (lnB t).length = Q.length) ∨ (0 < z.size ∧ (lnB t).length = Q.length + 1) := by
      rcases hz with ⟨h1, h⟩ | ⟨h1, h⟩
      · exact .inl ⟨h1, by rw [← h, List.length_map]⟩
      · refine .inr ⟨h1, ?_⟩
        have := congrArg List.length h
        simpa using this
    obtain ⟨xs, hx⟩ : ∃ xs, xs = lnB t := ⟨_, rfl⟩
    rw [← hx] at hlen hxs hall hcase c0
    have C0 := Lib.hid c0; have CC := Lib.hid cc; have HX := Lib.hid hxs; have HA := Lib.hid hall; have HL := Lib.hid hlast
    clear c0 cc hxs hall hlast hz hq hps hx hv hr
    rcases hcase with ⟨hz, hxl⟩ | ⟨hz, hxl⟩
    · have hzl := HL.out
      rw [hz] at hzl
      have HZ := Lib.hid hzl
      have q0 : (0 : Int) ≤ (Q.length : Int) := by omega
      clear hzl hz HL
      go_enter Tryz.func4, Tryz.ntmps4
      go_wp2_with fail
      refine C0.out.mono ?_
      rintro e w1 ⟨rfl, hb1⟩
      go_wp2_with fail
      refine (CC.out _).mono ?_
      rintro e w2 ⟨⟨A, c, rfl, hS⟩, hb2⟩
      have hcap := hS.cap.1
      have hcm := hS.cap.2
      have hSt := hS.strs
      obtain ⟨b, o, rfl, hbl, hlc⟩ := hSt.at_ (i := Q.length) (by omega)
      rw [HZ.out] at hlc
      have HST := Lib.hid hSt
      have HB2 := Lib.hid (bcl hb1 hb2)
      clear hS hSt hb1 hb2
      go_wp2_with fail
      go_loopw [6, 7, 8] (fun st si _ wr => ∃ (k : Nat) (T : ByteArray) (g' : Option Nat), k ≤ xs.length ∧ si = .int .i64 k ∧ st = .string T ∧ T.size ≤ k * 1001 ∧ Hid (T = (runL (xs.take k)).1) ∧ Hid (RSp wr w2.heap.size w2.heap.size g' (runL (xs.take k)).2) ∧ Hid (Below w2.heap.size w2 wr)) (fun _ si _ _ => xs.length - (intOf si).toNat)
      case atStart => exact ⟨0, _, none, Nat.zero_le _, rfl, rfl, by decide, Lib.hid rfl, Lib.hid (RSp.new w2 (Nat.le_refl _)), Lib.hid (bal1 _ _)⟩
      case round =>
        obtain ⟨k, T, g', hk, rfl, rfl, hTs, HT, HR, HB⟩ := hrel
        by_cases hlt : k < xs.length
        · have i0 : (0 : Int) ≤ (k : Int) := by omega
          have i1 : (k : Int) < (Q.length : Int) := by omega
          obtain ⟨x, hx⟩ : ∃ x, xs[k]? = some x := ⟨_, List.getElem?_eq_getElem hlt⟩
          have hgx : gs ps k = noEnd x := by rw [HA.out k hlt]; simp [gs, List.getD_eq_getElem?_getD, hx]
          obtain ⟨b', o', e', hbl', ch0⟩ := (HST.out.below HB.out (Nat.le_refl _)).at_ (i := k) (by omega)
          cases e'
          rw [hgx] at ch0
          have cl := sline_any (noEnd x) (HX.out x (List.mem_of_getElem? hx)) wr HR.out
          have hsz := line_rsize HR.out (noEnd x)
          have hn := runL_next hx
          have hn1 : (runL (xs.take (k + 1))).1 = (T ++ (lineF (runL (xs.take k)).2 (noEnd x)).1) ++ ⟨#[10]⟩ := by
            rw [hn, stepF, HT.out]
            exact bytes_eq (by simp)
          have hn2 : (runL (xs.take (k + 1))).2 = (lineF (runL (xs.take k)).2 (noEnd x)).2 := by rw [hn, stepF]
          have HN1 := Lib.hid hn1; have HN2 := Lib.hid hn2; have CL := Lib.hid cl
          clear hn hn1 hn2 cl hgx hx
          generalize (lineF (runL (xs.take k)).2 (noEnd x)).1 = X at *
          generalize (lineF (runL (xs.take k)).2 (noEnd x)).2 = L2 at *
          go_wp2_with (go_at_call 16; refine CL.out.mono ?_; rintro e w4 ⟨rfl, g2, hS2, hch, hnw⟩)
          go_roundw
          case rel =>
            refine ⟨k + 1, _, g2, by omega, by go_num, rfl, ?_, Lib.hid HN1.out.symm, Lib.hid (by rw [HN2.out]; exact hS2), Lib.hid (HB.out.trans (hch.below (fun b hb => (HR.out.own b hb).1) HR.out.hb))⟩
            rw [ByteArray.size_append, ByteArray.size_append]
            show T.size + X.size + 1 ≤ _
            omega
          case measure => simp [intOf]; omega
        · obtain rfl : k = xs.length := by omega
          have hT := HT.out
          rw [List.take_length] at hT
          have HT2 := Lib.hid hT
          clear hT
          go_wp2_with fail
          go_ret
          rw [← HT2.out]
          exact ⟨ret_true (by first | rfl | (simp; done) | (simp; omega)), HB2.out.trans (HB.out.mono HB2.out.size)⟩
    · have q1 := emp_test hz
      have q0 : (0 : Int) ≤ (Q.length : Int) := by omega
      go_enter Tryz.func4, Tryz.ntmps4
      go_wp2_with fail
      refine C0.out.mono ?_
      rintro e w1 ⟨rfl, hb1⟩
      go_wp2_with fail
      refine (CC.out _).mono ?_
      rintro e w2 ⟨⟨A, c, rfl, hS⟩, hb2⟩
      have hcap := hS.cap.1
      have hcm := hS.cap.2
      have hSt := hS.strs
      obtain ⟨b, o, rfl, hbl, hlc⟩ := hSt.at_ (i := Q.length) (by omega)
      rw [HL.out] at hlc
      have HST := Lib.hid hSt
      have HB2 := Lib.hid (bcl hb1 hb2)
      clear hS hSt hb1 hb2
      go_wp2_with fail
      go_loopw [6, 7, 8] (fun st si _ wr => ∃ (k : Nat) (T : ByteArray) (g' : Option Nat), k ≤ xs.length ∧ si = .int .i64 k ∧ st = .string T ∧ T.size ≤ k * 1001 ∧ Hid (T = (runL (xs.take k)).1) ∧ Hid (RSp wr w2.heap.size w2.heap.size g' (runL (xs.take k)).2) ∧ Hid (Below w2.heap.size w2 wr)) (fun _ si _ _ => xs.length - (intOf si).toNat)
      case atStart => exact ⟨0, _, none, Nat.zero_le _, rfl, rfl, by decide, Lib.hid rfl, Lib.hid (RSp.new w2 (Nat.le_refl _)), Lib.hid (bal1 _ _)⟩
      case round =>
        obtain ⟨k, T, g', hk, rfl, rfl, hTs, HT, HR, HB⟩ := hrel
        by_cases hlt : k < xs.length
        · have i0 : (0 : Int) ≤ (k : Int) := by omega
          have i1 : (k : Int) < (Q.length : Int) + 1 := by omega
          obtain ⟨x, hx⟩ : ∃ x, xs[k]? = some x := ⟨_, List.getElem?_eq_getElem hlt⟩
          have hgx : gs ps k = noEnd x := by rw [HA.out k hlt]; simp [gs, List.getD_eq_getElem?_getD, hx]
          obtain ⟨b', o', e', hbl', ch0⟩ := (HST.out.below HB.out (Nat.le_refl _)).at_ (i := k) (by omega)
          cases e'
          rw [hgx] at ch0
          have cl := sline_any (noEnd x) (HX.out x (List.mem_of_getElem? hx)) wr HR.out
          have hsz := line_rsize HR.out (noEnd x)
          have hn := runL_next hx
          have hn1 : (runL (xs.take (k + 1))).1 = (T ++ (lineF (runL (xs.take k)).2 (noEnd x)).1) ++ ⟨#[10]⟩ := by
            rw [hn, stepF, HT.out]
            exact bytes_eq (by simp)
          have hn2 : (runL (xs.take (k + 1))).2 = (lineF (runL (xs.take k)).2 (noEnd x)).2 := by rw [hn, stepF]
          have HN1 := Lib.hid hn1; have HN2 := Lib.hid hn2; have CL := Lib.hid cl
          clear hn hn1 hn2 cl hgx hx
          generalize (lineF (runL (xs.take k)).2 (noEnd x)).1 = X at *
          generalize (lineF (runL (xs.take k)).2 (noEnd x)).2 = L2 at *
          go_wp2_with (go_at_call 16; refine CL.out.mono ?_; rintro e w4 ⟨rfl, g2, hS2, hch, hnw⟩)
          go_roundw
          case rel =>
            refine ⟨k + 1, _, g2, by omega, by go_num, rfl, ?_, Lib.hid HN1.out.symm, Lib.hid (by rw [HN2.out]; exact hS2), Lib.hid (HB.out.trans (hch.below (fun b hb => (HR.out.own b hb).1) HR.out.hb))⟩
            rw [ByteArray.size_append, ByteArray.size_append]
            show T.size + X.size + 1 ≤ _
            omega
          case measure => simp [intOf]; omega
        · obtain rfl : k = xs.length := by omega
          have hT := HT.out
          rw [List.take_length] at hT
          have HT2 := Lib.hid hT
          clear hT
          go_wp2_with fail
          go_ret
          rw [← HT2.out]
          exact ⟨ret_true (by first | rfl | (simp; done) | (simp; omega)), HB2.out.trans (HB.out.mono HB2.out.size)⟩
end Go.Proofs.YtpgemofkolmabaaGreatDoor.runAnswers
