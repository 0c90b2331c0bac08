/- The functions of package poly: Factors, Is, At, Points, Through, Next, Zero: what each returns. -/
import Derived.Test.YtpgemofkolmabaaGreatDoorChecked
import Derived.Test.YtpgemofkolmabaaGreatDoorMem
import Derived.Test.YtpgemofkolmabaaGreatDoorMod
import Derived.WalkKit
import Derived.Lib.Hide
import Derived.WalkLawsBesides
import Derived.WalkSpells
namespace Go.Proofs.YtpgemofkolmabaaGreatDoor
open Go.RowKit
set_option linter.unusedVariables false

/-- are the first k all of these? -/
def allIn (xs : List Int) : Nat → Bool
  | 0 => true
  | k + 1 => allIn xs k && inB (gi xs k)
theorem allIn_at {xs : List Int} {k : Nat} (h : allIn xs k = true) {i : Nat} (hi : i < k) : inB (gi xs i) = true := by
  induction k with
  | zero => omega
  | succ k ih =>
    simp only [allIn, Bool.and_eq_true] at h
    by_cases e : i = k
    · subst e; exact h.2
    · exact ih h.1 (by omega)
theorem allIn_of {xs : List Int} {k : Nat} (h : ∀ i, i < k → inB (gi xs i) = true) : allIn xs k = true := by
  induction k with
  | zero => rfl
  | succ k ih => simp only [allIn, Bool.and_eq_true]; exact ⟨ih fun i hi => h i (by omega), h k (by omega)⟩
theorem allIn_false {xs : List Int} {k n : Nat} (h : inB (gi xs k) = false) (hk : k < n) : allIn xs n = false := by
  cases e : allIn xs n with
  | false => rfl
  | true => rw [allIn_at e hk] at h; cases h
/-- what Factors says: nil, or an error's number -/
def facV (xs : List Int) : Value := if 7 < xs.length then errV 4 else if allIn xs xs.length = true then .nilIface else errV 1
theorem facV_ok {xs : List Int} (h1 : xs.length ≤ 7) (h2 : allIn xs xs.length = true) : facV xs = .nilIface := by
  rw [facV, if_neg (by omega), if_pos h2]

theorem facV_cases (xs : List Int) : (xs.length ≤ 7 ∧ allIn xs xs.length = true) ∨ facV xs = errV 4 ∨ facV xs = errV 1 := by
  by_cases h : 7 < xs.length
  · exact .inr (.inl (by rw [facV, if_pos h]))
  · cases e : allIn xs xs.length with
    | true => exact .inl ⟨by omega, rfl⟩
    | false => exact .inr (.inr (by rw [facV, if_neg h, if_neg (by rw [e]; decide)]))

set_option maxHeartbeats 800000 in
theorem factors_any (A : Option Addr) (cap : Nat) (xs : List Int) (w : World) (hA : Ints w A xs) :
    Calls Tryz.prog 199 #[.slice A xs.length cap] w fun e w' => e = .returned (facV xs) ∧ w = w' := by
  by_cases hl : 7 < xs.length
  · have hv : facV xs = errV 4 := by rw [facV, if_pos hl]
    rw [hv]
    clear hv
    go_enter Tryz.func199, Tryz.ntmps199
    go_wp2
    go_ret
    exact ⟨rfl, rfl⟩
  · have hl : xs.length ≤ 7 := by omega
    go_enter Tryz.func199, Tryz.ntmps199
    go_wp2_with fail
    go_loop [11] (fun i => ∃ k : Nat, k ≤ xs.length ∧ i = .int .i64 k ∧ Hid (allIn xs k = true)) (fun i => xs.length - (intOf i).toNat)
    case atStart => exact ⟨0, Nat.zero_le _, rfl, rfl⟩
    case round =>
      obtain ⟨k, hk, rfl, ha⟩ := hrel
      by_cases hlt : k < xs.length
      · obtain ⟨b, off, rfl, hbl, hcell⟩ := hA.at_ hlt
        cases hb : inB (gi xs k) with
        | true =>
          have hn : allIn xs (k + 1) = true := by simp only [allIn, ha.out, hb, Bool.and_self]
          have HN := Lib.hid hn; clear hn
          go_wp2_with (go_at_call 198; refine (in_any _ _).mono ?_; rintro e w' ⟨rfl, rfl⟩)
          go_round
          case rel => exact ⟨k + 1, by omega, by go_num, HN⟩
          case measure => simp [intOf]; omega
        | false =>
          have hv : facV xs = errV 1 := by rw [facV, if_neg (by omega), if_neg (by rw [allIn_false hb hlt]; decide)]
          have HV := Lib.hid hv; clear hv
          go_wp2_with (go_at_call 198; refine (in_any _ _).mono ?_; rintro e w' ⟨rfl, rfl⟩)
          rw [HV.out]
          go_ret
          exact ⟨rfl, rfl⟩
      · obtain rfl : k = xs.length := by omega
        have hv := facV_ok hl ha.out
        have HV := Lib.hid hv; clear hv
        go_wp2_with fail
        rw [HV.out]
        go_ret
        exact ⟨rfl, rfl⟩

/-! ### points -/
/-- are both numbers of point i right? -/
def pinB (l : List Sh) (i : Nat) : Bool := inB (ga l i) && inB (gb l i)
/-- was this place there, of the first k? -/
def wasB (l : List Sh) (x : Int) : Nat → Bool
  | 0 => false
  | k + 1 => wasB l x k || (ga l k == x)
/-- the fault of the first k points -/
def ptE (l : List Sh) : Nat → Int
  | 0 => 0
  | k + 1 => if ptE l k = 0 then (if pinB l k = true then (if wasB l (ga l k) k = true then 7 else 0) else 1) else ptE l k
def poiE (l : List Sh) : Int := if l.length = 0 then 5 else if 7 < l.length then 4 else ptE l l.length

theorem ptE_stay {l : List Sh} {k n : Nat} (h : ptE l k ≠ 0) (hk : k ≤ n) : ptE l n = ptE l k := by
  induction n with
  | zero => obtain rfl : k = 0 := by omega
            rfl
  | succ n ih =>
    by_cases e : k = n + 1
    · subst e; rfl
    · have := ih (by omega)
      simp only [ptE]; rw [if_neg (by rw [this]; exact h), this]
end Go.Proofs.YtpgemofkolmabaaGreatDoor
