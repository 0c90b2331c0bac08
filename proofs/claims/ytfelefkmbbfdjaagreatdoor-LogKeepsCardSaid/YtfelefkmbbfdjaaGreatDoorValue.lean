/- Package value: letters, Check, two, Like, Fits: what each returns. -/
import Derived.Test.YtfelefkmbbfdjaaGreatDoorBase
import Derived.Test.YtfelefkmbbfdjaaGreatDoorVMem
import Derived.Test.YtfelefkmbbfdjaaGreatDoorBMem
import Derived.Test.YtfelefkmbbfdjaaGreatDoorFind
import Derived.Laws.IdiomStrings
import Derived.Outline
import Derived.Shelf.Abstract
namespace Go.Proofs.YtfelefkmbbfdjaaGreatDoor
open Go.RowKit
set_option linter.unusedVariables false

/-- is a byte a letter? -/
def letB (c : Int) : Bool := decide (97 ≤ c) && decide (c ≤ 122)
def okS (s : ByteArray) : Bool := decide (∀ i, i < s.size → letB (gB s i) = true)
theorem okS_true {s : ByteArray} : okS s = true ↔ ∀ i, i < s.size → letB (gB s i) = true := by simp [okS]
theorem okS_empty : okS ⟨#[]⟩ = true := okS_true.2 fun i hi => absurd hi (by simp [ByteArray.size])
theorem okS_idx (s : ByteArray) : okS s = !decide (0 ≤ idx (fun i => !letB (gB s i)) s.size) := by
  rw [Bool.eq_iff_iff, okS_true]
  have := @idx_neg (fun i => !letB (gB s i)) s.size
  rw [Bool.not_eq_true', decide_eq_false_iff_not, Int.not_le, this]
  simp

theorem letclos_any (c : Int) (w : World) : Calls Tryz.prog 126 #[.int .u8 c] w fun e w' => e = .returned (.bool (!letB c)) ∧ Below w.heap.size w w' := by
  by_cases h1 : 97 ≤ c
  · by_cases h2 : c ≤ 122
    · have hv : (!letB c) = false := by simp [letB, h1, h2]
      rw [hv]
      clear hv
      have d1 : decide (c < 97) = false := by simp; omega
      have d2 : decide (122 < c) = false := by simp; omega
      go_enter Tryz.func126, Tryz.ntmps126
      go_wp2
      go_ret
      exact ⟨rfl, (by repeat (first | exact Below.refl _ _ | assumption | refine bal ?_ _ | refine bdn ?_ _ | refine bdr ?_ | refine bcl ?_ (by assumption)))⟩
    · have hv : (!letB c) = true := by simp [letB, h1, h2]
      rw [hv]
      clear hv
      have d1 : decide (c < 97) = false := by simp; omega
      have d2 : decide (122 < c) = true := by simp; omega
      go_enter Tryz.func126, Tryz.ntmps126
      go_wp2
      go_ret
      exact ⟨rfl, (by repeat (first | exact Below.refl _ _ | assumption | refine bal ?_ _ | refine bdn ?_ _ | refine bdr ?_ | refine bcl ?_ (by assumption)))⟩
  · have hv : (!letB c) = true := by simp [letB, h1]
    rw [hv]
    clear hv
    have d1 : decide (c < 97) = true := by simp; omega
    go_enter Tryz.func126, Tryz.ntmps126
    go_wp2
    go_ret
    exact ⟨rfl, (by repeat (first | exact Below.refl _ _ | assumption | refine bal ?_ _ | refine bdn ?_ _ | refine bdr ?_ | refine bcl ?_ (by assumption)))⟩

set_option maxHeartbeats 400000 in
theorem byidx_any (A : Option Addr) (cap : Nat) (s : ByteArray) (hm : s.size ≤ maxLen) (g : FuncId) (p : Nat → Bool) (w : World) (hA : Byts w A s)
    (hp : ∀ W, Below w.heap.size w W → ∀ i, i < s.size → Calls Tryz.prog g #[.int .u8 (gB s i)] W fun e w' => e = .returned (.bool (p i)) ∧ Below W.heap.size W w')
    (hg : ∀ args w, (callFunc g args).run Tryz.prog w = .ok (.enter g args) w) :
    Calls Tryz.prog 146 #[.slice A s.size cap, .func (.func g) #[] #[]] w fun e w' => e = .returned (.int .i64 (idx p s.size)) ∧ Below w.heap.size w w' := by
  have HP := Lib.hid hp; clear hp
  unfold maxLen at hm
  go_enter Tryz.func146, Tryz.ntmps146
  go_wp2_with fail
  go_loopw [8] (fun i wr => ∃ k : Nat, k ≤ s.size ∧ i = .int .i64 k ∧ Hid (fst' p k = none) ∧ Below w.heap.size w wr) (fun i _ => s.size - (intOf i).toNat)
  case atStart => exact ⟨0, Nat.zero_le _, rfl, rfl, Below.refl _ _⟩
  case round =>
    obtain ⟨k, hk, rfl, hf, hb⟩ := hrel
    by_cases hlt : k < s.size
    · obtain ⟨b, off, rfl, hbl, hc1⟩ := (hA.below hb (Nat.le_refl _)).at_ (i := k) hlt
      cases hpk : p k with
      | true =>
        have hi : idx p s.size = (k : Int) := idx_some (k := k + 1) (by simp only [fst', hf.out, hpk, if_true]) (by omega)
        have HI := Lib.hid hi; clear hi
        have hc := HP.out wr hb k hlt
        rw [hpk] at hc
        have HC := Lib.hid hc; clear hc hpk
        go_wp2_with fail
        refine HC.out.mono ?_
        rintro e w1 ⟨rfl, hb1⟩
        go_wp2_with fail
        rw [HI.out]
        go_ret
        exact ⟨rfl, bcl hb hb1⟩
      | false =>
        have hn' : fst' p (k + 1) = none := by simp [fst', hf.out, hpk]
        have HN := Lib.hid hn'; clear hn'
        have hc := HP.out wr hb k hlt
        rw [hpk] at hc
        have HC := Lib.hid hc; clear hc hpk
        go_wp2_with fail
        refine HC.out.mono ?_
        rintro e w1 ⟨rfl, hb1⟩
        go_wp2_with fail
        go_roundw
        case rel => exact ⟨k + 1, by omega, by go_num, HN, bcl hb hb1⟩
        case measure => simp [intOf]; omega
    · obtain rfl : k = s.size := by omega
      have HI := Lib.hid (idx_none hf.out)
      go_wp2_with fail
      rw [HI.out]
      go_ret
      exact ⟨rfl, hb⟩

theorem bycon_any (A : Option Addr) (cap : Nat) (s : ByteArray) (hm : s.size ≤ maxLen) (w : World) (hA : Byts w A s) :
    Calls Tryz.prog 125 #[.slice A s.size cap, .func (.func 126) #[] #[]] w fun e w' => e = .returned (.bool (!okS s)) ∧ Below w.heap.size w w' := by
  have hc := byidx_any A cap s hm 126 (fun i => !letB (gB s i)) w hA (fun W hb i hi => letclos_any (gB s i) W) (enters_of Tryz.func126 (by kernel_rfl) rfl)
  rw [okS_idx, Bool.not_not]
  generalize idx (fun i => !letB (gB s i)) s.size = z at hc
  have HC := Lib.hid hc; clear hc hA
  go_enter Tryz.func125, Tryz.ntmps125
  go_wp2_with fail
  refine HC.out.mono ?_
  rintro e w1 ⟨rfl, hb1⟩
  go_wp2_with fail
  go_ret
  exact ⟨rfl, hb1⟩

theorem letters_any (s : ByteArray) (hm : s.size ≤ maxLen) (w : World) :
    Calls Tryz.prog 104 #[.string s] w fun e w' => e = .returned (.bool (okS s)) ∧ Below w.heap.size w w' := by
  have c := fun A cap W hW => bycon_any A cap s hm W hW
  have C := Lib.hid c; clear c
  have hcv := fun w => run_bytes_of_string (P := Tryz.prog) w 9 117 5 s Tryz.underlying9 Tryz.underlying117 Tryz.underlying5
  go_enter Tryz.func104, Tryz.ntmps104
  go_wp2_with fail
  refine (C.out _ _ _ (byts_lit w s _ _ _ rfl)).mono ?_
  rintro e w1 ⟨rfl, hb1⟩
  go_wp2_with fail
  go_ret
  exact ⟨by simp, bcl (bal (bdr (Below.refl _ _)) _) hb1⟩

/-- what is wrong with a value -/
def vaE (v : Va) : Int := if v.k < 0 ∨ 2 < v.k ∨ (v.k = 0 ∧ (v.n < -1000000 ∨ 1000000 < v.n)) then 1 else if v.k = 1 ∧ 12 < v.s.size then 4 else if (v.k ≠ 0 ∧ v.n ≠ 0) ∨ (v.k ≠ 1 ∧ 0 < v.s.size) ∨ okS v.s = false then 3 else 0
theorem emp_of {s : ByteArray} (h : s.size = 0) : s = ⟨#[]⟩ := ByteArray.ext (Array.eq_empty_of_size_eq_zero h)
theorem emp_test {s : ByteArray} (h : 0 < s.size) : s.toList.isEmpty = false := by
  rw [List.isEmpty_eq_false_iff, ByteArray.toList_eq]
  intro e
  have : s.data.size = 0 := by rw [← Array.length_toList, e]; rfl
  exact absurd this (by show s.size ≠ 0; omega)

set_option maxHeartbeats 400000 in
theorem vcheck_any (k n : Int) (s : ByteArray) (hs : s.size ≤ maxLen) (w : World) :
    Calls Tryz.prog 85 #[.agg #[.int .i64 k, .int .i64 n, .string s]] w fun e w' => e = .returned (eV (vaE ⟨k, n, s⟩)) ∧ Below w.heap.size w w' := by
  have cl := fun W => letters_any s hs W
  unfold maxLen at hs
  by_cases h1 : k < 0
  · have hv : eV (vaE ⟨k, n, s⟩) = errV 1 := by rw [vaE, if_pos (.inl h1)]; rfl
    rw [hv]
    clear hv cl
    go_enter Tryz.func85, Tryz.ntmps85
    go_wp2_with fail
    go_ret
    exact ⟨rfl, (by repeat (first | exact Below.refl _ _ | assumption | refine bal ?_ _ | refine bdn ?_ _ | refine bdr ?_ | refine bcl ?_ (by assumption)))⟩
  · by_cases h2 : 2 < k
    · have hv : eV (vaE ⟨k, n, s⟩) = errV 1 := by rw [vaE, if_pos (.inr (.inl h2))]; rfl
      rw [hv]
      clear hv cl
      go_enter Tryz.func85, Tryz.ntmps85
      go_wp2_with fail
      go_ret
      exact ⟨rfl, (by repeat (first | exact Below.refl _ _ | assumption | refine bal ?_ _ | refine bdn ?_ _ | refine bdr ?_ | refine bcl ?_ (by assumption)))⟩
    · obtain rfl | rfl | rfl : k = 0 ∨ k = 1 ∨ k = 2 := by omega
      · by_cases h3 : n < -1000000
        · have hv : eV (vaE ⟨0, n, s⟩) = errV 1 := by rw [vaE, if_pos (.inr (.inr ⟨rfl, .inl h3⟩))]; rfl
          rw [hv]
          clear hv cl
          go_enter Tryz.func85, Tryz.ntmps85
          go_wp2_with fail
          go_ret
          exact ⟨rfl, (by repeat (first | exact Below.refl _ _ | assumption | refine bal ?_ _ | refine bdn ?_ _ | refine bdr ?_ | refine bcl ?_ (by assumption)))⟩
        · by_cases h4 : 1000000 < n
          · have hv : eV (vaE ⟨0, n, s⟩) = errV 1 := by rw [vaE, if_pos (.inr (.inr ⟨rfl, .inr h4⟩))]; rfl
            rw [hv]
            clear hv cl
            go_enter Tryz.func85, Tryz.ntmps85
            go_wp2_with fail
            go_ret
            exact ⟨rfl, (by repeat (first | exact Below.refl _ _ | assumption | refine bal ?_ _ | refine bdn ?_ _ | refine bdr ?_ | refine bcl ?_ (by assumption)))⟩
          · by_cases h5 : 0 < s.size
            · have hv : eV (vaE ⟨0, n, s⟩) = errV 3 := by rw [vaE, if_neg (by simp; omega), if_neg (by simp), if_pos (.inr (.inl ⟨by simp, h5⟩))]; rfl
              rw [hv]
              have he := emp_test h5
              clear hv cl
              go_enter Tryz.func85, Tryz.ntmps85
              go_wp2_with fail
              go_ret
              exact ⟨rfl, (by repeat (first | exact Below.refl _ _ | assumption | refine bal ?_ _ | refine bdn ?_ _ | refine bdr ?_ | refine bcl ?_ (by assumption)))⟩
            · obtain rfl := emp_of (show s.size = 0 by omega)
              have hv : eV (vaE ⟨0, n, ⟨#[]⟩⟩) = .nilIface := by rw [vaE, if_neg (by simp; omega), if_neg (by simp), if_neg (by simp [okS_empty, ByteArray.size])]; rfl
              rw [hv]
              rw [okS_empty] at cl
              have CL := Lib.hid cl; clear hv cl
              go_enter Tryz.func85, Tryz.ntmps85
              go_wp2_with (go_at_call 104; refine (CL.out _).mono ?_; rintro e w1 ⟨rfl, hb1⟩)
              go_ret
              exact ⟨rfl, (by repeat (first | exact Below.refl _ _ | assumption | refine bal ?_ _ | refine bdn ?_ _ | refine bdr ?_ | refine bcl ?_ (by assumption)))⟩
      · by_cases h3 : 12 < s.size
        · have hv : eV (vaE ⟨1, n, s⟩) = errV 4 := by rw [vaE, if_neg (by simp), if_pos ⟨rfl, h3⟩]; rfl
          rw [hv]
          clear hv cl
          go_enter Tryz.func85, Tryz.ntmps85
          go_wp2_with fail
          go_ret
          exact ⟨rfl, (by repeat (first | exact Below.refl _ _ | assumption | refine bal ?_ _ | refine bdn ?_ _ | refine bdr ?_ | refine bcl ?_ (by assumption)))⟩
        · by_cases h4 : n = 0
          · subst h4
            cases ho : okS s with
            | true =>
              have hv : eV (vaE ⟨1, 0, s⟩) = .nilIface := by rw [vaE, if_neg (by simp), if_neg (by simp; omega), if_neg (by simp [ho])]; rfl
              rw [hv]
              rw [ho] at cl
              have CL := Lib.hid cl; clear hv cl
              go_enter Tryz.func85, Tryz.ntmps85
              go_wp2_with (go_at_call 104; refine (CL.out _).mono ?_; rintro e w1 ⟨rfl, hb1⟩)
              go_ret
              exact ⟨rfl, (by repeat (first | exact Below.refl _ _ | assumption | refine bal ?_ _ | refine bdn ?_ _ | refine bdr ?_ | refine bcl ?_ (by assumption)))⟩
            | false =>
              have hv : eV (vaE ⟨1, 0, s⟩) = errV 3 := by rw [vaE, if_neg (by simp), if_neg (by simp; omega), if_pos (by simp [ho])]; rfl
              rw [hv]
              rw [ho] at cl
              have CL := Lib.hid cl; clear hv cl
              go_enter Tryz.func85, Tryz.ntmps85
              go_wp2_with (go_at_call 104; refine (CL.out _).mono ?_; rintro e w1 ⟨rfl, hb1⟩)
              go_ret
              exact ⟨rfl, (by repeat (first | exact Below.refl _ _ | assumption | refine bal ?_ _ | refine bdn ?_ _ | refine bdr ?_ | refine bcl ?_ (by assumption)))⟩
          · have hv : eV (vaE ⟨1, n, s⟩) = errV 3 := by rw [vaE, if_neg (by simp), if_neg (by simp; omega), if_pos (.inl ⟨by simp, h4⟩)]; rfl
            rw [hv]
            have hq : (n != 0) = true := by rw [bne_iff_ne]; exact h4
            clear hv cl h4
            go_enter Tryz.func85, Tryz.ntmps85
            go_wp2_with fail
            go_ret
            exact ⟨rfl, (by repeat (first | exact Below.refl _ _ | assumption | refine bal ?_ _ | refine bdn ?_ _ | refine bdr ?_ | refine bcl ?_ (by assumption)))⟩
      · by_cases h4 : n = 0
        · subst h4
          by_cases h5 : 0 < s.size
          · have hv : eV (vaE ⟨2, 0, s⟩) = errV 3 := by rw [vaE, if_neg (by simp), if_neg (by simp), if_pos (.inr (.inl ⟨by simp, h5⟩))]; rfl
            rw [hv]
            have he := emp_test h5
            clear hv cl
            go_enter Tryz.func85, Tryz.ntmps85
            go_wp2_with fail
            go_ret
            exact ⟨rfl, (by repeat (first | exact Below.refl _ _ | assumption | refine bal ?_ _ | refine bdn ?_ _ | refine bdr ?_ | refine bcl ?_ (by assumption)))⟩
          · obtain rfl := emp_of (show s.size = 0 by omega)
            have hv : eV (vaE ⟨2, 0, ⟨#[]⟩⟩) = .nilIface := by rw [vaE, if_neg (by simp), if_neg (by simp), if_neg (by simp [okS_empty, ByteArray.size])]; rfl
            rw [hv]
            rw [okS_empty] at cl
            have CL := Lib.hid cl; clear hv cl
            go_enter Tryz.func85, Tryz.ntmps85
            go_wp2_with (go_at_call 104; refine (CL.out _).mono ?_; rintro e w1 ⟨rfl, hb1⟩)
            go_ret
            exact ⟨rfl, (by repeat (first | exact Below.refl _ _ | assumption | refine bal ?_ _ | refine bdn ?_ _ | refine bdr ?_ | refine bcl ?_ (by assumption)))⟩
        · have hv : eV (vaE ⟨2, n, s⟩) = errV 3 := by rw [vaE, if_neg (by simp), if_neg (by simp), if_pos (.inl ⟨by simp, h4⟩)]; rfl
          rw [hv]
          have hq : (n != 0) = true := by rw [bne_iff_ne]; exact h4
          clear hv cl h4
          go_enter Tryz.func85, Tryz.ntmps85
          go_wp2_with fail
          go_ret
          exact ⟨rfl, (by repeat (first | exact Below.refl _ _ | assumption | refine bal ?_ _ | refine bdn ?_ _ | refine bdr ?_ | refine bcl ?_ (by assumption)))⟩
end Go.Proofs.YtfelefkmbbfdjaaGreatDoor
