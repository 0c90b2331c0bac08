/- value.two, Like, Fits; package tuple: Like, Check, Is, Fits; slices.Clone of values: what each returns. -/
import Derived.Test.YtfelefkmbbfdjaaGreatDoorValue
import Derived.Test.YtfelefkmbbfdjaaGreatDoorVOwn
namespace Go.Proofs.YtfelefkmbbfdjaaGreatDoor
open Go.RowKit
set_option linter.unusedVariables false

/-- the texts of values are texts -/
def okL (l : List Va) : Prop := ∀ i, i < l.length → (va l i).s.size ≤ maxLen
/-- the first fault among values -/
def lsE (l : List Va) : Nat → Int
  | 0 => 0
  | k + 1 => if lsE l k ≠ 0 then lsE l k else vaE (va l k)
theorem lsE_stay {l : List Va} {k n : Nat} (h : lsE l k ≠ 0) (hk : k ≤ n) : lsE l n = lsE l k := by
  induction n with
  | zero => obtain rfl : k = 0 := by omega
            rfl
  | succ n ih =>
    by_cases e : k = n + 1
    · subst e; rfl
    · have := ih (by omega)
      rw [lsE, if_pos (by rw [this]; exact h), this]
theorem lsE_zero {l : List Va} {n : Nat} (h : lsE l n = 0) {i : Nat} (hi : i < n) : vaE (va l i) = 0 := by
  have h1 : lsE l (i + 1) = 0 := by
    by_cases e : lsE l (i + 1) = 0
    · exact e
    · have := lsE_stay e (n := n) (by omega); rw [h] at this; exact absurd this.symm e
  have h0 : lsE l i = 0 := by
    by_cases e : lsE l i = 0
    · exact e
    · have := lsE_stay e (n := i + 1) (by omega); rw [h1] at this; exact absurd this.symm e
  rw [lsE, if_neg (by rw [h0]; simp)] at h1
  exact h1
theorem lsE_of {l : List Va} {n : Nat} (h : ∀ i, i < n → vaE (va l i) = 0) : lsE l n = 0 := by
  induction n with
  | zero => rfl
  | succ n ih => rw [lsE, if_neg (by rw [ih fun i hi => h i (by omega)]; simp)]; exact h n (by omega)

theorem lsE_at {l : List Va} {k n : Nat} (h0 : lsE l k = 0) (h : vaE (va l k) ≠ 0) (hk : k < n) : lsE l n = vaE (va l k) := by
  have h1 : lsE l (k + 1) = vaE (va l k) := by rw [lsE, if_neg (by rw [h0]; simp)]
  rw [lsE_stay (k := k + 1) (by rw [h1]; exact h) hk, h1]
theorem lsE_next {l : List Va} {k : Nat} (h0 : lsE l k = 0) (h : vaE (va l k) = 0) : lsE l (k + 1) = 0 := by rw [lsE, if_neg (by rw [h0]; simp), h]
def twoE (a b : Va) : Int := lsE [a, b] 2

/-- is one what another one asks for? -/
def likB (a b : Va) : Bool := decide (a.k = 2 ∨ a = b)
set_option maxHeartbeats 400000 in
theorem vlike_any (k n : Int) (s : ByteArray) (k2 n2 : Int) (s2 : ByteArray) (w : World) :
    Calls Tryz.prog 130 #[.agg #[.int .i64 k, .int .i64 n, .string s], .agg #[.int .i64 k2, .int .i64 n2, .string s2]] w fun e w' => e = .returned (.bool (likB ⟨k, n, s⟩ ⟨k2, n2, s2⟩)) ∧ Below w.heap.size w w' := by
  by_cases h : k = 2
  · have hv : likB ⟨k, n, s⟩ ⟨k2, n2, s2⟩ = true := by simp [likB, h]
    rw [hv]
    subst h
    clear hv
    go_enter Tryz.func130, Tryz.ntmps130
    go_wp2_with fail
    go_ret
    exact ⟨rfl, (by repeat (first | exact Below.refl _ _ | assumption | refine bal ?_ _ | refine bdn ?_ _ | refine bdr ?_ | refine bcl ?_ (by assumption)))⟩
  · have hq : (k == 2) = false := beq_eq_false_iff_ne.2 h
    by_cases h1 : k = k2
    · subst h1
      by_cases h2 : n = n2
      · subst h2
        by_cases h3 : s = s2
        · subst h3
          have hv : likB ⟨k, n, s⟩ ⟨k, n, s⟩ = true := by simp [likB]
          rw [hv]
          clear hv h
          go_enter Tryz.func130, Tryz.ntmps130
          go_wp2_with fail
          go_ret
          exact ⟨by simp, (by repeat (first | exact Below.refl _ _ | assumption | refine bal ?_ _ | refine bdn ?_ _ | refine bdr ?_ | refine bcl ?_ (by assumption)))⟩
        · have hv : likB ⟨k, n, s⟩ ⟨k, n, s2⟩ = false := by simp [likB, h, h3]
          rw [hv]
          have hs := str_other h3
          clear hv h h3
          go_enter Tryz.func130, Tryz.ntmps130
          go_wp2_with fail
          go_ret
          exact ⟨by simp, (by repeat (first | exact Below.refl _ _ | assumption | refine bal ?_ _ | refine bdn ?_ _ | refine bdr ?_ | refine bcl ?_ (by assumption)))⟩
      · have hv : likB ⟨k, n, s⟩ ⟨k, n2, s2⟩ = false := by simp [likB, h, h2]
        rw [hv]
        have hn : (n == n2) = false := beq_eq_false_iff_ne.2 h2
        clear hv h h2
        go_enter Tryz.func130, Tryz.ntmps130
        go_wp2_with fail
        go_ret
        exact ⟨by simp, (by repeat (first | exact Below.refl _ _ | assumption | refine bal ?_ _ | refine bdn ?_ _ | refine bdr ?_ | refine bcl ?_ (by assumption)))⟩
    · have hv : likB ⟨k, n, s⟩ ⟨k2, n2, s2⟩ = false := by simp [likB, h, h1]
      rw [hv]
      have hn : (k == k2) = false := beq_eq_false_iff_ne.2 h1
      clear hv h h1
      go_enter Tryz.func130, Tryz.ntmps130
      go_wp2_with fail
      go_ret
      exact ⟨by simp, (by repeat (first | exact Below.refl _ _ | assumption | refine bal ?_ _ | refine bdn ?_ _ | refine bdr ?_ | refine bcl ?_ (by assumption)))⟩

/-! ### tuples -/
/-- what is wrong with what is asked for -/
def liE (l : List Va) : Int := if l.length = 0 then 5 else if 5 < l.length then 4 else lsE l l.length
theorem liE_zero {l : List Va} (h : liE l = 0) : 0 < l.length ∧ l.length ≤ 5 ∧ lsE l l.length = 0 := by
  unfold liE at h
  split at h
  · cases h
  · split at h
    · cases h
    · exact ⟨by omega, by omega, h⟩
set_option maxHeartbeats 400000 in
theorem tlike_any (A : Option Addr) (cap : Nat) (l : List Va) (hm : l.length ≤ maxLen) (hok : okL l) (w : World) (hA : Vals w A l) :
    Calls Tryz.prog 61 #[.slice A l.length cap] w fun e w' => e = .returned (eV (liE l)) ∧ Below w.heap.size w w' := by
  unfold maxLen at hm
  by_cases h0 : l.length = 0
  · have hv : liE l = 5 := by rw [liE, if_pos h0]
    rw [hv, h0]
    clear hv h0
    go_enter Tryz.func61, Tryz.ntmps61
    go_wp2_with fail
    go_ret
    exact ⟨rfl, (by repeat (first | exact Below.refl _ _ | assumption | refine bal ?_ _ | refine bdn ?_ _ | refine bdr ?_ | refine bcl ?_ (by assumption)))⟩
  · have hz : ((l.length : Int) == 0) = false := beq_eq_false_iff_ne.2 (by omega)
    by_cases h5 : 5 < l.length
    · have hv : liE l = 4 := by rw [liE, if_neg h0, if_pos h5]
      rw [hv]
      clear hv h0
      go_enter Tryz.func61, Tryz.ntmps61
      go_wp2_with fail
      go_ret
      exact ⟨rfl, (by repeat (first | exact Below.refl _ _ | assumption | refine bal ?_ _ | refine bdn ?_ _ | refine bdr ?_ | refine bcl ?_ (by assumption)))⟩
    · have hv : liE l = lsE l l.length := by rw [liE, if_neg h0, if_neg h5]
      rw [hv]
      have HOK := Lib.hid hok
      clear hv h0 hok
      go_enter Tryz.func61, Tryz.ntmps61
      go_wp2_with fail
      go_loopw [18] (fun i wr => ∃ j : Nat, j ≤ l.length ∧ i = .int .i64 j ∧ Hid (lsE l j = 0) ∧ Below w.heap.size w wr) (fun i _ => l.length - (intOf i).toNat)
      case atStart => exact ⟨0, by omega, rfl, rfl, (by repeat (first | exact Below.refl _ _ | assumption | refine bal ?_ _ | refine bdn ?_ _ | refine bdr ?_ | refine bcl ?_ (by assumption)))⟩
      case round =>
        obtain ⟨j, hj, rfl, hzz, hb⟩ := hrel
        by_cases hlt : j < l.length
        · obtain ⟨b, off, rfl, hbl, k0, k1, k2⟩ := (hA.below hb (Nat.le_refl _)).at_ (i := j) hlt
          have c : ∀ W, Calls Tryz.prog 85 #[.agg #[.int .i64 (va l j).k, .int .i64 (va l j).n, .string (va l j).s]] W fun e w' => e = .returned (eV (vaE (va l j))) ∧ Below W.heap.size W w' := fun W => vcheck_any _ _ _ (HOK.out j hlt) W
          by_cases he : vaE (va l j) = 0
          · rw [he, eV_zero] at c
            have HN := Lib.hid (lsE_next hzz.out he)
            have C := Lib.hid c; clear c he
            go_wp2_with fail
            refine (C.out _).mono ?_
            rintro e w2 ⟨rfl, hb2⟩
            go_wp2_with fail
            go_roundw
            case rel => exact ⟨j + 1, by omega, by go_num, HN, bcl (bal hb _) hb2⟩
            case measure => simp [intOf]; omega
          · rw [eV_of he] at c
            have HN := Lib.hid (lsE_at (n := l.length) hzz.out he hlt)
            have HX := Lib.hid (eV_of he)
            have C := Lib.hid c; clear c he
            go_wp2_with fail
            refine (C.out _).mono ?_
            rintro e w2 ⟨rfl, hb2⟩
            go_wp2_with fail
            rw [HN.out, HX.out]
            go_ret
            exact ⟨rfl, bcl (bal hb _) hb2⟩
        · obtain rfl : j = l.length := by omega
          go_wp2_with fail
          rw [hzz.out]
          go_ret
          exact ⟨rfl, hb⟩

theorem tcclos_any (k n : Int) (s : ByteArray) (w : World) : Calls Tryz.prog 87 #[.agg #[.int .i64 k, .int .i64 n, .string s]] w fun e w' => e = .returned (.bool (k == 2)) ∧ Below w.heap.size w w' := by
  go_enter Tryz.func87, Tryz.ntmps87
  go_wp2_with fail
  go_ret
  exact ⟨rfl, (by repeat (first | exact Below.refl _ _ | assumption | refine bal ?_ _ | refine bdn ?_ _ | refine bdr ?_ | refine bcl ?_ (by assumption)))⟩
set_option maxHeartbeats 400000 in
theorem vaidx_any (A : Option Addr) (cap : Nat) (l : List Va) (hm : l.length ≤ maxLen) (g : FuncId) (p : Nat → Bool) (w : World) (hA : Vals w A l)
    (hp : ∀ W, Below w.heap.size w W → ∀ i, i < l.length → Calls Tryz.prog g #[.agg #[.int .i64 (va l i).k, .int .i64 (va l i).n, .string (va l i).s]] W fun e w' => e = .returned (.bool (p i)) ∧ Below W.heap.size W w')
    (hg : ∀ args w, (callFunc g args).run Tryz.prog w = .ok (.enter g args) w) :
    Calls Tryz.prog 105 #[.slice A l.length cap, .func (.func g) #[] #[]] w fun e w' => e = .returned (.int .i64 (idx p l.length)) ∧ Below w.heap.size w w' := by
  have HP := Lib.hid hp; clear hp
  unfold maxLen at hm
  go_enter Tryz.func105, Tryz.ntmps105
  go_wp2_with fail
  go_loopw [8] (fun i wr => ∃ k : Nat, k ≤ l.length ∧ i = .int .i64 k ∧ Hid (fst' p k = none) ∧ Below w.heap.size w wr) (fun i _ => l.length - (intOf i).toNat)
  case atStart => exact ⟨0, Nat.zero_le _, rfl, rfl, Below.refl _ _⟩
  case round =>
    obtain ⟨k, hk, rfl, hf, hb⟩ := hrel
    by_cases hlt : k < l.length
    · obtain ⟨b, off, rfl, hbl, hc0, hc1, hc2⟩ := (hA.below hb (Nat.le_refl _)).at_ (i := k) hlt
      cases hpk : p k with
      | true =>
        have hi : idx p l.length = (k : Int) := idx_some (k := k + 1) (by simp only [fst', hf.out, hpk, if_true]) (by omega)
        have HI := Lib.hid hi; clear hi
        have hc := HP.out wr hb k hlt
        rw [hpk] at hc
        have HC := Lib.hid hc; clear hc hpk
        go_wp2_with fail
        refine HC.out.mono ?_
        rintro e w1 ⟨rfl, hb1⟩
        go_wp2_with fail
        rw [HI.out]
        go_ret
        exact ⟨rfl, bcl hb hb1⟩
      | false =>
        have hn' : fst' p (k + 1) = none := by simp [fst', hf.out, hpk]
        have HN := Lib.hid hn'; clear hn'
        have hc := HP.out wr hb k hlt
        rw [hpk] at hc
        have HC := Lib.hid hc; clear hc hpk
        go_wp2_with fail
        refine HC.out.mono ?_
        rintro e w1 ⟨rfl, hb1⟩
        go_wp2_with fail
        go_roundw
        case rel => exact ⟨k + 1, by omega, by go_num, HN, bcl hb hb1⟩
        case measure => simp [intOf]; omega
    · obtain rfl : k = l.length := by omega
      have HI := Lib.hid (idx_none hf.out)
      go_wp2_with fail
      rw [HI.out]
      go_ret
      exact ⟨rfl, hb⟩
/-- has a tuple a field that is anything? -/
def anyB (l : List Va) : Bool := decide (0 ≤ idx (fun i => (va l i).k == 2) l.length)
theorem anyB_false {l : List Va} : anyB l = false ↔ ∀ i, i < l.length → (va l i).k ≠ 2 := by
  rw [anyB, decide_eq_false_iff_not, Int.not_le, idx_neg]; simp
theorem vacon_any (A : Option Addr) (cap : Nat) (l : List Va) (hm : l.length ≤ maxLen) (w : World) (hA : Vals w A l) :
    Calls Tryz.prog 86 #[.slice A l.length cap, .func (.func 87) #[] #[]] w fun e w' => e = .returned (.bool (anyB l)) ∧ Below w.heap.size w w' := by
  have hc := vaidx_any A cap l hm 87 (fun i => (va l i).k == 2) w hA (fun W hb i hi => tcclos_any _ _ _ W) (enters_of Tryz.func87 (by kernel_rfl) rfl)
  unfold anyB
  generalize idx (fun i => (va l i).k == 2) l.length = z at hc
  have HC := Lib.hid hc; clear hc hA
  go_enter Tryz.func86, Tryz.ntmps86
  go_wp2_with fail
  refine HC.out.mono ?_
  rintro e w1 ⟨rfl, hb1⟩
  go_wp2_with fail
  go_ret
  exact ⟨rfl, hb1⟩
/-- what is wrong with a tuple -/
def tuE (l : List Va) : Int := if liE l ≠ 0 then liE l else if anyB l = true then 3 else 0
theorem tuE_zero {l : List Va} (h : tuE l = 0) : liE l = 0 ∧ anyB l = false := by
  unfold tuE at h
  split at h
  · rename_i h1; exact absurd h h1
  · split at h
    · cases h
    · rename_i h1 h2; exact ⟨by simpa using h1, by simpa using h2⟩
theorem tcheck_any (A : Option Addr) (cap : Nat) (l : List Va) (hm : l.length ≤ maxLen) (hok : okL l) (w : World) (hA : Vals w A l) :
    Calls Tryz.prog 62 #[.slice A l.length cap] w fun e w' => e = .returned (eV (tuE l)) ∧ Below w.heap.size w w' := by
  have c1 := tlike_any A cap l hm hok w hA
  have c2 := fun W (hW : Vals W A l) => vacon_any A cap l hm W hW
  by_cases h : liE l = 0
  · rw [h, eV_zero] at c1
    cases ha : anyB l with
    | true =>
      have hv : tuE l = 3 := by rw [tuE, if_neg (by simp [h]), if_pos ha]
      rw [hv]
      rw [ha] at c2
      have C1 := Lib.hid c1; have C2 := Lib.hid c2; clear c1 c2 hv h ha
      go_enter Tryz.func62, Tryz.ntmps62
      go_wp2_with (first | (go_at_call 61; refine C1.out.mono ?_; rintro e w1 ⟨rfl, hb1⟩) | (go_at_call 86; refine (C2.out _ (hA.below hb1 (Nat.le_refl _))).mono ?_; rintro e w2 ⟨rfl, hb2⟩))
      go_ret
      exact ⟨rfl, (by repeat (first | exact Below.refl _ _ | assumption | refine bal ?_ _ | refine bdn ?_ _ | refine bdr ?_ | refine bcl ?_ (by assumption)))⟩
    | false =>
      have hv : tuE l = 0 := by rw [tuE, if_neg (by simp [h]), if_neg (by simp [ha])]
      rw [hv]
      rw [ha] at c2
      have C1 := Lib.hid c1; have C2 := Lib.hid c2; clear c1 c2 hv h ha
      go_enter Tryz.func62, Tryz.ntmps62
      go_wp2_with (first | (go_at_call 61; refine C1.out.mono ?_; rintro e w1 ⟨rfl, hb1⟩) | (go_at_call 86; refine (C2.out _ (hA.below hb1 (Nat.le_refl _))).mono ?_; rintro e w2 ⟨rfl, hb2⟩))
      go_ret
      exact ⟨rfl, (by repeat (first | exact Below.refl _ _ | assumption | refine bal ?_ _ | refine bdn ?_ _ | refine bdr ?_ | refine bcl ?_ (by assumption)))⟩
  · have hv : tuE l = liE l := by rw [tuE, if_pos h]
    rw [hv, eV_of h]
    rw [eV_of h] at c1
    have C1 := Lib.hid c1; clear c1 c2 hv h
    go_enter Tryz.func62, Tryz.ntmps62
    go_wp2_with (first | (go_at_call 61; refine C1.out.mono ?_; rintro e w1 ⟨rfl, hb1⟩))
    go_ret
    exact ⟨rfl, (by repeat (first | exact Below.refl _ _ | assumption | refine bal ?_ _ | refine bdn ?_ _ | refine bdr ?_ | refine bcl ?_ (by assumption)))⟩
end Go.Proofs.YtfelefkmbbfdjaaGreatDoor
