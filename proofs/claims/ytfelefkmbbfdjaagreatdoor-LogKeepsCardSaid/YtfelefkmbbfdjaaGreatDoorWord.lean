/- Values as text: value.Word, Print; the reference's Digits, Word; digest.Value. -/
import Derived.Test.YtfelefkmbbfdjaaGreatDoorHash
import Derived.Test.YtfelefkmbbfdjaaGreatDoorVRef
import Derived.Test.YtfelefkmbbfdjaaGreatDoorVArg
import Derived.Test.YtfelefkmbbfdjaaGreatDoorShelf
import Derived.Lib.ItoaLen
import Derived.Lib.SmallJoins
namespace Go.Proofs.YtfelefkmbbfdjaaGreatDoor
open Go.RowKit Go.Joins
set_option linter.unusedVariables false

def TT (w : World) : Prop := Lib.TabIs Tryz.prog w "internal/strconv.uint64pow10" .u64 Lib.pow10Tab
theorem grow_below (w : World) (os : Array Obj) : Below w.heap.size w (Sort.grow w os) := ⟨rfl, rfl, rfl, by simp [Sort.grow], fun b hb => by simp [Sort.grow, Array.getElem?_append_left hb]⟩
theorem itoa_any (n : Int) (h0 : -9223372036854775808 ≤ n) (h1 : n ≤ 9223372036854775807) (w : World) (ht : TT w) :
    Calls Tryz.prog 44 #[.int .i64 n] w fun e w' => e = .returned (.string ⟨(Lib.itoa n).toArray⟩) ∧ Below w.heap.size w w' :=
  (Tryz.strconv_Itoa n h0 h1 w ht).mono fun e w' ⟨h2, k, os, h3⟩ => ⟨h2, by rw [h3]; exact (bdn (Below.refl w.heap.size w) k).trans ((grow_below (w.drewN k) os).mono (by simp))⟩
/-- a value's text -/
def wrd (v : Va) : ByteArray := if v.k = 0 then ⟨(Lib.itoa v.n).toArray⟩ else if v.k = 1 then ⟨#[58]⟩ ++ v.s else ⟨#[42]⟩
set_option maxHeartbeats 400000 in
theorem vword_any (k n : Int) (s : ByteArray) (hs : s.size ≤ 1000000) (h0 : -9223372036854775808 ≤ n) (h1 : n ≤ 9223372036854775807) (w : World) (ht : k = 0 → TT w) :
    Calls Tryz.prog 69 #[.agg #[.int .i64 k, .int .i64 n, .string s]] w fun e w' => e = .returned (.string (wrd ⟨k, n, s⟩)) ∧ Below w.heap.size w w' := by
  by_cases e0 : k = 0
  · subst e0
    have hv : wrd ⟨0, n, s⟩ = ⟨(Lib.itoa n).toArray⟩ := if_pos rfl
    have ci := fun W (hW : TT W) => itoa_any n h0 h1 W hW
    have htw := tab_stays (g := 4) (by kernel_rfl) (ht rfl) (bal1 w (.cells #[.int .i64 0, .int .i64 n, .string s] 31)) (Nat.le_refl _)
    rw [hv]
    have CI := Lib.hid ci; have HT := Lib.hid htw; clear ci hv ht htw
    go_enter Tryz.func69, Tryz.ntmps69
    go_wp2_with (go_at_call 44; refine (CI.out _ HT.out).mono ?_; rintro e w1 ⟨rfl, hb1⟩)
    go_ret
    exact ⟨rfl, (by repeat (first | exact Below.refl _ _ | assumption | refine bal ?_ _ | refine bdn ?_ _ | refine bdr ?_ | refine bcl ?_ (by assumption)))⟩
  · have hq : (k == 0) = false := beq_eq_false_iff_ne.2 e0
    by_cases e1 : k = 1
    · subst e1
      have hv : wrd ⟨1, n, s⟩ = ⟨#[58]⟩ ++ s := by rw [wrd, if_neg (by simp), if_pos rfl]
      rw [hv]
      clear hv ht e0
      go_enter Tryz.func69, Tryz.ntmps69
      go_wp2_with fail
      go_ret
      exact ⟨rfl, (by repeat (first | exact Below.refl _ _ | assumption | refine bal ?_ _ | refine bdn ?_ _ | refine bdr ?_ | refine bcl ?_ (by assumption)))⟩
    · have hq1 : (k == 1) = false := beq_eq_false_iff_ne.2 e1
      have hv : wrd ⟨k, n, s⟩ = ⟨#[42]⟩ := by rw [wrd, if_neg e0, if_neg e1]
      rw [hv]
      clear hv ht e0 e1
      go_enter Tryz.func69, Tryz.ntmps69
      go_wp2_with fail
      go_ret
      exact ⟨rfl, (by repeat (first | exact Below.refl _ _ | assumption | refine bal ?_ _ | refine bdn ?_ _ | refine bdr ?_ | refine bcl ?_ (by assumption)))⟩
theorem app_bytes (l : List UInt8) (d : UInt8) : (ByteArray.mk l.toArray) ++ ⟨#[d]⟩ = ⟨(l ++ [d]).toArray⟩ := bytes_eq (by simp [ByteArray.data_append])
theorem cons_bytes (l : List UInt8) (d : UInt8) : (ByteArray.mk #[d]) ++ ⟨l.toArray⟩ = ⟨(d :: l).toArray⟩ := bytes_eq (by simp [ByteArray.data_append])
theorem dec_len (n : Int) (h0 : 0 ≤ n) (h1 : n ≤ 1000000000) : (Lib.decDigits n.toNat).length ≤ 21 := by
  have := Lib.itoa_length_le n (by omega) (by omega)
  rwa [Lib.itoa, if_neg (by omega)] at this
theorem ext_digit (n : Nat) (h : n < 10) : (ByteArray.mk #[48, 49, 50, 51, 52, 53, 54, 55, 56, 57]).extract n (n + 1) = ⟨#[UInt8.ofNat (48 + n)]⟩ := by
  rcases (show n = 0 ∨ n = 1 ∨ n = 2 ∨ n = 3 ∨ n = 4 ∨ n = 5 ∨ n = 6 ∨ n = 7 ∨ n = 8 ∨ n = 9 by omega) with rfl | rfl | rfl | rfl | rfl | rfl | rfl | rfl | rfl | rfl <;> rfl
set_option maxHeartbeats 400000 in
theorem rdigits_nat (b : Nat) : ∀ (n : Int), n.toNat ≤ b → 0 ≤ n → n ≤ 1000000000 → ∀ w : World,
    Calls Tryz.prog 84 #[.int .i64 n] w fun e w' => e = .returned (.string ⟨(Lib.decDigits n.toNat).toArray⟩) ∧ w = w' := by
  induction b using Nat.strongRecOn with
  | ind b ih =>
    intro n hn h0 hm w
    by_cases h10 : n < 10
    · have hv : Lib.decDigits n.toNat = [UInt8.ofNat (48 + n.toNat)] := Lib.decDigits_one (by omega)
      have he := ext_digit n.toNat (by omega)
      rw [hv]
      obtain ⟨m, rfl⟩ := Int.eq_ofNat_of_zero_le h0
      rw [Int.toNat_natCast] at *
      have HE := Lib.hid he
      clear hv he ih
      go_enter Tryz.func84, Tryz.ntmps84
      go_wp2_with fail
      go_ret
      exact ⟨by show Ending.returned (.string _) = _; rw [HE.out], rfl⟩
    · have c := fun W => ih (n / 10).toNat (by omega) (n / 10) (Nat.le_refl _) (by omega) (by omega) W
      have hv : Lib.decDigits n.toNat = Lib.decDigits (n / 10).toNat ++ [UInt8.ofNat (48 + (n % 10).toNat)] := by
        rw [Lib.decDigits, dif_neg (by omega), show (n / 10).toNat = n.toNat / 10 by omega, show (n % 10).toNat = n.toNat % 10 by omega]
      have he := ext_digit (n % 10).toNat (by omega)
      rw [hv]
      have C := Lib.hid c; have HE := Lib.hid he
      have q0 : 0 ≤ n % 10 := by omega
      have q1 : n % 10 < 10 := by omega
      clear c hv ih he
      go_enter Tryz.func84, Tryz.ntmps84
      have hl := dec_len (n / 10) (by omega) (by omega)
      have e1 : (n % 10 + 1).toNat = (n % 10).toNat + 1 := by omega
      have HL := Lib.hid hl; have E1 := Lib.hid e1
      clear hl e1
      go_wp2_with (go_at_call 84; refine (C.out _).mono ?_; rintro e w1 ⟨rfl, rfl⟩)
      all_goals first
        | (exfalso; have := HL.out; omega)
        | (go_ret; exact ⟨by show Ending.returned (.string _) = _; rw [E1.out, HE.out, app_bytes], rfl⟩)
/-- numbers as text -/
theorem rdigits_any (n : Int) (h0 : 0 ≤ n) (hm : n ≤ 1000000000) (w : World) :
    Calls Tryz.prog 84 #[.int .i64 n] w fun e w' => e = .returned (.string ⟨(Lib.decDigits n.toNat).toArray⟩) ∧ w = w' := rdigits_nat n.toNat n (Nat.le_refl _) h0 hm w
set_option maxHeartbeats 400000 in
theorem rword_any (k n : Int) (s : ByteArray) (hs : s.size ≤ 1000000) (hk : 0 ≤ k ∧ k ≤ 2) (h0 : k = 0 → -1000000 ≤ n ∧ n ≤ 1000000) (w : World) :
    Calls Tryz.prog 58 #[.agg #[.int .i64 k, .int .i64 n, .string s]] w fun e w' => e = .returned (.string (wrd ⟨k, n, s⟩)) ∧ Below w.heap.size w w' := by
  obtain rfl | rfl | rfl : k = 0 ∨ k = 1 ∨ k = 2 := by omega
  · obtain ⟨b0, b1⟩ := h0 rfl
    have hv : wrd ⟨0, n, s⟩ = ⟨(Lib.itoa n).toArray⟩ := if_pos rfl
    rw [hv]
    clear hv h0
    by_cases hn : n < 0
    · have c := fun W => rdigits_any (-n) (by omega) (by omega) W
      have hi : Lib.itoa n = 45 :: Lib.decDigits (-n).toNat := by rw [Lib.itoa, if_pos hn]; congr 2; omega
      have hl := dec_len (-n) (by omega) (by omega)
      have C := Lib.hid c; have HI := Lib.hid hi; have HL := Lib.hid hl
      clear c hi hl
      go_enter Tryz.func58, Tryz.ntmps58
      go_wp2_with (go_at_call 84; refine (C.out _).mono ?_; rintro e w1 ⟨rfl, rfl⟩)
      all_goals first
        | (exfalso; have := HL.out; omega)
        | (go_ret; exact ⟨by show Ending.returned (.string _) = _; rw [HI.out, cons_bytes], (by repeat (first | exact Below.refl _ _ | assumption | refine bal ?_ _ | refine bdn ?_ _ | refine bdr ?_ | refine bcl ?_ (by assumption)))⟩)
    · have c := fun W => rdigits_any n (by omega) (by omega) W
      have hi : Lib.itoa n = Lib.decDigits n.toNat := by rw [Lib.itoa, if_neg hn]
      have C := Lib.hid c; have HI := Lib.hid hi
      clear c hi
      go_enter Tryz.func58, Tryz.ntmps58
      go_wp2_with (go_at_call 84; refine (C.out _).mono ?_; rintro e w1 ⟨rfl, rfl⟩)
      go_ret
      exact ⟨by rw [HI.out]; rfl, (by repeat (first | exact Below.refl _ _ | assumption | refine bal ?_ _ | refine bdn ?_ _ | refine bdr ?_ | refine bcl ?_ (by assumption)))⟩
  · have hv : wrd ⟨1, n, s⟩ = ⟨#[58]⟩ ++ s := by rw [wrd, if_neg (by simp), if_pos rfl]
    rw [hv]
    clear hv h0
    go_enter Tryz.func58, Tryz.ntmps58
    go_wp2_with fail
    go_ret
    exact ⟨rfl, (by repeat (first | exact Below.refl _ _ | assumption | refine bal ?_ _ | refine bdn ?_ _ | refine bdr ?_ | refine bcl ?_ (by assumption)))⟩
  · have hv : wrd ⟨2, n, s⟩ = ⟨#[42]⟩ := by rw [wrd, if_neg (by simp), if_neg (by simp)]
    rw [hv]
    clear hv h0
    go_enter Tryz.func58, Tryz.ntmps58
    go_wp2_with fail
    go_ret
    exact ⟨rfl, (by repeat (first | exact Below.refl _ _ | assumption | refine bal ?_ _ | refine bdn ?_ _ | refine bdr ?_ | refine bcl ?_ (by assumption)))⟩
theorem wrd_size (v : Va) (h : vaE v = 0) : (wrd v).size ≤ 21 := by
  obtain ⟨k, n, s⟩ := v
  unfold vaE at h
  unfold wrd
  simp only at h ⊢
  split at h
  · cases h
  · rename_i h1
    split at h
    · cases h
    · rename_i h2
      split at h
      · cases h
      · rename_i h3
        by_cases e0 : k = 0
        · rw [if_pos e0]
          have := Lib.itoa_length_le n (by omega) (by omega)
          simpa [ByteArray.size] using this
        · rw [if_neg e0]
          by_cases e1 : k = 1
          · rw [if_pos e1, ByteArray.size_append]
            have : (ByteArray.mk #[58]).size = 1 := rfl
            omega
          · rw [if_neg e1]; decide
theorem vaE_kind {v : Va} (h : vaE v = 0) : 0 ≤ v.k ∧ v.k ≤ 2 ∧ (v.k = 0 → -1000000 ≤ v.n ∧ v.n ≤ 1000000) ∧ v.s.size ≤ 12 := by
  unfold vaE at h
  split at h
  · cases h
  · rename_i h1
    split at h
    · cases h
    · rename_i h2
      split at h
      · cases h
      · rename_i h3
        refine ⟨by omega, by omega, fun h => by omega, ?_⟩
        by_cases e1 : v.k = 1
        · omega
        · have : ¬ 0 < v.s.size := fun h => h3 (.inr (.inl ⟨e1, h⟩))
          omega
/-- a value's number -/
def dgv (v : Va) : Int := hs (wrd v) (wrd v).size
end Go.Proofs.YtfelefkmbbfdjaaGreatDoor
