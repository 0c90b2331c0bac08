/- Values as text: value.Word, Print; the reference's Digits, Word; digest.Value. -/
import Derived.Test.YthkaaheeblehhaaDoorHash
import Derived.Test.YthkaaheeblehhaaDoorVRef
import Derived.Test.YthkaaheeblehhaaDoorVArg
import Derived.Test.YthkaaheeblehhaaDoorShelf
import Derived.Lib.ItoaLen
import Derived.Lib.SmallJoins
namespace Go.Proofs.YthkaaheeblehhaaDoor
open Go.RowKit Go.Joins
set_option linter.unusedVariables false

def TT (w : World) : Prop := Lib.TabIs Tryd.prog w "internal/strconv.uint64pow10" .u64 Lib.pow10Tab
theorem grow_below (w : World) (os : Array Obj) : Below w.heap.size w (Sort.grow w os) := ⟨rfl, rfl, rfl, by simp [Sort.grow], fun b hb => by simp [Sort.grow, Array.getElem?_append_left hb]⟩
theorem itoa_any (n : Int) (h0 : -9223372036854775808 ≤ n) (h1 : n ≤ 9223372036854775807) (w : World) (ht : TT w) :
    Calls Tryd.prog 101 #[.int .i64 n] w fun e w' => e = .returned (.string ⟨(Lib.itoa n).toArray⟩) ∧ Below w.heap.size w w' :=
  (Tryd.strconv_Itoa n h0 h1 w ht).mono fun e w' ⟨h2, k, os, h3⟩ => ⟨h2, by rw [h3]; exact (bdn (Below.refl w.heap.size w) k).trans ((grow_below (w.drewN k) os).mono (by simp))⟩
/-- a value's text -/
def wrd (v : Va) : ByteArray := if v.k = 0 then ⟨(Lib.itoa v.n).toArray⟩ else if v.k = 1 then ⟨#[58]⟩ ++ v.s else ⟨#[42]⟩
set_option maxHeartbeats 400000 in
theorem vword_any (k n : Int) (s : ByteArray) (hs : s.size ≤ 1000000) (h0 : -9223372036854775808 ≤ n) (h1 : n ≤ 9223372036854775807) (w : World) (ht : k = 0 → TT w) :
    Calls Tryd.prog 81 #[.agg #[.int .i64 k, .int .i64 n, .string s]] w fun e w' => e = .returned (.string (wrd ⟨k, n, s⟩)) ∧ Below w.heap.size w w' := by
  by_cases e0 : k = 0
  · subst e0
    have hv : wrd ⟨0, n, s⟩ = ⟨(Lib.itoa n).toArray⟩ := if_pos rfl
    have ci := fun W (hW : TT W) => itoa_any n h0 h1 W hW
    have htw := tab_stays (g := 2) (by kernel_rfl) (ht rfl) (bal1 w (.cells #[.int .i64 0, .int .i64 n, .string s] 40)) (Nat.le_refl _)
    rw [hv]
    have CI := Lib.hid ci; have HT := Lib.hid htw; clear ci hv ht htw
    go_enter Tryd.func81, Tryd.ntmps81
    go_wp2_with (go_at_call 101; refine (CI.out _ HT.out).mono ?_; rintro e w1 ⟨rfl, hb1⟩)
    go_ret
    exact ⟨rfl, (by repeat (first | exact Below.refl _ _ | assumption | refine bal ?_ _ | refine bdn ?_ _ | refine bdr ?_ | refine bcl ?_ (by assumption)))⟩
  · have hq : (k == 0) = false := beq_eq_false_iff_ne.2 e0
    by_cases e1 : k = 1
    · subst e1
      have hv : wrd ⟨1, n, s⟩ = ⟨#[58]⟩ ++ s := by rw [wrd, if_neg (by simp), if_pos rfl]
      rw [hv]
      clear hv ht e0
      go_enter Tryd.func81, Tryd.ntmps81
      go_wp2_with fail
      go_ret
      exact ⟨rfl, (by repeat (first | exact Below.refl _ _ | assumption | refine bal ?_ _ | refine bdn ?_ _ | refine bdr ?_ | refine bcl ?_ (by assumption)))⟩
    · have hq1 : (k == 1) = false := beq_eq_false_iff_ne.2 e1
      have hv : wrd ⟨k, n, s⟩ = ⟨#[42]⟩ := by rw [wrd, if_neg e0, if_neg e1]
      rw [hv]
      clear hv ht e0 e1
      go_enter Tryd.func81, Tryd.ntmps81
      go_wp2_with fail
      go_ret
      exact ⟨rfl, (by repeat (first | exact Below.refl _ _ | assumption | refine bal ?_ _ | refine bdn ?_ _ | refine bdr ?_ | refine bcl ?_ (by assumption)))⟩
theorem app_bytes (l : List UInt8) (d : UInt8) : (ByteArray.mk l.toArray) ++ ⟨#[d]⟩ = ⟨(l ++ [d]).toArray⟩ := bytes_eq (by simp [ByteArray.data_append])
theorem cons_bytes (l : List UInt8) (d : UInt8) : (ByteArray.mk #[d]) ++ ⟨l.toArray⟩ = ⟨(d :: l).toArray⟩ := bytes_eq (by simp [ByteArray.data_append])
theorem dec_len (n : Int) (h0 : 0 ≤ n) (h1 : n ≤ 1000000000) : (Lib.decDigits n.toNat).length ≤ 21 := by
  have := Lib.itoa_length_le n (by omega) (by omega)
  rwa [Lib.itoa, if_neg (by omega)] at this
theorem ext_digit (n : Nat) (h : n < 10) : (ByteArray.mk #[48, 49, 50, 51, 52, 53, 54, 55, 56, 57]).extract n (n + 1) = ⟨#[UInt8.ofNat (48 + n)]⟩ := by
  rcases (show n = 0 ∨ n = 1 ∨ n = 2 ∨ n = 3 ∨ n = 4 ∨ n = 5 ∨ n = 6 ∨ n = 7 ∨ n = 8 ∨ n = 9 by omega) with rfl | rfl | rfl | rfl | rfl | rfl | rfl | rfl | rfl | rfl <;> rfl
theorem wrd_size (v : Va) (h : vaE v = 0) : (wrd v).size ≤ 21 := by
  obtain ⟨k, n, s⟩ := v
  unfold vaE at h
  unfold wrd
  simp only at h ⊢
  split at h
  · cases h
  · rename_i h1
    split at h
    · cases h
    · rename_i h2
      split at h
      · cases h
      · rename_i h3
        by_cases e0 : k = 0
        · rw [if_pos e0]
          have := Lib.itoa_length_le n (by omega) (by omega)
          simpa [ByteArray.size] using this
        · rw [if_neg e0]
          by_cases e1 : k = 1
          · rw [if_pos e1, ByteArray.size_append]
            have : (ByteArray.mk #[58]).size = 1 := rfl
            omega
          · rw [if_neg e1]; decide
theorem vaE_kind {v : Va} (h : vaE v = 0) : 0 ≤ v.k ∧ v.k ≤ 2 ∧ (v.k = 0 → -1000000 ≤ v.n ∧ v.n ≤ 1000000) ∧ v.s.size ≤ 12 := by
  unfold vaE at h
  split at h
  · cases h
  · rename_i h1
    split at h
    · cases h
    · rename_i h2
      split at h
      · cases h
      · rename_i h3
        refine ⟨by omega, by omega, fun h => by omega, ?_⟩
        by_cases e1 : v.k = 1
        · omega
        · have : ¬ 0 < v.s.size := fun h => h3 (.inr (.inl ⟨e1, h⟩))
          omega
/-- a value's number -/
def dgv (v : Va) : Int := hs (wrd v) (wrd v).size
end Go.Proofs.YthkaaheeblehhaaDoor
