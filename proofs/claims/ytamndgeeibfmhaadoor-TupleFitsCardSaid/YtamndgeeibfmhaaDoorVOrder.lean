/- value.Order: what it returns. -/
import Derived.Test.YtamndgeeibfmhaaDoorTuple
import Derived.Test.YtamndgeeibfmhaaDoorShelf
import Derived.Deep.RegionHeld3
import Derived.Outline
namespace Go.Proofs.YtamndgeeibfmhaaDoor
open Go.RowKit
set_option linter.unusedVariables false

def cmpI (x y : Int) : Int := if x < y then -1 else if y < x then 1 else 0
theorem cmp_any (x y : Int) (w : World) : Calls Tryd.prog 36 #[.int .i64 x, .int .i64 y] w fun e w' => e = .returned (.int .i64 (cmpI x y)) ∧ w = w' := by
  by_cases h1 : x < y
  · have hv : cmpI x y = -1 := by rw [cmpI, if_pos h1]
    rw [hv]
    clear hv
    go_enter Tryd.func36, Tryd.ntmps36
    go_wp2
    go_ret
    exact ⟨rfl, rfl⟩
  · by_cases h2 : y < x
    · have hv : cmpI x y = 1 := by rw [cmpI, if_neg h1, if_pos h2]
      rw [hv]
      clear hv
      go_enter Tryd.func36, Tryd.ntmps36
      go_wp2
      go_ret
      exact ⟨rfl, rfl⟩
    · have hv : cmpI x y = 0 := by rw [cmpI, if_neg h1, if_neg h2]
      rw [hv]
      clear hv
      go_enter Tryd.func36, Tryd.ntmps36
      go_wp2
      go_ret
      exact ⟨rfl, rfl⟩
/-- the first of three that is not nought -/
def or3 (a b c : Int) : Int := if a ≠ 0 then a else if b ≠ 0 then b else c
set_option maxHeartbeats 400000 in
theorem or_any (A : Option Addr) (cap : Nat) (a b c : Int) (w : World) (hA : Ints w A [a, b, c]) :
    Calls Tryd.prog 35 #[.slice A 3 cap] w fun e w' => e = .returned (.int .i64 (or3 a b c)) ∧ w = w' := by
  obtain ⟨g, off, rfl, _, k0⟩ := hA.at_ (i := 0) (by simp)
  obtain ⟨g1, off1, e, _, k1⟩ := hA.at_ (i := 1) (by simp)
  simp only [Option.some.injEq, Addr.mk.injEq, and_true] at e
  obtain ⟨rfl, rfl⟩ := e
  obtain ⟨g1, off1, e, _, k2⟩ := hA.at_ (i := 2) (by simp)
  simp only [Option.some.injEq, Addr.mk.injEq, and_true] at e
  obtain ⟨rfl, rfl⟩ := e
  simp only [gi, List.getD_cons_zero, List.getD_cons_succ, Nat.add_zero] at k0 k1 k2
  clear hA
  by_cases h1 : a = 0
  · by_cases h2 : b = 0
    · by_cases h3 : c = 0
      · subst h1; subst h2; subst h3
        go_enter Tryd.func35, Tryd.ntmps35
        go_wp2
        refine wp_loop_rounds 4 ?_
        repeat any_goals (rw [rounds_succ]; go_wp2)
        go_ret
        exact ⟨rfl, rfl⟩
      · subst h1; subst h2
        have hv : or3 0 0 c = c := rfl
        rw [hv]
        have hq : (c != 0) = true := by rw [bne_iff_ne]; exact h3
        clear hv h3
        go_enter Tryd.func35, Tryd.ntmps35
        go_wp2
        refine wp_loop_rounds 4 ?_
        repeat any_goals (rw [rounds_succ]; go_wp2)
        go_ret
        exact ⟨rfl, rfl⟩
    · subst h1
      have hv : or3 0 b c = b := by rw [or3, if_neg (by simp), if_pos h2]
      rw [hv]
      have hq : (b != 0) = true := by rw [bne_iff_ne]; exact h2
      clear hv h2
      go_enter Tryd.func35, Tryd.ntmps35
      go_wp2
      refine wp_loop_rounds 4 ?_
      repeat any_goals (rw [rounds_succ]; go_wp2)
      go_ret
      exact ⟨rfl, rfl⟩
  · have hv : or3 a b c = a := by rw [or3, if_pos h1]
    rw [hv]
    have hq : (a != 0) = true := by rw [bne_iff_ne]; exact h1
    clear hv h1
    go_enter Tryd.func35, Tryd.ntmps35
    go_wp2
    refine wp_loop_rounds 4 ?_
    repeat any_goals (rw [rounds_succ]; go_wp2)
    go_ret
    exact ⟨rfl, rfl⟩

/-- which of two comes first -/
def ordI (a b : Va) : Int := or3 (cmpI a.k b.k) (cmpI a.n b.n) (Lib.compareBytes a.s.data.toList b.s.data.toList)
set_option maxHeartbeats 400000 in
theorem order_any (k n : Int) (s : ByteArray) (k2 n2 : Int) (s2 : ByteArray) (hs : s.size ≤ maxLen) (hs2 : s2.size ≤ maxLen) (w : World) :
    Calls Tryd.prog 9 #[.agg #[.int .i64 k, .int .i64 n, .string s], .agg #[.int .i64 k2, .int .i64 n2, .string s2]] w fun e w' => e = .returned (.tuple #[.int .i64 (if twoE ⟨k, n, s⟩ ⟨k2, n2, s2⟩ = 0 then ordI ⟨k, n, s⟩ ⟨k2, n2, s2⟩ else 0), eV (twoE ⟨k, n, s⟩ ⟨k2, n2, s2⟩)]) ∧ Below w.heap.size w w' := by
  have c2 := fun W => two_any k n s k2 n2 s2 hs hs2 W
  by_cases h : twoE ⟨k, n, s⟩ ⟨k2, n2, s2⟩ = 0
  · rw [h, eV_zero, if_pos rfl]
    rw [h, eV_zero] at c2
    have hv : ordI ⟨k, n, s⟩ ⟨k2, n2, s2⟩ = or3 (cmpI k k2) (cmpI n n2) (Lib.compareBytes s.data.toList s2.data.toList) := rfl
    rw [hv]
    have cs := fun W => Tryd.strings_Compare s s2 W
    generalize Lib.compareBytes s.data.toList s2.data.toList = Z at *
    have C2 := Lib.hid c2; have CS := Lib.hid cs; clear c2 cs hv h
    go_enter Tryd.func9, Tryd.ntmps9
    go_wp2_with fail
    refine (C2.out _).mono ?_
    rintro e w1 ⟨rfl, hb1⟩
    have p0 : w1.cell? ⟨w.heap.size, 0, none⟩ = some (.int .i64 k) := (hb1.cell (p := ⟨w.heap.size, 0, none⟩) (by simp; omega)).trans (by simp)
    have p1 : w1.cell? ⟨w.heap.size, 1, none⟩ = some (.int .i64 n) := (hb1.cell (p := ⟨w.heap.size, 1, none⟩) (by simp; omega)).trans (by simp)
    have p2 : w1.cell? ⟨w.heap.size, 2, none⟩ = some (.string s) := (hb1.cell (p := ⟨w.heap.size, 2, none⟩) (by simp; omega)).trans (by simp)
    have r0 : w1.cell? ⟨w.heap.size + 1, 0, none⟩ = some (.int .i64 k2) := (hb1.cell (p := ⟨w.heap.size + 1, 0, none⟩) (by simp)).trans (by simp)
    have r1 : w1.cell? ⟨w.heap.size + 1, 1, none⟩ = some (.int .i64 n2) := (hb1.cell (p := ⟨w.heap.size + 1, 1, none⟩) (by simp)).trans (by simp)
    have r2 : w1.cell? ⟨w.heap.size + 1, 2, none⟩ = some (.string s2) := (hb1.cell (p := ⟨w.heap.size + 1, 2, none⟩) (by simp)).trans (by simp)
    have hb1' : Below w.heap.size w w1 := bcl (bal (bal1 _ _) _) hb1
    clear hb1
    go_wp2_with fail
    go_region_held3 (fun w' => w'.cell? ⟨w.heap.size, 0, none⟩ = some (.int .i64 k) ∧ w'.cell? ⟨w.heap.size, 1, none⟩ = some (.int .i64 n) ∧ w'.cell? ⟨w.heap.size, 2, none⟩ = some (.string s) ∧ w'.cell? ⟨w.heap.size + 1, 0, none⟩ = some (.int .i64 k2) ∧ w'.cell? ⟨w.heap.size + 1, 1, none⟩ = some (.int .i64 n2) ∧ w'.cell? ⟨w.heap.size + 1, 2, none⟩ = some (.string s2)) (go_keep)
      (first
        | (go_at_call 36; refine (cmp_any _ _ _).mono ?_; rintro e w' ⟨rfl, rfl⟩)
        | (go_at_call 37; refine (CS.out _).mono ?_; rintro e w' ⟨rfl, rfl⟩)
        | (go_at_call 35; refine (or_any _ _ _ _ _ _ (by first | exact Sl.drew (lit_ints _ [_, _, _] _ (by simp)) | exact lit_ints _ [_, _, _] _ (by simp))).mono ?_; rintro e w' ⟨rfl, rfl⟩))
    go_wp2_with fail
    go_ret2
    exact ⟨rfl, (by repeat (first | exact Below.refl _ _ | assumption | refine bal ?_ _ | refine bdn ?_ _ | refine bdr ?_ | refine bcl ?_ (by assumption)))⟩
  · rw [eV_of h, if_neg h]
    rw [eV_of h] at c2
    generalize twoE ⟨k, n, s⟩ ⟨k2, n2, s2⟩ = E at *
    have C2 := Lib.hid c2; clear c2 h
    go_enter Tryd.func9, Tryd.ntmps9
    go_wp2_with (go_at_call 34; refine (C2.out _).mono ?_; rintro e w1 ⟨rfl, hb1⟩)
    go_ret2
    exact ⟨rfl, (by repeat (first | exact Below.refl _ _ | assumption | refine bal ?_ _ | refine bdn ?_ _ | refine bdr ?_ | refine bcl ?_ (by assumption)))⟩
end Go.Proofs.YtamndgeeibfmhaaDoor
