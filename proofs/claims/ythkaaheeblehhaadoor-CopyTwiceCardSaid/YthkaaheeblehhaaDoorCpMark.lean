/- Package mirror: Mark and Space. -/
import Derived.Test.YthkaaheeblehhaaDoorCpMem
import Derived.Test.YthkaaheeblehhaaDoorCpPure2
import Derived.Test.YthkaaheeblehhaaDoorHash
import Derived.Deep.RegionHeld3
namespace Go.Proofs.YthkaaheeblehhaaDoor
open Go.ChangeShapes Go.WideShapes Go.ChangeAt Go.RowKit Go.Maps Go.WideMaps
set_option linter.unusedVariables false

section
variable {w : World} {base p q m : Nat} {g : Option Nat} {R : List Ru} {s : Cs}
theorem cpspace_any (hC : Cpy w base p q g m R s) :
    Calls Tryd.prog 12 #[.pointer (some ⟨p, 0, none⟩)] w fun e w' => ∃ A' c', e = .returned (.slice A' s.L.length c') ∧ OMany Vals 22 40 w' w.heap.size A' c' s.L ∧ Below w.heap.size w w' := by
  obtain ⟨A, c, h1, _⟩ := hC.there
  have p1 : w.cell? ⟨p, 1, none⟩ = some (.pointer (some ⟨q, 0, none⟩)) := h1.cell rfl
  have ca := spall_any base q g s.L w hC.spc
  have CA := Lib.hid ca
  clear ca hC h1
  go_enter Tryd.func12, Tryd.ntmps12
  go_wp2_with (go_at_call 45; refine CA.out.mono ?_; rintro e w1 ⟨A1, c1, rfl, ho1, hb1⟩)
  go_ret
  exact ⟨A1, c1, rfl, ho1, hb1⟩
set_option maxHeartbeats 1600000 in
set_option maxRecDepth 100000 in
theorem cpmark_any (hC : Cpy w base p q g m R s) (ht : ∀ W, Below base w W → TT W) :
    Calls Tryd.prog 11 #[.pointer (some ⟨p, 0, none⟩)] w fun e w' => e = .returned (.tuple #[.int .i64 s.n, .int .i64 (mkV s)]) ∧ Below w.heap.size w w' := by
  obtain ⟨A, c, h1, _⟩ := hC.there
  have hpz := h1.lt
  have p1 : w.cell? ⟨p, 1, none⟩ = some (.pointer (some ⟨q, 0, none⟩)) := h1.cell rfl
  have p3 : w.cell? ⟨p, 3, none⟩ = some (.int .i64 s.n) := h1.cell rfl
  have ca := spall_any base q g s.L w hC.spc
  have hl20 := hC.ok.l20
  have hall : ∀ t ∈ s.L, tuE t = 0 := fun t ht => (hC.ok.ok t ht).2
  have hms := mkL_size hall
  have CA := Lib.hid ca; have HT := Lib.hid ht; have HALL := Lib.hid hall; have HB0 := Lib.hid hC.hb; have HMS := Lib.hid hms
  clear ca hC h1 ht hall hms
  go_enter Tryd.func11, Tryd.ntmps11
  go_wp2_with (go_at_call 45; refine CA.out.mono ?_; rintro e w1 ⟨A1, c1, rfl, ho1, hb1⟩; have HO1 := Lib.hid ho1; have HB1 := Lib.hid hb1; clear ho1 hb1)
  go_loopw [4, 6, 13] (fun s4 _ s13 wr => ∃ k : Nat, k ≤ s.L.length ∧ s13 = .int .i64 k ∧ s4 = .string (mkL (s.L.take k)) ∧ Hid (Below w1.heap.size w1 wr)) (fun _ _ s13 _ => s.L.length - (intOf s13).toNat)
  case atStart => exact ⟨0, Nat.zero_le _, rfl, rfl, (by repeat (first | exact Below.refl _ _ | assumption | refine bal ?_ _ | refine bdn ?_ _ | refine bdr ?_ | refine bcl ?_ (by assumption)))⟩
  case round =>
    obtain ⟨k, hk, rfl, rfl, HB⟩ := hrel
    by_cases hlt : k < s.L.length
    · obtain ⟨b, B, C, rfl, hcc, hv, hC1, hC2, _⟩ := (HO1.out.keep vals_stay HB1.out.size HB.out).vat hlt
      have htu := HALL.out _ (gg_mem hlt)
      obtain ⟨_, h5, hrg⟩ := rgt_of (tuE_zero htu).1
      have cw := tword_any B C (gg s.L k) (by omega) hrg wr hv (HT.out wr ((HB1.out.mono HB0.out).trans (HB.out.mono (Nat.le_trans HB0.out HB1.out.size))))
      have i0 : (0 : Int) ≤ (k : Int) := by omega
      have i1 : (k : Int) < (s.L.length : Nat) := by omega
      have hn := mkL_take hlt
      have hs1 : (mkL (s.L.take k)).size ≤ 3000 := by
        have h1 := mkL_size (L := s.L.take k) fun t ht => HALL.out t (List.mem_of_mem_take ht)
        have h2 : (s.L.take k).length ≤ 20 := by rw [List.length_take]; omega
        omega
      have hs2 := lin_small htu
      have CW := Lib.hid cw; have HN := Lib.hid hn; have HS1 := Lib.hid hs1; have HS2 := Lib.hid hs2
      generalize lin (gg s.L k) = tx at *
      generalize mkL (s.L.take k) = ty at *
      clear cw hv htu h5 hrg hn hs1 hs2
      go_wp2_with (go_at_call 46; refine CW.out.mono ?_; rintro e w3 ⟨rfl, hb3⟩)
      all_goals first
        | (exfalso; have := HS1.out; have := HS2.out; simp at *; omega)
        | (go_wp2_with fail
           go_roundw
           case rel => exact ⟨k + 1, by omega, by go_num, by rw [HN.out], Lib.hid (bcl HB.out hb3)⟩
           case measure => simp [intOf]; omega)
    · obtain rfl : k = s.L.length := by omega
      rw [List.take_length]
      have cd := fun W => digof_any (mkL s.L) (by have := HMS.out; unfold maxLen; omega) W
      have CD := Lib.hid cd
      clear cd
      have hbw := bcl HB1.out HB.out
      have r3 := (hbw.cell (p := ⟨p, 3, none⟩) hpz).trans p3
      have hpr : p < wr.heap.size := Nat.lt_of_lt_of_le hpz hbw.size
      have HBW := Lib.hid hbw
      clear hbw
      go_wp2_with fail
      go_region_held3 (fun w' => w'.cell? ⟨p, 3, none⟩ = some (.int .i64 s.n)) (first | go_keep | exact (hb4.cell (p := ⟨p, 3, none⟩) hpr).trans r3) ((go_at_call 47; refine (CD.out _).mono ?_; rintro e w4 ⟨rfl, hb4⟩))
      go_wp2_with fail
      go_ret2
      exact ⟨rfl, bcl (bdr HBW.out) hb4⟩
end
end Go.Proofs.YthkaaheeblehhaaDoor
