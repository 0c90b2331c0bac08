/- VaultTwice: the walk. -/
import Derived.Test.YtpmgmlmpiofnpaaDoorVaultGet
import Derived.Test.YtpmgmlmpiofnpaaDoorDoor
import Derived.WalkKit
import Derived.WalkLawsBesides
import Derived.WalkSpells
import Derived.RegionTactic
import Derived.Deep.DeepCutAuto
import Derived.Outline
namespace Go.Proofs.YtpmgmlmpiofnpaaDoor.vaultTwice
open Go.ChangeShapes Go.WideShapes Go.ChangeAt Go.RowKit Go.Deep
set_option linter.unusedVariables false

theorem same_errW (n : Int) (W : World) (h : HG W) : Calls Tryd.prog 13 #[errV n, .int .i64 n] W fun e w' => e = .returned (.bool true) ∧ Below W.heap.size W w' :=
  (same_err n W W (DG.refl h)).mono fun e w' ⟨h1, h2⟩ => ⟨h1, h2.2⟩
def K0 : ByteArray → Option (List Int) := fun _ => none
set_option maxHeartbeats 1600000 in
set_option maxRecDepth 100000 in
theorem walk (w : World) (hg : HG w) (t : ByteArray) (ht : t.size ≤ maxLen) (x : Int) (_ : I64 x) (y : Int) (_ : I64 y) :
    Calls Tryd.prog 9 #[.string t, .int .i64 x, .int .i64 y] w fun e w' => e = .returned (.bool true) ∧ Below w.heap.size w w' := by
  have HG0 := Lib.hid hg
  have cn := vtnew_ok 2 1 (by decide) (by decide) (by decide) w (base := w.heap.size) (Nat.le_refl _)
  have CN := Lib.hid cn
  have HT := Lib.hid ht
  clear hg cn
  have hK : ∀ s : ByteArray, K0 s = none := fun _ => rfl
  by_cases hE : vpE 0 2 1 K0 t x [] = 0
  · obtain ⟨h12, _, _, hsh, _⟩ := vpE_zero hE
    have hx := (shE_zero hsh).1
    have hx2 := inB_true.1 hx
    have hE2 : vpE 1 2 1 (fun s => if s = t then some [x] else K0 s) t y [] = 7 := by rw [vpE, if_neg (by omega), if_pos (by simp)]
    have hbad : badB 2 [((2 : Int), x)] 0 = false := badB_false.2 ⟨by simp [atB, ga], by simpa [gb] using hx⟩
    have hgd : gdL [x] [((2 : Int), x)] 1 = [((2 : Int), x)] := by
      rw [gdL, gdL]
      have h1 : hasB [] (ga [((2 : Int), x)] 0) (gb [((2 : Int), x)] 0) = false := rfl
      rw [h1, if_pos (by simp [ga, gb, hor_one x 2 hx])]
      simp [ga, gb]
    have hany : anyB (badB 2 [((2 : Int), x)]) [((2 : Int), x)].length = false := anyB_false.2 fun i hi => by
      have h0 : i = 0 := by simpa using hi
      rw [h0]; exact hbad
    have hget : vgE 2 1 [x] [((2 : Int), x)] = 0 := by
      rw [vgE, if_neg (by simp), if_neg (by rw [hany]; decide), if_neg (by rw [show [((2 : Int), x)].length = 1 from rfl, hgd]; simp)]
    have hval : vgV 1 [x] [((2 : Int), x)] = x := by rw [vgV_hor (many := 2) (by decide) hget rfl, hor_one x 0 hx]
    have cp := fun (W : World) (p M : Nat) (hV : Vlt W w.heap.size p M 0 2 1 K0) => vtput_ok hV t x none 0 [] Sl.zero hE
    have cp2 := fun (W : World) (p M : Nat) (hV : Vlt W w.heap.size p M 1 2 1 (fun s => if s = t then some [x] else K0 s)) => vtput_no hV t HT.out y none 0 [] (by simp) Sl.zero (by rw [hE2]; decide)
    rw [hE2] at cp2
    have cq := fun (W : World) (p M : Nat) (hV : Vlt W w.heap.size p M 1 2 1 (fun s => if s = t then some [x] else K0 s)) => vtpart_ok hV t HT.out 1 (by decide) [x] (by simp)
    rw [show ((1 : Nat) : Int) + 1 = 2 from rfl, hor_one x 2 hx] at cq
    have cg := fun (W : World) (p M : Nat) (A : Option Addr) (hV : Vlt W w.heap.size p M 1 2 1 (fun s => if s = t then some [x] else K0 s)) (hA : Shares W A [((2 : Int), x)]) => vtget_any hV t HT.out A 1 [((2 : Int), x)] (by simp) (by decide) hA [x] (by simp)
    rw [hget, if_pos rfl, hval] at cg
    have CP := Lib.hid cp; have CP2 := Lib.hid cp2; have CQ := Lib.hid cq; have CG := Lib.hid cg
    clear cp cp2 cq cg hE hsh hE2 hbad hgd hget hval hx hK
    go_enter Tryd.func9, Tryd.ntmps9
    go_wp2_with (first
      | (go_at_call 43; refine CN.out.mono ?_; rintro e w1 ⟨p, M, rfl, hV1, hb1⟩; have HV1 := Lib.hid hV1; have HB1 := Lib.hid hb1; clear hV1 hb1)
      | (go_at_call 44; refine (CP2.out _ _ _ HV2.out).mono ?_; rintro e w3 ⟨rfl, hb3⟩; have HV3 := Lib.hid (HV2.out.keep hb3); have HB3 := Lib.hid (bcl HB2.out hb3); clear hb3)
      | (go_at_call 44; refine (CP.out _ _ _ HV1.out).mono ?_; rintro e w2 ⟨rfl, hV2, hc2⟩; have HV2 := Lib.hid hV2; have HB2 := Lib.hid (HB1.out.trans (hc2.below (fun b hb => by rw [hb]; exact HV1.out.hM) HV1.out.hb)); clear hV2 hc2)
      | (go_at_call 45; refine (CQ.out _ _ _ HV3.out).mono ?_; rintro e w4 ⟨rfl, hb4⟩; have HV4 := Lib.hid (HV3.out.keep hb4); have HB4 := Lib.hid (bcl HB3.out hb4); clear hb4))
    obtain ⟨W5, hW5⟩ : ∃ W5, W5 = (w4.alloc (.cells #[.int .i64 2, .int .i64 x] 41)).alloc (.cells #[.int .i64 2, .int .i64 x] 41) := ⟨_, rfl⟩
    rw [← hW5]
    have hb45 : Below w4.heap.size w4 W5 := by rw [hW5]; exact bal (bal1 _ _) _
    have HS5 := Lib.hid (show Shares W5 (some ⟨w4.heap.size + 1, 0, none⟩) [((2 : Int), x)] by rw [hW5]; exact one_shares _ _ _ _ (by simp))
    have HV5 := Lib.hid (HV4.out.keep hb45)
    have HB5 := Lib.hid (bcl HB4.out hb45)
    have x1 : W5.cell? ⟨w4.heap.size, 1, none⟩ = some (.int .i64 x) := by rw [hW5, World.cell?_alloc_lt _ _ ⟨w4.heap.size, 1, none⟩ (by simp)]; simp
    have hl5 : w4.heap.size < W5.heap.size := lt_of_cell x1
    have X1 := Lib.hid x1
    clear hW5 hb45 x1
    refine (CG.out _ _ _ _ HV5.out HS5.out).mono ?_
    rintro e w6 ⟨rfl, hb6⟩
    have HB6 := Lib.hid (bcl HB5.out hb6)
    have HG6 := Lib.hid (HG0.out.below HB6.out)
    have y1 := (hb6.cell (p := ⟨w4.heap.size, 1, none⟩) hl5).trans X1.out
    clear hb6
    go_wp2_with (go_at_call 13; refine (same_errW 7 _ HG6.out).mono ?_; rintro e w7 ⟨rfl, hb7⟩; have HB7 := Lib.hid (bcl HB6.out hb7); have z1 := (hb7.cell (p := ⟨w4.heap.size, 1, none⟩) (lt_of_cell y1)).trans y1; clear hb7)
    go_ret
    exact ⟨ret_true (by first | rfl | (simp; done) | (simp; omega)), HB7.out⟩
  · have cp := fun (W : World) (p M : Nat) (hV : Vlt W w.heap.size p M 0 2 1 K0) => vtput_no hV t HT.out x none 0 [] (by simp) Sl.zero hE
    have hx : decide (12 < (t.size : Int)) = true ∨ (decide (12 < (t.size : Int)) = false ∧ (decide (x < 0) = true ∨ (decide (x < 0) = false ∧ decide (256 < x) = true))) := by
      simp only [decide_eq_true_eq, decide_eq_false_iff_not]
      rcases Nat.lt_or_ge 12 t.size with h | h
      · exact .inl (by omega)
      · refine .inr ⟨by omega, ?_⟩
        have hne : inB x ≠ true := fun hi => hE (by
          rw [vpE, if_neg (by omega), if_neg (by simp [K0]), if_neg (by simp), if_neg (by rw [shE_of hi (by simp) rfl (by decide) (by simp)]; decide), if_neg (by decide)])
        have hne2 : ¬ (0 ≤ x ∧ x < 257) := fun h => hne (inB_true.2 h)
        omega
    obtain ⟨E, hEE⟩ : ∃ E, vpE 0 2 1 K0 t x [] = E := ⟨_, rfl⟩
    rw [hEE] at cp
    have cq := fun (W : World) (p M : Nat) (hV : Vlt W w.heap.size p M 0 2 1 K0) => vtpart_none hV t HT.out 1 rfl
    have CP := Lib.hid cp; have CQ := Lib.hid cq
    clear cp cq hE hEE hK
    unfold maxLen at ht
    rcases hx with x1 | ⟨x1, x2 | ⟨x2, x3⟩⟩
    all_goals
      go_enter Tryd.func9, Tryd.ntmps9
      go_wp2_with (first
        | (go_at_call 43; refine CN.out.mono ?_; rintro e w1 ⟨p, M, rfl, hV1, hb1⟩; have HV1 := Lib.hid hV1; have HB1 := Lib.hid hb1; clear hV1 hb1)
        | (go_at_call 44; refine (CP.out _ _ _ HV1.out).mono ?_; rintro e w3 ⟨rfl, hb3⟩; have HV3 := Lib.hid (HV1.out.keep hb3); have HB3 := Lib.hid (bcl HB1.out hb3); clear hb3)
        | (go_at_call 45; refine (CQ.out _ _ _ HV3.out).mono ?_; rintro e w4 ⟨rfl, hb4⟩; have HB4 := Lib.hid (bal (bcl HB3.out hb4) (.cells #[.int .i64 0, .int .i64 0] 41)); have HG4 := Lib.hid (HG0.out.below HB4.out); clear hb4)
        | (go_at_call 13; refine (same_errW 5 _ HG4.out).mono ?_; rintro e w7 ⟨rfl, hb7⟩; have HB7 := Lib.hid (bcl HB4.out hb7); clear hb7))
      go_ret
      exact ⟨ret_true (by first | rfl | (simp; done) | (simp; omega)), HB7.out⟩
end Go.Proofs.YtpmgmlmpiofnpaaDoor.vaultTwice
