/- LeaseEnds: the walk. -/
import Derived.Test.YthpemlhlgjdnkaaDoorLeEnd
import Derived.Deep.CutBlock
import Derived.Deep.RegionHeld3
import Derived.Test.YthpemlhlgjdnkaaDoorDoor
import Derived.WalkKit
import Derived.WalkLawsBesides
import Derived.WalkSpells
import Derived.RegionTactic
import Derived.Deep.DeepCutAuto
import Derived.Outline
namespace Go.Proofs.YthpemlhlgjdnkaaDoor.leaseEnds
open Go.ChangeShapes Go.WideShapes Go.ChangeAt Go.RowKit Go.Maps Go.WideMaps
set_option linter.unusedVariables false

theorem lit1 (W : World) {g : Nat} (hg : g = W.heap.size) : Vals (W.alloc (.cells #[.int .i64 0, .int .i64 5, .string ⟨#[]⟩] 28)) (some ⟨g, 0, none⟩) [v5'] := lit_vals W [v5'] 28 hg
theorem lit1I (W : World) (base : Nat) : Inn (W.alloc (.cells #[.int .i64 0, .int .i64 5, .string ⟨#[]⟩] 28)) base 28 (some ⟨W.heap.size, 0, none⟩) := fun a ha => by
  cases ha; exact .inr (AtB.new _ _ _).kin
theorem same_err7 (n : Int) (W : World) (h : HG W) : Calls Tryd.prog 24 #[errV n, .int .i64 n] W fun e w' => e = .returned (.bool true) ∧ Below W.heap.size W w' :=
  (same_err n W W (DG.refl h)).mono fun e w' ⟨h1, h2⟩ => ⟨h1, h2.2⟩
/-- what is found of one -/
theorem read_one (base p : Nat) (g : Option Nat) (T last u : Int) (A : Option Addr) (c : Nat) (t : List Va) (hm : t.length ≤ maxLen) (hok : okL t) (ht : liE t = 0) (w : World) (hQ : Les w base p g T last [⟨1, u, t⟩]) (hA : Vals w A t) :
    Calls Tryd.prog 47 #[.pointer (some ⟨p, 0, none⟩), .slice A t.length c] w fun e w' => ∃ A2 c2, e = .returned (.tuple #[.slice A2 t.length c2, .nilIface]) ∧ Vals w' A2 t ∧ Below w.heap.size w w' := by
  have h := lread_any base p g T last _ A c t hm hok w hQ hA
  have e0 : lpl t [⟨1, u, t⟩] = 0 := idx_some (k := 1) (by simp [fst', ong, fitB_self]) (by simp)
  have e1 : lreE t [⟨1, u, t⟩] = 0 := by rw [lreE, if_neg (by rw [ht]; decide), e0]; rfl
  have e2 : lreV t [⟨1, u, t⟩] = t := by rw [lreV, e1, if_pos rfl, e0]; rfl
  rw [e1, e2, eV_zero] at h
  exact h.mono fun e w' ⟨A2, c2, h1, h2, h3⟩ => ⟨A2, c2, h1, h2.vals, h3⟩
theorem read_none (base p : Nat) (g : Option Nat) (T last : Int) (A : Option Addr) (c : Nat) (t : List Va) (hm : t.length ≤ maxLen) (hok : okL t) (ht : liE t = 0) (w : World) (hQ : Les w base p g T last []) (hA : Vals w A t) :
    Calls Tryd.prog 47 #[.pointer (some ⟨p, 0, none⟩), .slice A t.length c] w fun e w' => ∃ A2 c2, e = .returned (.tuple #[.slice A2 0 c2, errV 5]) ∧ Below w.heap.size w w' := by
  have h := lread_any base p g T last _ A c t hm hok w hQ hA
  have e1 : lreE t [] = 5 := by rw [lreE, if_neg (by rw [ht]; decide)]; rfl
  have e2 : lreV t [] = [] := by rw [lreV, e1]; rfl
  rw [e1, e2] at h
  exact h.mono fun e w' ⟨A2, c2, h1, h2, h3⟩ => ⟨A2, c2, h1, h3⟩
theorem renew_none (base p : Nat) (g : Option Nat) (T last : Int) (w : World) (hQ : Les w base p g T last []) :
    Calls Tryd.prog 46 #[.pointer (some ⟨p, 0, none⟩), .int .i64 1, .int .i64 10000] w fun e w' => e = .returned (errV 5) ∧ Below base w w' := by
  have h := lrenew_any base p g T last 1 10000 [] w hQ
  have e1 : lrE T [] 1 10000 = 5 := rfl
  rw [e1] at h
  exact h.mono fun e w' ⟨h1, _, h3⟩ => ⟨h1, hQ.below h3⟩
set_option maxHeartbeats 3200000 in
set_option maxRecDepth 100000 in
theorem walk (w : World) (hg : HG w) (A : Option Addr) (c : Nat) (t : List Va) (hc : t.length ≤ c) (hm : c ≤ maxLen) (hA : Vals w A t) (hok : okL t) (u : Int) (hu : I64 u) (more : Int) (_ : I64 more) (time : Int) (_ : I64 time) :
    Calls Tryd.prog 11 #[.slice A t.length c, .int .i64 u, .int .i64 more, .int .i64 time] w fun e w' => e = .returned (.bool true) ∧ Below w.heap.size w w' := by
  have HG0 := Lib.hid hg
  have hm' : t.length ≤ maxLen := by omega
  have HA := Lib.hid (Vin.of_arg hA (Nat.le_refl _)); have HU := Lib.hid hu; have HM := Lib.hid hm'; have HOK := Lib.hid hok
  clear hg hA hu hm hc hm' hok
  go_enter Tryd.func11, Tryd.ntmps11
  go_wp2_with fail
  refine (lnew_any w (Nat.le_refl _)).mono ?_
  rintro e w1 ⟨p, rfl, q1, b1, _⟩
  have Q1 := Lib.hid (q1.keep (bal1 w1 (.cells #[.int .i64 0, .int .i64 5, .string ⟨#[]⟩] 28)))
  have V1 := Lib.hid (lit1 w1 rfl)
  have B1 := Lib.hid (bal b1 (.cells #[.int .i64 0, .int .i64 5, .string ⟨#[]⟩] 28))
  have Z1 := Lib.hid b1.size
  clear q1 b1
  go_wp2_with fail
  refine (ends_put w.heap.size p _ 1 _ Q1.out ⟨V1.out, fun _ => lit1I _ _⟩).mono ?_
  rintro e w2 ⟨rfl, g2, q2, b2⟩
  have B2 := Lib.hid (B1.out.trans b2)
  clear V1 Q1 B1 Z1 b2
  go_wp2_with fail
  refine (ends_nine w.heap.size p g2 _ q2).mono ?_
  rintro e w3 ⟨rfl, q3, b3⟩
  have B3 := Lib.hid (B2.out.trans b3)
  clear B2 b3 q2
  go_wp2_with fail
  refine (ends_ten w.heap.size p g2 _ q3).mono ?_
  rintro e w4 ⟨rfl, q4, b4⟩
  have B4 := Lib.hid (B3.out.trans b4)
  clear B3 b4 q3
  go_wp2_with fail
  refine (lcount_any w.heap.size p g2 _ _ _ _ q4).mono ?_
  rintro e w4' ⟨rfl, rfl⟩
  clear q4
  go_wp2_with fail
  refine (lnew_any w4 (base := w.heap.size) B4.out.size).mono ?_
  rintro e w5 ⟨p5, rfl, q5, b5, _⟩
  have B5 := Lib.hid (bcl B4.out b5)
  have V5 := Lib.hid (HA.out.below (bcl B4.out b5) (Nat.le_refl _) (Nat.le_refl _))
  clear B4 b5
  go_wp2_with fail
  refine (ends_new w.heap.size p5 u A c t HM.out HOK.out HU.out w5 q5 V5.out).mono ?_
  rintro e w6 ⟨rfl, g6, q6, b6, v6⟩
  have B6 := Lib.hid (B5.out.trans b6)
  clear B5 b6 V5 q5
  by_cases h0 : tuE t = 0
  · have hl := (tuE_zero h0).1
    cases ha : ahB 0 u with
    | false =>
      have h1 : lpE 0 0 [] u t = 1 := by rw [lpE, if_neg (by rw [h0]; decide), if_pos ha]
      have ct := tcheck_any A c t HM.out HOK.out w6 v6.1
      rw [h0, eV_zero] at ct
      have CT := Lib.hid ct
      have hu2 : u < 1 ∨ 10000 < u := by
        unfold ahB at ha
        rw [Bool.and_eq_false_iff] at ha
        rcases ha with h | h <;> have := of_decide_eq_false h <;> omega
      rw [h1, if_neg (by decide), show eV 1 = errV 1 from rfl]
      clear ct h1 h0 q6 v6 ha hl
      by_cases h3 : u < 1
      · have d3 : decide (u < 1) = true := decide_eq_true h3
        clear hu2 h3
        go_wp2_with (go_at_call 45; refine CT.out.mono ?_; rintro e w7 ⟨rfl, b7⟩)
        go_ret
        exact ⟨rfl, bcl B6.out b7⟩
      · have d3 : decide (u < 1) = false := decide_eq_false h3
        have d4 : decide (10000 < u) = true := decide_eq_true (by omega)
        clear hu2 h3
        go_wp2_with (go_at_call 45; refine CT.out.mono ?_; rintro e w7 ⟨rfl, b7⟩)
        go_ret
        exact ⟨rfl, bcl B6.out b7⟩
    | true =>
      have h1 : lpE 0 0 [] u t = 0 := by rw [lpE, if_neg (by rw [h0]; decide), ha]; rfl
      rw [h1, if_pos rfl, eV_zero]
      rw [h1, if_pos rfl, if_pos rfl] at q6
      have HL := Lib.hid hl
      clear h1 h0 hl ha
      by_cases hr : lrE 0 [⟨1, u, t⟩] 1 more = 0
      · have hmu : decide (more < u) = false := by
          rw [lrE_one] at hr
          by_cases h : ahB 0 more = false ∨ more < u
          · rw [if_pos h] at hr; cases hr
          · exact decide_eq_false (fun k => h (.inr k))
        have cr := ends_renew w.heap.size p5 g6 u more A t w6 q6 v6
        rw [endU, hr, if_pos rfl, eV_zero] at cr
        have CR := Lib.hid cr
        clear cr hr q6 v6
        go_wp2_with (go_at_call 46; refine CR.out.mono ?_; rintro e w7 ⟨rfl, q7, b7, v7⟩; have B7 := Lib.hid (B6.out.trans b7); clear b7)
        by_cases hn : nowE 0 time = 0
        · have hn' : 0 ≤ time ∧ time ≤ 10000 := by unfold nowE at hn; by_cases hh : time < 0 ∨ 10000 < time <;> simp [hh] at hn <;> omega
          have cn := ends_now w.heap.size p5 g6 more time A t w7 q7 v7
          rw [hn, if_pos rfl, eV_zero] at cn
          by_cases he : more ≤ time
          · rw [if_pos he] at cn
            simp only [if_pos he, true_implies] at cn
            have d5 : decide (time < more) = false := decide_eq_false (by omega)
            have CN := Lib.hid cn
            clear cn he hn hn' q7 v7
            go_wp2_with (go_at_call 43; refine CN.out.mono ?_; rintro e w8 ⟨rfl, q8, b8, v8⟩; have B8 := Lib.hid (B7.out.trans b8); clear b8)
            refine (read_none w.heap.size p5 g6 _ _ A c t HM.out HOK.out HL.out w8 q8 v8.1).mono ?_
            rintro e w9 ⟨A9, c9, rfl, b9⟩
            have q9 := q8.keep b9
            have B9 := Lib.hid (bcl B8.out b9)
            clear q8 v8 b9 B8
            go_wp2_with (first | (go_at_call 24; refine (same_err7 5 _ (HG0.out.below B9.out)).mono ?_; rintro e w10 ⟨rfl, b10⟩; have q10 := q9.keep b10; have B10 := Lib.hid (bcl B9.out b10); clear b10) )
            refine (renew_none w.heap.size p5 g6 _ _ w10 q10).mono ?_
            rintro e w11 ⟨rfl, b11⟩
            have B11 := Lib.hid (B10.out.trans b11)
            clear B9 B10 b11 q9 q10
            go_wp2_with (first | (go_at_call 24; refine (same_err7 5 _ (HG0.out.below B11.out)).mono ?_; rintro e w12 ⟨rfl, b12⟩) )
            go_ret
            exact ⟨rfl, bcl B11.out b12⟩
          · rw [if_neg he] at cn
            simp only [if_neg he, true_implies] at cn
            have d5 : decide (time < more) = true := decide_eq_true (by omega)
            have CN := Lib.hid cn
            clear cn he hn hn' q7 v7
            go_wp2_with (go_at_call 43; refine CN.out.mono ?_; rintro e w8 ⟨rfl, q8, b8, v8⟩; have B8 := Lib.hid (B7.out.trans b8); clear b8)
            refine (read_one w.heap.size p5 g6 _ _ _ A c t HM.out HOK.out HL.out w8 q8 v8.1).mono ?_
            rintro e w9 ⟨A9, c9, rfl, v9, b9⟩
            have cs := same_tuple A9 A c9 c t t w9 v9 (v8.1.below b9 (Nat.le_refl _)) HM.out
            rw [decide_eq_true rfl] at cs
            have CS := Lib.hid cs
            have B9 := Lib.hid (bcl B8.out b9)
            clear q8 v8 b9 B8 v9 cs
            go_wp2_with (go_at_call 27; refine CS.out.mono ?_; rintro e w10 ⟨rfl, b10⟩)
            go_ret
            exact ⟨rfl, bcl B9.out b10⟩
        · have hn1 : nowE 0 time = 1 := by unfold nowE at hn ⊢; by_cases hh : time < 0 ∨ 10000 < time <;> simp [hh] at hn ⊢
          have hn' : time < 0 ∨ 10000 < time := by unfold nowE at hn; by_cases hh : time < 0 ∨ 10000 < time <;> simp [hh] at hn <;> omega
          have cn := ends_now w.heap.size p5 g6 more time A t w7 q7 v7
          rw [hn1, if_neg (by decide), show eV 1 = errV 1 from rfl] at cn
          have CN := Lib.hid cn
          clear cn hn hn1 q7 v7
          by_cases h5 : time < 0
          · have d6 : decide (time < 0) = true := decide_eq_true h5
            clear h5 hn'
            go_wp2_with (go_at_call 43; refine CN.out.mono ?_; rintro e w8 ⟨rfl, q8, b8, v8⟩)
            go_ret
            exact ⟨rfl, B7.out.trans b8⟩
          · have d6 : decide (time < 0) = false := decide_eq_false h5
            have d7 : decide (10000 < time) = true := decide_eq_true (by omega)
            clear h5 hn'
            go_wp2_with (go_at_call 43; refine CN.out.mono ?_; rintro e w8 ⟨rfl, q8, b8, v8⟩)
            go_ret
            exact ⟨rfl, B7.out.trans b8⟩
      · have cr := ends_renew w.heap.size p5 g6 u more A t w6 q6 v6
        rw [endU, if_neg hr, eV_of hr] at cr
        generalize lrE 0 [⟨1, u, t⟩] 1 more = rE at *
        have CR := Lib.hid cr
        clear cr hr q6 v6
        go_wp2_with (go_at_call 46; refine CR.out.mono ?_; rintro e w7 ⟨rfl, q7, b7, v7⟩; have B7 := Lib.hid (B6.out.trans b7); clear b7)
        by_cases hn : nowE 0 time = 0
        · have hn' : 0 ≤ time ∧ time ≤ 10000 := by unfold nowE at hn; by_cases hh : time < 0 ∨ 10000 < time <;> simp [hh] at hn <;> omega
          have cn := ends_now w.heap.size p5 g6 u time A t w7 q7 v7
          rw [hn, if_pos rfl, eV_zero] at cn
          by_cases he : u ≤ time
          · rw [if_pos he] at cn
            simp only [if_pos he, true_implies] at cn
            have d5 : decide (time < u) = false := decide_eq_false (by omega)
            have CN := Lib.hid cn
            clear cn he hn hn' q7 v7
            go_wp2_with (go_at_call 43; refine CN.out.mono ?_; rintro e w8 ⟨rfl, q8, b8, v8⟩; have B8 := Lib.hid (B7.out.trans b8); clear b8)
            refine (read_none w.heap.size p5 g6 _ _ A c t HM.out HOK.out HL.out w8 q8 v8.1).mono ?_
            rintro e w9 ⟨A9, c9, rfl, b9⟩
            have q9 := q8.keep b9
            have B9 := Lib.hid (bcl B8.out b9)
            clear q8 v8 b9 B8
            go_wp2_with (first | (go_at_call 24; refine (same_err7 5 _ (HG0.out.below B9.out)).mono ?_; rintro e w10 ⟨rfl, b10⟩; have q10 := q9.keep b10; have B10 := Lib.hid (bcl B9.out b10); clear b10) )
            refine (renew_none w.heap.size p5 g6 _ _ w10 q10).mono ?_
            rintro e w11 ⟨rfl, b11⟩
            have B11 := Lib.hid (B10.out.trans b11)
            clear B9 B10 b11 q9 q10
            go_wp2_with (first | (go_at_call 24; refine (same_err7 5 _ (HG0.out.below B11.out)).mono ?_; rintro e w12 ⟨rfl, b12⟩) )
            go_ret
            exact ⟨rfl, bcl B11.out b12⟩
          · rw [if_neg he] at cn
            simp only [if_neg he, true_implies] at cn
            have d5 : decide (time < u) = true := decide_eq_true (by omega)
            have CN := Lib.hid cn
            clear cn he hn hn' q7 v7
            go_wp2_with (go_at_call 43; refine CN.out.mono ?_; rintro e w8 ⟨rfl, q8, b8, v8⟩; have B8 := Lib.hid (B7.out.trans b8); clear b8)
            refine (read_one w.heap.size p5 g6 _ _ _ A c t HM.out HOK.out HL.out w8 q8 v8.1).mono ?_
            rintro e w9 ⟨A9, c9, rfl, v9, b9⟩
            have cs := same_tuple A9 A c9 c t t w9 v9 (v8.1.below b9 (Nat.le_refl _)) HM.out
            rw [decide_eq_true rfl] at cs
            have CS := Lib.hid cs
            have B9 := Lib.hid (bcl B8.out b9)
            clear q8 v8 b9 B8 v9 cs
            go_wp2_with (go_at_call 27; refine CS.out.mono ?_; rintro e w10 ⟨rfl, b10⟩)
            go_ret
            exact ⟨rfl, bcl B9.out b10⟩
        · have hn1 : nowE 0 time = 1 := by unfold nowE at hn ⊢; by_cases hh : time < 0 ∨ 10000 < time <;> simp [hh] at hn ⊢
          have hn' : time < 0 ∨ 10000 < time := by unfold nowE at hn; by_cases hh : time < 0 ∨ 10000 < time <;> simp [hh] at hn <;> omega
          have cn := ends_now w.heap.size p5 g6 u time A t w7 q7 v7
          rw [hn1, if_neg (by decide), show eV 1 = errV 1 from rfl] at cn
          have CN := Lib.hid cn
          clear cn hn hn1 q7 v7
          by_cases h5 : time < 0
          · have d6 : decide (time < 0) = true := decide_eq_true h5
            clear h5 hn'
            go_wp2_with (go_at_call 43; refine CN.out.mono ?_; rintro e w8 ⟨rfl, q8, b8, v8⟩)
            go_ret
            exact ⟨rfl, B7.out.trans b8⟩
          · have d6 : decide (time < 0) = false := decide_eq_false h5
            have d7 : decide (10000 < time) = true := decide_eq_true (by omega)
            clear h5 hn'
            go_wp2_with (go_at_call 43; refine CN.out.mono ?_; rintro e w8 ⟨rfl, q8, b8, v8⟩)
            go_ret
            exact ⟨rfl, B7.out.trans b8⟩
  · have h1 : lpE 0 0 [] u t = tuE t := by rw [lpE, if_pos h0]
    have ct := tcheck_any A c t HM.out HOK.out w6 v6.1
    rw [eV_of h0] at ct
    rw [h1, if_neg h0, eV_of h0]
    generalize tuE t = E at *
    have CT := Lib.hid ct
    clear ct h1 h0 q6 v6
    go_wp2_with (go_at_call 45; refine CT.out.mono ?_; rintro e w7 ⟨rfl, b7⟩)
    go_ret
    exact ⟨rfl, bcl B6.out b7⟩
end Go.Proofs.YthpemlhlgjdnkaaDoor.leaseEnds
