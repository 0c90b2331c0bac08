/- LeasePlays: the walk. -/
import Derived.Test.YthpemlhlgjdnkaaDoorLeLaw2
import Derived.Test.YthpemlhlgjdnkaaDoorOnce5
import Derived.Deep.CutBlock
import Derived.Deep.RegionHeld3
import Derived.Test.YthpemlhlgjdnkaaDoorDoor
import Derived.WalkKit
import Derived.WalkLawsBesides
import Derived.WalkSpells
import Derived.RegionTactic
import Derived.Deep.DeepCutAuto
import Derived.Outline
namespace Go.Proofs.YthpemlhlgjdnkaaDoor.leasePlays
open Go.ChangeShapes Go.WideShapes Go.ChangeAt Go.RowKit
set_option linter.unusedVariables false

theorem same_eW (n : Int) (W : World) (h : HG W) : Calls Tryd.prog 24 #[eV n, .int .i64 n] W fun e w' => e = .returned (.bool true) ∧ Below W.heap.size W w' :=
  (same_eV n W W (DG.refl h)).mono fun e w' ⟨h1, h2⟩ => ⟨h1, h2.2⟩
theorem same_tT (A B : Option Addr) (c d : Nat) (t : List Va) (W : World) (hA : Vals W A t) (hB : Vals W B t) (hm : t.length ≤ maxLen) :
    Calls Tryd.prog 27 #[.slice A t.length c, .slice B t.length d] W fun e w' => e = .returned (.bool true) ∧ Below W.heap.size W w' :=
  (same_tuple A B c d t t W hA hB hm).mono fun e w' ⟨h1, h2⟩ => ⟨by rw [h1]; simp, h2⟩
/-- three ints -/
def tri (f : Nat → Int) : Array Value := #[.int .i64 (f 0), .int .i64 (f 1), .int .i64 (f 2)]
theorem tri_at (f : Nat → Int) {j : Nat} (h : j < 3) : (tri f)[j]? = some (.int .i64 (f j)) := by
  rcases (show j = 0 ∨ j = 1 ∨ j = 2 by omega) with rfl | rfl | rfl <;> rfl
theorem tri_set (f : Nat → Int) {j : Nat} (h : j < 3) {y : Int} : (tri f).setIfInBounds j (.int .i64 y) = tri (fun z => if z = j then y else f z) := by
  rcases (show j = 0 ∨ j = 1 ∨ j = 2 by omega) with rfl | rfl | rfl <;> rfl
/-- what is known of times and numbers -/
structure Tm (L : List On) (T last : Int) (k : Nat) : Prop where
  inc : Inc L last
  t0 : 0 ≤ T
  t1 : T ≤ 10000
  l0 : 0 ≤ last
  l1 : last ≤ k
set_option maxHeartbeats 12800000 in
set_option maxRecDepth 100000 in
theorem walk (w : World) (hg : HG w) (S1 : Option Addr) (d1 : Nat) (sts : List (List Int)) (hn1 : sts.length ≤ d1) (hm1 : d1 ≤ maxLen) (hS : Many Ints w S1 sts) (hsi : ∀ i, i < sts.length → ∀ j, j < (gg sts i).length → I64 (gi (gg sts i) j))
    (S2 : Option Addr) (d2 : Nat) (l : List (List Va)) (hn2 : l.length ≤ d2) (hm2 : d2 ≤ maxLen) (hL : Many Vals w S2 l) (hok : ∀ i, i < l.length → okL (gg l i)) :
    Calls Tryd.prog 12 #[.slice S1 sts.length d1, .slice S2 l.length d2] w fun e w' => e = .returned (.bool true) ∧ Below w.heap.size w w' := by
  have HG0 := Lib.hid hg; have HS := Lib.hid hS; have HSI := Lib.hid hsi; have HL := Lib.hid hL; have HOK := Lib.hid hok
  clear hg hS hsi hL hok
  unfold maxLen at hm1 hm2
  go_enter Tryd.func12, Tryd.ntmps12
  go_wp2_with fail
  refine (lnew_any w (Nat.le_refl _)).mono ?_
  rintro e w1 ⟨p, rfl, q1, b1, _⟩
  have HJ0 : Hid (LJ w w1 p none 0 0 [] none 0 [] none 0 [] none 0 []) := Lib.hid ⟨HG0.out, q1, b1, WI.nil, WI.nil, OMany.nil, fun b hb => by simp [Value.ownBlock] at hb⟩
  clear q1 b1
  go_wp2_with fail
  go_loopw [6, 7, 8, 9, 10, 11, 12, 13, 14, 15, 16, 17, 18, 19, 20, 21, 22, 23, 24, 25, 26, 27, 28, 29, 30, 31, 32, 33, 34, 35] (fun sT sl sd su sa si _ _ _ _ _ _ _ _ _ _ _ _ _ _ _ _ _ _ _ _ _ _ _ _ wr => ∃ (k : Nat) (g : Option Nat) (T last : Int) (L : List On) (Ai : Option Addr) (ci : Nat) (Au : Option Addr) (cu : Nat) (Aa : Option Addr) (ca : Nat), k ≤ 80 ∧ k ≤ sts.length ∧ si = .int .i64 k ∧ sT = .int .i64 T ∧ sl = .int .i64 last ∧ sd = .slice Ai L.length ci ∧ su = .slice Au L.length cu ∧ sa = .slice Aa L.length ca ∧ Hid (LJ w wr p g T last L Ai ci (L.map On.id) Au cu (L.map On.un) Aa ca (L.map On.t)) ∧ Hid (Tm L T last k)) (fun _ _ _ _ _ si _ _ _ _ _ _ _ _ _ _ _ _ _ _ _ _ _ _ _ _ _ _ _ _ _ => 81 - (intOf si).toNat)
  case atStart => exact ⟨0, none, 0, 0, [], none, 0, none, 0, none, 0, by omega, Nat.zero_le _, rfl, rfl, rfl, rfl, rfl, rfl, HJ0, Lib.hid ⟨Inc.nil _, by omega, by omega, by omega, by omega⟩⟩
  case round =>
    clear HJ0
    obtain ⟨k, g, T, last, L, Ai, ci, Au, cu, Aa, ca, hk80, hkl, rfl, rfl, rfl, rfl, rfl, rfl, HJ, HT⟩ := hrel
    by_cases t1 : k < sts.length
    · by_cases t2 : k < 80
      · obtain ⟨b1, o1, As, cs, rfl, hl1, cn0, hs0, hs1, hs2⟩ := HS.out.iat t1
        have i0 : (0 : Int) ≤ (k : Int) := by omega
        have i1 : (k : Int) < (sts.length : Nat) := by omega
        have hst := HSI.out k t1
        have c0 := (HJ.out.b.cell (p := ⟨b1, o1 + k, none⟩) hl1).trans cn0
        generalize gg sts k = st at *
        have hsm : st.length ≤ 9223372036854775807 := by have := hs2; unfold maxLen at this; omega
        have HST := Lib.hid hs0; have HSI2 := Lib.hid hst; have HC0 := Lib.hid cn0
        clear cn0 hs0 hs1 hs2 hst
        -- what is asked
        obtain ⟨W0, hW0⟩ : ∃ W0, W0 = wr.alloc (.cells #[.int .i64 0, .int .i64 0, .int .i64 0] 74) := ⟨_, rfl⟩
        have HX0 := Lib.hid (show AtB W0 wr.heap.size (tri fun _ => 0) 74 by rw [hW0]; exact AtB.new _ _ _)
        have HB0 := Lib.hid (show Below wr.heap.size wr W0 by rw [hW0]; exact bal1 _ _)
        have HOI := Lib.hid (fun z (hz : (Value.slice Ai (L.map On.id).length ci).ownBlock = some z) => (HJ.out.ids.block hz).2.lt)
        have HOU := Lib.hid (fun z (hz : (Value.slice Au (L.map On.un).length cu).ownBlock = some z) => (HJ.out.uns.block hz).2.lt)
        go_upto_block 2 with fail
        rw [← hW0]
        clear hW0
        go_cut [13] (fun _ wx => ∃ x0 x1 x2 : Int, Hid (Below wr.heap.size wr wx) ∧ Hid (AtB wx wr.heap.size #[.int .i64 x0, .int .i64 x1, .int .i64 x2] 74) ∧ Hid (I64 x1 ∧ I64 x2))
        case first =>
          as_aux_lemma =>
            obtain ⟨wo, hwo⟩ : ∃ wo : World, wo = wr := ⟨_, rfl⟩
            subst hwo
            go_wp2_with fail
            go_loopw [13] (fun sj wx => ∃ (j : Nat) (f : Nat → Int), j ≤ 3 ∧ j ≤ st.length ∧ sj = .int .i64 j ∧ Hid (Below wo.heap.size wo wx) ∧ Hid (AtB wx wo.heap.size (tri f) 74) ∧ Hid (∀ z, I64 (f z))) (fun sj _ => 4 - (intOf sj).toNat)
            case atStart => exact ⟨0, fun _ => 0, by omega, Nat.zero_le _, rfl, HB0, HX0, Lib.hid (fun z => show I64 0 by unfold I64; decide)⟩
            case round =>
              obtain ⟨j, f, hj3, hjl, rfl, HB1, HX1, HI1⟩ := hrel
              have hb1 := bcl HJ.out.b HB1.out
              have c0 := (hb1.cell (p := ⟨b1, o1 + k, none⟩) hl1).trans HC0.out
              by_cases u1 : j < st.length
              · by_cases u2 : j < 3
                · obtain ⟨b2, o2, hAs, hl2, cs0⟩ := HST.out.at_ u1
                  subst hAs
                  have s0 := (hb1.cell (p := ⟨b2, o2 + j, none⟩) hl2).trans cs0
                  have j0 : (0 : Int) ≤ (j : Int) := by omega
                  have j1 : (j : Int) < (st.length : Nat) := by omega
                  have j3 : (j : Int) < 3 := by omega
                  have hxi := HSI2.out j u1
                  generalize gi st j = y at *
                  have HXI := Lib.hid hxi
                  have f0 := HX1.out.frozen j
                  have e0 := HX1.out.cell (i := j) (tri_at f u2)
                  clear cs0 hxi hb1
                  go_wp2_with fail
                  go_roundw
                  case rel => exact ⟨j + 1, fun z => if z = j then y else f z, by omega, by omega, by go_num, Lib.hid (bset HB1.out (Nat.le_refl _) _), Lib.hid (by rw [← tri_set f u2]; exact HX1.out.set j _), Lib.hid (fun z => by show I64 (if z = j then y else f z); split; exact HXI.out; exact HI1.out z)⟩
                  case measure => first | (simp [intOf]; omega) | simp [intOf]
                · have hf : decide ((j : Int) < 3) = false := by simp; omega
                  clear hb1
                  go_wp2_with fail
                  go_meet
                  case rel => exact ⟨f 0, f 1, f 2, HB1, HX1, Lib.hid ⟨HI1.out 1, HI1.out 2⟩⟩
              · have hf : decide ((j : Int) < (st.length : Nat)) = false := by simp; omega
                clear hb1
                go_wp2_with fail
                go_meet
                case rel => exact ⟨f 0, f 1, f 2, HB1, HX1, Lib.hid ⟨HI1.out 1, HI1.out 2⟩⟩
        case rest =>
          as_aux_lemma =>
            obtain ⟨x0, x1, x2, HB1, HX, HI⟩ := hcut
            obtain ⟨W1, hw⟩ : ∃ W1 : World, W1 = wc := ⟨_, rfl⟩
            subst hw
            have HJ1 := Lib.hid (HJ.out.keep HB1.out)
            clear HJ HB1 HB0 HX0
            obtain ⟨wo, hwo⟩ : ∃ wo : World, wo = wr := ⟨_, rfl⟩
            subst hwo
            go_upto_if 72 with fail
            go_cut [14] (fun s2 wx => wx = W1 ∧ ∃ (At : Option Addr) (ct : Nat) (tv : List Va), s2 = .slice At tv.length ct ∧ Hid (Vals w At tv ∧ okL tv ∧ tv.length ≤ ct ∧ ct ≤ maxLen))
            case first =>
              as_aux_lemma =>
                by_cases u1 : k < l.length
                · obtain ⟨b2, o2, At, ct, rfl, hl2, ct0, hv, hv1, hv2⟩ := HL.out.vat u1
                  have s0 := (HJ1.out.b.cell (p := ⟨b2, o2 + k, none⟩) hl2).trans ct0
                  have k1 : (k : Int) < (l.length : Nat) := by omega
                  have HV := Lib.hid (And.intro hv (And.intro (HOK.out k u1) (And.intro hv1 hv2)))
                  clear ct0 hv hv1 hv2
                  go_wp2_with fail
                  go_meet
                  case rel => exact ⟨by first | rfl | trivial, At, ct, gg l k, rfl, HV⟩
                · have k1 : decide ((k : Int) < (l.length : Nat)) = false := by simp; omega
                  go_wp2_with fail
                  go_meet
                  case rel => exact ⟨by first | rfl | trivial, none, 0, [], rfl, Lib.hid ⟨Sl.zero, fun i hi => by simp at hi, by simp, by simp⟩⟩
            case rest =>
              as_aux_lemma =>
                obtain ⟨rfl, At, ct, t, rfl, HV⟩ := hcut
                obtain ⟨W2, hw⟩ : ∃ W2 : World, W2 = wc := ⟨_, rfl⟩
                subst hw
                have htm : t.length ≤ maxLen := Nat.le_trans HV.out.2.2.1 HV.out.2.2.2
                have HJ := HJ1
                have hl20 := HJ.out.les.len
                have y0 : W2.cell? ⟨wo.heap.size, 0, none⟩ = some (.int .i64 x0) := HX.out.cell (i := 0) rfl
                have y1 : W2.cell? ⟨wo.heap.size, 1, none⟩ = some (.int .i64 x1) := HX.out.cell (i := 1) rfl
                have y2 : W2.cell? ⟨wo.heap.size, 2, none⟩ = some (.int .i64 x2) := HX.out.cell (i := 2) rfl
                have HTM := Lib.hid htm
                clear htm
                go_upto_block 4 with fail
                go_cut [15, 6, 7, 8, 9, 10] (fun so sT sl sd su sa wx => so = .bool true ∧ ∃ (g : Option Nat) (T last : Int) (L : List On) (Ai : Option Addr) (ci : Nat) (Au : Option Addr) (cu : Nat) (Aa : Option Addr) (ca : Nat), sT = .int .i64 T ∧ sl = .int .i64 last ∧ sd = .slice Ai L.length ci ∧ su = .slice Au L.length cu ∧ sa = .slice Aa L.length ca ∧ Hid (LJ w wx p g T last L Ai ci (L.map On.id) Au cu (L.map On.un) Aa ca (L.map On.t)) ∧ Hid (Tm L T last (k + 1)))
                case first =>
                  as_aux_lemma =>
                    by_cases e0 : x0 = 0
                    · have q0 : (x0 == 0) = true := beq_iff_eq.2 e0
                      clear e0
                      as_aux_lemma =>
                        go_wp2_with fail
                        go_loopw [16, 17] (fun se sk wx => ∃ (j : Nat) (E : Int), j ≤ L.length ∧ sk = .int .i64 j ∧ se = .int .i64 E ∧ Hid (E = rnE T L x1 x2 j) ∧ Hid (LJ w wx p g T last L Ai ci (L.map On.id) Au cu (rnU T L x1 x2 j) Aa ca (L.map On.t)) ∧ Hid (AtB wx wo.heap.size #[.int .i64 x0, .int .i64 x1, .int .i64 x2] 74)) (fun _ sk _ => L.length - (intOf sk).toNat)
                        case atStart => exact ⟨0, 5, Nat.zero_le _, rfl, rfl, Lib.hid (rn_zero T L x1 x2).1.symm, Lib.hid (by rw [(rn_zero T L x1 x2).2]; exact HJ.out), HX⟩
                        case round =>
                          clear HJ HX y0 y1 y2
                          obtain ⟨j, E, hjl, rfl, rfl, HE, HJ, HX⟩ := hrel
                          have y1 : wr.cell? ⟨wo.heap.size, 1, none⟩ = some (.int .i64 x1) := HX.out.cell (i := 1) rfl
                          have y2 : wr.cell? ⟨wo.heap.size, 2, none⟩ = some (.int .i64 x2) := HX.out.cell (i := 2) rfl
                          by_cases hlt : j < L.length
                          · obtain ⟨bi, oi, rfl, hbi, ci0⟩ := HJ.out.ids.at_ (i := j) (by rw [List.length_map]; exact hlt)
                            rw [gi_id hlt] at ci0
                            have j0 : (0 : Int) ≤ (j : Int) := by omega
                            have j1 : (j : Int) < (L.length : Nat) := by omega
                            by_cases hx : (ong L j).id = x1
                            · have ci1 : wr.cell? ⟨bi, oi + j, none⟩ = some (.int .i64 x1) := by rw [← hx]; exact ci0
                              clear ci0
                              obtain ⟨r1, r2, r3⟩ := rn_here HT.out.inc hlt x1 x2 hx
                              have hju := HJ.out
                              rw [r1] at hju
                              obtain ⟨bu, ou, rfl, hbu, cu0⟩ := hju.uns.at_ (i := j) (by rw [List.length_map]; exact hlt)
                              rw [gi_un hlt] at cu0
                              have HJU := Lib.hid hju
                              generalize (ong L j).un = un at *
                              clear r1 hju
                              by_cases h1 : x2 ≤ T
                              · have hb : ahB T x2 = false ∨ x2 < un := .inl (by unfold ahB; rw [decide_eq_false (by omega), Bool.false_and])
                                rw [if_pos hb] at r2 r3
                                have R2 := Lib.hid r2; have R3 := Lib.hid r3
                                have d1 : decide (x2 ≤ T) = true := decide_eq_true h1
                                clear r2 r3 hb hx h1
                                go_wp2_with fail
                                try go_quiet (fail)
                                go_wp2_with fail
                                try go_quiet (fail)
                                go_wp2_with fail
                                go_roundw
                                case rel => exact ⟨j + 1, _, by omega, by go_num, rfl, Lib.hid R2.out.symm, Lib.hid (by rw [R3.out]; first | exact HJU.out | exact HJU.out.keep (bdn (Below.refl _ _) _)), Lib.hid (by first | exact HX.out | exact HX.out.below (bdn (Below.refl _ _) _) HX.out.lt)⟩
                                case measure => first | (simp [intOf]; omega) | simp [intOf]
                              · by_cases h2 : 10000 < x2
                                · have hb : ahB T x2 = false ∨ x2 < un := .inl (by unfold ahB; rw [decide_eq_false (show ¬ x2 ≤ 10000 by omega), Bool.and_false])
                                  rw [if_pos hb] at r2 r3
                                  have R2 := Lib.hid r2; have R3 := Lib.hid r3
                                  have d1 : decide (x2 ≤ T) = false := decide_eq_false h1
                                  have d2 : decide (10000 < x2) = true := decide_eq_true h2
                                  clear r2 r3 hb hx h1 h2
                                  go_wp2_with fail
                                  try go_quiet (fail)
                                  go_wp2_with fail
                                  try go_quiet (fail)
                                  go_wp2_with fail
                                  go_roundw
                                  case rel => exact ⟨j + 1, _, by omega, by go_num, rfl, Lib.hid R2.out.symm, Lib.hid (by rw [R3.out]; first | exact HJU.out | exact HJU.out.keep (bdn (Below.refl _ _) _)), Lib.hid (by first | exact HX.out | exact HX.out.below (bdn (Below.refl _ _) _) HX.out.lt)⟩
                                  case measure => first | (simp [intOf]; omega) | simp [intOf]
                                · by_cases h3 : x2 < un
                                  · have hb : ahB T x2 = false ∨ x2 < un := .inr h3
                                    rw [if_pos hb] at r2 r3
                                    have R2 := Lib.hid r2; have R3 := Lib.hid r3
                                    have d1 : decide (x2 ≤ T) = false := decide_eq_false h1
                                    have d2 : decide (10000 < x2) = false := decide_eq_false h2
                                    have d3 : decide (x2 < un) = true := decide_eq_true h3
                                    clear r2 r3 hb hx h1 h2 h3
                                    go_wp2_with fail
                                    try go_quiet (fail)
                                    go_wp2_with fail
                                    try go_quiet (fail)
                                    go_wp2_with fail
                                    go_roundw
                                    case rel => exact ⟨j + 1, _, by omega, by go_num, rfl, Lib.hid R2.out.symm, Lib.hid (by rw [R3.out]; first | exact HJU.out | exact HJU.out.keep (bdn (Below.refl _ _) _)), Lib.hid (by first | exact HX.out | exact HX.out.below (bdn (Below.refl _ _) _) HX.out.lt)⟩
                                    case measure => first | (simp [intOf]; omega) | simp [intOf]
                                  · have hb : ¬ (ahB T x2 = false ∨ x2 < un) := by
                                      unfold ahB
                                      rw [decide_eq_true (show T < x2 by omega), decide_eq_true (show x2 ≤ 10000 by omega)]
                                      simp; omega
                                    rw [if_neg hb] at r2 r3
                                    have R2 := Lib.hid r2; have R3 := Lib.hid r3
                                    have fu := WI.frozen HJU.out.uns rfl j
                                    have hset := fun (W : World) (jj : LJ w W p g T last L (some ⟨bi, oi, none⟩) ci (L.map On.id) (some ⟨bu, ou, none⟩) cu (L.map On.un) Aa ca (L.map On.t)) => jj.setU (k := j) rfl (by rw [List.length_map]; exact hlt) x2
                                    have HSET := Lib.hid hset
                                    have d1 : decide (x2 ≤ T) = false := decide_eq_false h1
                                    have d2 : decide (10000 < x2) = false := decide_eq_false h2
                                    have d3 : decide (x2 < un) = false := decide_eq_false h3
                                    clear r2 r3 hb hx hset h1 h2 h3
                                    go_wp2_with fail
                                    try go_quiet (fail)
                                    go_wp2_with fail
                                    try go_quiet (fail)
                                    go_wp2_with fail
                                    go_roundw
                                    case rel => exact ⟨j + 1, _, by omega, by go_num, rfl, Lib.hid R2.out.symm, Lib.hid (by rw [R3.out]; first | exact HSET.out _ HJU.out | exact HSET.out _ (HJU.out.keep (bdn (Below.refl _ _) _))), Lib.hid (by first | exact HX.out.far (by have := HOU.out bu rfl; show wo.heap.size ≠ bu; omega) _ | exact (HX.out.below (bdn (Below.refl _ _) _) HX.out.lt).far (by have := HOU.out bu rfl; show wo.heap.size ≠ bu; omega) _)⟩
                                    case measure => first | (simp [intOf]; omega) | simp [intOf]
                            · obtain ⟨r1, r2⟩ := rn_other HT.out.inc hlt x1 x2 hx
                              have q : ((ong L j).id == x1) = false := beq_eq_false_iff_ne.2 hx
                              have R1 : Hid (rnE T L x1 x2 (j + 1) = rnE T L x1 x2 j) := r1
                              have R2 : Hid (rnU T L x1 x2 (j + 1) = rnU T L x1 x2 j) := r2
                              go_wp2_with fail
                              try go_quiet (fail)
                              go_wp2_with fail
                              try go_quiet (fail)
                              go_wp2_with fail
                              go_roundw
                              case rel => exact ⟨j + 1, E, by omega, by go_num, rfl, Lib.hid (by rw [R1.out]; exact HE.out), Lib.hid (by rw [R2.out]; first | exact HJ.out | exact HJ.out.keep (bdn (Below.refl _ _) _)), Lib.hid (by first | exact HX.out | exact HX.out.below (bdn (Below.refl _ _) _) HX.out.lt)⟩
                              case measure => first | (simp [intOf]; omega) | simp [intOf]
                          · obtain rfl : j = L.length := by omega
                            obtain ⟨r1, r2⟩ := rn_end T L x1 x2
                            have hju := HJ.out
                            rw [r2] at hju
                            have hE : E = lrE T L x1 x2 := HE.out.trans r1
                            have cr := lj_renew hju x1 x2
                            rw [← hE] at cr
                            have hlen := lrL_len T L x1 x2
                            have hid := lrL_id T L x1 x2
                            have htt := lrL_t T L x1 x2
                            have hinc := lrL_inc (T := T) (x := x1) (u := x2) HT.out.inc
                            obtain ⟨L2, hL2⟩ : ∃ L2, L2 = lrL T L x1 x2 := ⟨_, rfl⟩
                            rw [← hL2] at hlen hid htt hinc cr
                            have CR := Lib.hid cr
                            clear HE
                            have HLEN := Lib.hid hlen
                            clear hlen hL2 hE
                            have H1 := Lib.hid hid; have H2 := Lib.hid htt; have H3 := Lib.hid hinc
                            clear r1 r2 hju cr hid htt hinc
                            go_wp2_with (first | (go_at_call 46; refine CR.out.mono ?_; rintro e w7 ⟨rfl, hj7⟩; have HJ7 := Lib.hid hj7; have HG7 := Lib.hid hj7.d; clear hj7) | (go_at_call 24; refine (same_eW _ _ HG7.out).mono ?_; rintro e w8 ⟨rfl, hb8⟩; have HJ8 := Lib.hid (HJ7.out.keep hb8); clear hb8))
                            go_meet
                            case rel => exact ⟨rfl, g, T, last, L2, _, ci, _, cu, Aa, ca, rfl, rfl, by rw [HLEN.out], by rw [HLEN.out], by rw [HLEN.out], Lib.hid (by rw [H1.out, H2.out]; exact HJ8.out), Lib.hid ⟨H3.out, HT.out.t0, HT.out.t1, HT.out.l0, by have := HT.out.l1; omega⟩⟩
                    · have q0 : (x0 == 0) = false := beq_eq_false_iff_ne.2 e0
                      by_cases e1 : x0 = 1
                      · have q1 : (x0 == 1) = true := beq_iff_eq.2 e1
                        clear e1 e0
                        as_aux_lemma =>
                          by_cases hn : nowE T x1 = 0
                          · have hn2 : T ≤ x1 ∧ x1 ≤ 10000 := by unfold nowE at hn; by_cases hh : x1 < T ∨ 10000 < x1 <;> simp [hh] at hn <;> omega
                            have HN := Lib.hid hn
                            obtain ⟨d1, d2⟩ := hn2
                            have hW0 := HJ.out.les.hb
                            clear hn
                            go_wp2_with fail
                            go_loopw [19, 20, 21, 22, 23] (fun sg sa sb sc sk wx => ∃ (j : Nat) (Bi : Option Addr) (di : Nat) (Bu : Option Addr) (du : Nat) (Ba : Option Addr) (da : Nat), j ≤ L.length ∧ sk = .int .i64 j ∧ sg = .int .i64 ((j : Int) - (kp x1 L j).length) ∧ sa = .slice Bi (kp x1 L j).length di ∧ sb = .slice Bu (kp x1 L j).length du ∧ sc = .slice Ba (kp x1 L j).length da ∧ Hid (N3 w W2 wx Bi di ((kp x1 L j).map On.id) Bu du ((kp x1 L j).map On.un) Ba da ((kp x1 L j).map On.t))) (fun _ _ _ _ sk _ => L.length - (intOf sk).toNat)
                            case atStart => exact ⟨0, none, 0, none, 0, none, 0, Nat.zero_le _, rfl, rfl, rfl, rfl, rfl, Lib.hid (N3.nil w W2)⟩
                            case round =>
                              obtain ⟨j, Bi, di, Bu, du, Ba, da, hjl, rfl, rfl, rfl, rfl, rfl, HN3⟩ := hrel
                              by_cases hlt : j < L.length
                              · obtain ⟨bu, ou, hAu, hbu, cu0⟩ := HJ.out.uns.at_ (i := j) (by rw [List.length_map]; exact hlt)
                                rw [gi_un hlt] at cu0
                                have u0 := (HN3.out.b.cell (p := ⟨bu, ou + j, none⟩) hbu).trans cu0
                                have j0 : (0 : Int) ≤ (j : Int) := by omega
                                have j1 : (j : Int) < (L.length : Nat) := by omega
                                have hkl := kp_le x1 L j
                                subst hAu
                                by_cases hx : (ong L j).un ≤ x1
                                · have r := kp_gone hlt hx
                                  have R := Lib.hid r
                                  generalize (ong L j).un = un at *
                                  clear r
                                  go_wp2_with fail
                                  go_roundw
                                  case rel => exact ⟨j + 1, Bi, di, Bu, du, Ba, da, by omega, by go_num, by rw [R.out]; go_num, by rw [R.out], by rw [R.out], by rw [R.out], Lib.hid (by rw [R.out]; exact HN3.out)⟩
                                  case measure => first | (simp [intOf]; omega) | simp [intOf]
                                · have r := kp_kept hlt hx
                                  obtain ⟨bi, oi, hAi, hbi, ci0⟩ := HJ.out.ids.at_ (i := j) (by rw [List.length_map]; exact hlt)
                                  rw [gi_id hlt] at ci0
                                  obtain ⟨ba, Bt, Ct, hAa, ca0, hvt, hc1, hc2, hin⟩ := HJ.out.all.vat (i := j) (by rw [List.length_map]; exact hlt)
                                  rw [gg_t hlt] at ca0 hvt hc1
                                  have hba : ba < W2.heap.size := lt_of_cell ca0
                                  have i0' := (HN3.out.b.cell (p := ⟨bi, oi + j, none⟩) hbi).trans ci0
                                  have CI0 := Lib.hid ci0; have CU0 := Lib.hid cu0; have CA0 := Lib.hid ca0; have HVT := Lib.hid (And.intro hvt (And.intro hc1 (And.intro hc2 hin)))
                                  have R := Lib.hid r
                                  subst hAi hAa
                                  generalize ong L j = oj at *
                                  generalize kp x1 L j = K at *
                                  have hK : K.length ≤ 1000000 := by omega
                                  have hwz := Nat.le_trans hW0 HN3.out.b.size
                                  clear r ci0 cu0 ca0 hvt hc1 hc2 hin
                                  go_wp2_with (first | (at_builtin; refine wpList_append_wiM rfl _ _ rfl w.heap.size Bi di (K.map On.id) K.length (by rw [List.length_map]) rfl (HN3.out.keep hW0 (bal1 _ _)).ids wr.heap.size oj.id rfl ((AtB.new _ _ _).cell (i := 0) rfl) (by rw [List.length_map]; exact hK) (le_al hwz _) ?_; intro b4 o4 c4 w4 h41 h42 h43; have hn4 := (HN3.out.keep hW0 (bal1 _ _)).appI hW0 h41 h42 h43; have HN4 := Lib.hid hn4; have u4 := (hn4.b.cell (p := ⟨bu, ou + j, none⟩) hbu).trans CU0.out; clear h41 h42 h43 hn4) | (at_builtin; refine wpList_append_wiM rfl _ _ rfl w.heap.size Bu du (K.map On.un) K.length (by rw [List.length_map]) rfl (HN4.out.keep hW0 (bal1 _ _)).uns w4.heap.size oj.un rfl ((AtB.new _ _ _).cell (i := 0) rfl) (by rw [List.length_map]; exact hK) (le_al (Nat.le_trans hW0 HN4.out.b.size) _) ?_; intro b5 o5 c5 w5 h41 h42 h43; have hn4 := (HN4.out.keep hW0 (bal1 _ _)).appU hW0 h41 h42 h43; have HN5 := Lib.hid hn4; have a5 := (hn4.b.cell (p := ⟨ba, j, none⟩) hba).trans CA0.out; clear h41 h42 h43 hn4) | (at_builtin; refine wpList_append_valsM rfl _ _ rfl w.heap.size Ba da (K.map On.t) K.length (by rw [List.length_map]) rfl (HN5.out.keep hW0 (bal1 _ _)).all w5.heap.size Bt oj.t Ct rfl ((AtB.new _ _ _).cell (i := 0) rfl) (HVT.out.1.below (bal HN5.out.b _) (Nat.le_refl _)) HVT.out.2.1 HVT.out.2.2.1 (HVT.out.2.2.2.stay fun a ha => (bal HN5.out.b _).block _ (HVT.out.2.2.2.lt hW0 ha)) (by rw [List.length_map]; exact hK) (le_al (Nat.le_trans hW0 HN5.out.b.size) _) ?_; intro b6 c6 w6 h41 h42 h43; have hn4 := (HN5.out.keep hW0 (bal1 _ _)).appP hW0 h41 h42 h43; have HN6 := Lib.hid hn4; clear h41 h42 h43 hn4))
                                  go_wp2_with fail
                                  go_roundw
                                  case rel => exact ⟨j + 1, some ⟨b4, o4, none⟩, c4, some ⟨b5, o5, none⟩, c5, some ⟨b6, 0, none⟩, c6, by omega, by go_num, by rw [R.out]; simp; omega, by rw [R.out]; simp, by rw [R.out]; simp, by rw [R.out]; simp, Lib.hid (by rw [R.out, List.map_append, List.map_append, List.map_append]; exact HN6.out)⟩
                                  case measure => first | (simp [intOf]; omega) | simp [intOf]
                              · obtain rfl : j = L.length := by omega
                                have hja := HJ.out.anew HN3.out
                                have y1 : wr.cell? ⟨wo.heap.size, 1, none⟩ = some (.int .i64 x1) := (HX.out.below HN3.out.b HX.out.lt).cell (i := 1) rfl
                                have cn := lj_now hja x1
                                rw [HN.out, if_pos rfl, if_pos rfl, if_pos rfl, ← kp_end x1 L] at cn
                                have CN := Lib.hid cn
                                have hm : (kp x1 L L.length).length ≤ L.length := kp_le x1 L L.length
                                have hinc : Inc (kp x1 L L.length) last := by rw [kp_end]; exact HT.out.inc.filter _
                                have HI := Lib.hid hinc
                                generalize kp x1 L L.length = L2 at *
                                clear hja cn hinc
                                go_wp2_with (first | (go_at_call 43; refine CN.out.mono ?_; rintro e w7 ⟨rfl, hj7⟩; have HJ7 := Lib.hid hj7; have HG7 := Lib.hid hj7.d; clear hj7) | (go_at_call 24; refine (same_eW _ _ HG7.out).mono ?_; rintro e w8 ⟨rfl, hb8⟩; have HJ8 := Lib.hid (HJ7.out.keep hb8); clear hb8))
                                go_meet
                                case rel => exact ⟨rfl, g, x1, last, L2, Bi, di, Bu, du, Ba, da, rfl, rfl, rfl, rfl, rfl, HJ8, Lib.hid ⟨HI.out, by have := HT.out.t0; omega, d2, HT.out.l0, by have := HT.out.l1; omega⟩⟩
                          · have hn1 : nowE T x1 = 1 := by unfold nowE at hn ⊢; by_cases hh : x1 < T ∨ 10000 < x1 <;> simp [hh] at hn ⊢
                            have hn2 : x1 < T ∨ 10000 < x1 := by unfold nowE at hn; by_cases hh : x1 < T ∨ 10000 < x1 <;> simp [hh] at hn; exact hh
                            have cn := lj_now HJ.out x1
                            rw [hn1, if_neg (by decide), if_neg (by decide), if_neg (by decide)] at cn
                            have CN := Lib.hid cn
                            clear cn hn hn1
                            by_cases h5 : x1 < T
                            · have d6 : decide (T ≤ x1) = false := decide_eq_false (by omega)
                              clear hn2
                              go_wp2_with (first | (go_at_call 43; refine CN.out.mono ?_; rintro e w7 ⟨rfl, hj7⟩; have HJ7 := Lib.hid hj7; have HG7 := Lib.hid hj7.d; clear hj7) | (go_at_call 24; refine (same_eW _ _ HG7.out).mono ?_; rintro e w8 ⟨rfl, hb8⟩; have HJ8 := Lib.hid (HJ7.out.keep hb8); clear hb8))
                              go_meet
                              case rel => exact ⟨rfl, g, T, last, L, Ai, ci, Au, cu, Aa, ca, rfl, rfl, rfl, rfl, rfl, HJ8, Lib.hid ⟨HT.out.inc, HT.out.t0, HT.out.t1, HT.out.l0, by have := HT.out.l1; omega⟩⟩
                            · have d6 : decide (T ≤ x1) = true := decide_eq_true (by omega)
                              have d7 : decide (x1 ≤ 10000) = false := decide_eq_false (by omega)
                              clear hn2 h5
                              go_wp2_with (first | (go_at_call 43; refine CN.out.mono ?_; rintro e w7 ⟨rfl, hj7⟩; have HJ7 := Lib.hid hj7; have HG7 := Lib.hid hj7.d; clear hj7) | (go_at_call 24; refine (same_eW _ _ HG7.out).mono ?_; rintro e w8 ⟨rfl, hb8⟩; have HJ8 := Lib.hid (HJ7.out.keep hb8); clear hb8))
                              go_meet
                              case rel => exact ⟨rfl, g, T, last, L, Ai, ci, Au, cu, Aa, ca, rfl, rfl, rfl, rfl, rfl, HJ8, Lib.hid ⟨HT.out.inc, HT.out.t0, HT.out.t1, HT.out.l0, by have := HT.out.l1; omega⟩⟩
                      · have q1 : (x0 == 1) = false := beq_eq_false_iff_ne.2 e1
                        by_cases e2 : x0 = 2
                        · have q2 : (x0 == 2) = true := beq_iff_eq.2 e2
                          clear e2 e1 e0
                          as_aux_lemma =>
                            have crl := fun (W : World) (V : Vals W At t) => rlike_any At ct t HTM.out HV.out.2.1 W V
                            have HV0 := Lib.hid (HJ.out.vals HV.out.1)
                            by_cases u : liE t = 0
                            · have crd := fun (W : World) (j : LJ w W p g T last L Ai ci (L.map On.id) Au cu (L.map On.un) Aa ca (L.map On.t)) => lj_read j At ct t HTM.out HV.out.2.1 HV.out.1
                              rw [u] at crl
                              have CRL := Lib.hid crl; have CRD := Lib.hid crd; have HU := Lib.hid u
                              clear crl crd u
                              go_wp2_with (go_at_call 48; refine (CRL.out _ HV0.out).mono ?_; rintro e w5 ⟨rfl, hb5⟩; have HJ5 := Lib.hid (HJ.out.keep hb5); clear hb5)
                              go_loopw [26, 27, 28] (fun se sw sk wx => ∃ (j : Nat) (m : Option Nat) (Aw : Option Addr) (cw : Nat) (wl : List Va), j ≤ L.length ∧ sk = .int .i64 ((j : Int) - 1) ∧ se = .int .i64 (if m = none then 5 else 0) ∧ sw = .slice Aw wl.length cw ∧ Hid (Fst t L j m) ∧ Hid (wl = match m with | none => [] | some m => (ong L m).t) ∧ Hid (Vals wx Aw wl ∧ wl.length ≤ maxLen) ∧ Hid (LJ w wx p g T last L Ai ci (L.map On.id) Au cu (L.map On.un) Aa ca (L.map On.t))) (fun _ _ sk _ => (intOf sk + 1).toNat)
                              case atStart => exact ⟨L.length, none, none, 0, [], Nat.le_refl _, by first | rfl | go_num, rfl, rfl, Lib.hid (Fst.start t L), Lib.hid rfl, Lib.hid ⟨Sl.zero, by simp⟩, HJ5⟩
                              case round =>
                                obtain ⟨j, m, Aw, cw, wl, hjl, rfl, rfl, rfl, HF, HW, HVW, HJ6⟩ := hrel
                                cases j with
                                | succ j =>
                                  have ej : (((j + 1 : Nat) : Int) - 1) = (j : Int) := by omega
                                  rw [ej]
                                  obtain ⟨ba, Bt, Ct, rfl, ca0, hvt, hc1, hc2, hin⟩ := HJ6.out.all.vat (i := j) (by rw [List.length_map]; omega)
                                  rw [gg_t (show j < L.length by omega)] at ca0 hvt hc1
                                  have j0 : (0 : Int) ≤ (j : Int) := by omega
                                  have j1 : (j : Int) < (L.length : Nat) := by omega
                                  have hb0 : ba < wr.heap.size := lt_of_cell ca0
                                  have crf := fun (W : World) (V1 : Vals W At t) (V2 : Vals W Bt (ong L j).t) => rfits_any At ct t Bt Ct (ong L j).t HTM.out W V1 V2
                                  have HVT := Lib.hid hvt; have HVA := Lib.hid (HJ6.out.vals HV.out.1)
                                  have htl : (ong L j).t.length ≤ maxLen := Nat.le_trans hc1 hc2
                                  have HTL := Lib.hid htl
                                  clear hvt hc1 hc2 hin ej htl
                                  cases hf : fitB t (ong L j).t with
                                  | true =>
                                    rw [hf] at crf
                                    have CRF := Lib.hid crf
                                    have HF2 := Lib.hid (Fst.hit (a := t) (show j < L.length by omega) hf)
                                    clear crf hf
                                    go_wp2_with (go_at_call 49; refine (CRF.out _ HVA.out HVT.out).mono ?_; rintro e w7 ⟨rfl, hb7⟩; have ca7 := (hb7.cell (p := ⟨ba, j, none⟩) hb0).trans ca0; have HB7 := Lib.hid hb7; clear hb7)
                                    go_roundw
                                    case rel => exact ⟨j, some j, Bt, Ct, (ong L j).t, by omega, by first | rfl | go_num, rfl, rfl, HF2, Lib.hid rfl, Lib.hid ⟨HVT.out.below HB7.out (Nat.le_refl _), HTL.out⟩, Lib.hid (HJ6.out.keep HB7.out)⟩
                                    case measure => first | (simp [intOf]; omega) | simp [intOf]
                                  | false =>
                                    rw [hf] at crf
                                    have CRF := Lib.hid crf
                                    have HF2 := Lib.hid (HF.out.miss hf)
                                    clear crf hf
                                    go_wp2_with (go_at_call 49; refine (CRF.out _ HVA.out HVT.out).mono ?_; rintro e w7 ⟨rfl, hb7⟩; have HB7 := Lib.hid hb7; clear hb7)
                                    go_roundw
                                    case rel => exact ⟨j, m, Aw, cw, wl, by omega, by first | rfl | go_num, rfl, rfl, HF2, HW, Lib.hid ⟨HVW.out.1.below HB7.out (Nat.le_refl _), HVW.out.2⟩, Lib.hid (HJ6.out.keep HB7.out)⟩
                                    case measure => first | (simp [intOf]; omega) | simp [intOf]
                                | zero =>
                                  obtain ⟨f1, f2⟩ := HF.out.done HU.out
                                  have hwl : lreV t L = wl := by rw [f2, HW.out]; cases m <;> rfl
                                  have F1 := Lib.hid f1; have F2 := Lib.hid hwl
                                  have crd := CRD.out wr HJ6.out
                                  rw [f1, hwl] at crd
                                  have CR := Lib.hid crd
                                  generalize (if m = none then (5 : Int) else 0) = E at *
                                  have ej : (((0 : Nat) : Int) - 1) = -1 := by omega
                                  rw [ej]
                                  clear f1 f2 hwl crd ej
                                  go_wp2_with (first | (go_at_call 47; refine CR.out.mono ?_; rintro e w7 ⟨A7, c7, rfl, hv7, hb7, hj7⟩; have HJ7 := Lib.hid hj7; have HG7 := Lib.hid hj7.d; have HV7 := Lib.hid hv7; have HW7 := Lib.hid (HVW.out.1.below hb7 (Nat.le_refl _)); clear hj7 hb7 hv7) | (go_at_call 24; refine (same_eW _ _ HG7.out).mono ?_; rintro e w8 ⟨rfl, hb8⟩; have HJ8 := Lib.hid (HJ7.out.keep hb8); have HV8 := Lib.hid (HV7.out.below hb8 (Nat.le_refl _)); have HW8 := Lib.hid (HW7.out.below hb8 (Nat.le_refl _)); clear hb8) | (go_at_call 27; refine (same_tT _ _ _ _ wl _ HV8.out HW8.out HVW.out.2).mono ?_; rintro e w9 ⟨rfl, hb9⟩; have HJ9 := Lib.hid (HJ8.out.keep hb9); clear hb9))
                                  go_wp2_with fail
                                  go_meet
                                  case rel => exact ⟨rfl, g, T, last, L, Ai, ci, Au, cu, _, ca, rfl, rfl, rfl, rfl, rfl, HJ9, Lib.hid ⟨HT.out.inc, HT.out.t0, HT.out.t1, HT.out.l0, by have := HT.out.l1; omega⟩⟩
                            · have crd := fun (W : World) (j : LJ w W p g T last L Ai ci (L.map On.id) Au cu (L.map On.un) Aa ca (L.map On.t)) => lj_read j At ct t HTM.out HV.out.2.1 HV.out.1
                              have h1 : lreE t L = liE t := by rw [lreE, if_pos u]
                              have h2 : lreV t L = [] := by rw [lreV, h1, if_neg u]
                              have q : (liE t == 0) = false := beq_eq_false_iff_ne.2 u
                              rw [h1, h2] at crd
                              simp only [List.length_nil] at crd
                              generalize liE t = E at *
                              have CRL := Lib.hid crl; have CRD := Lib.hid crd
                              clear crl crd u h1 h2
                              go_wp2_with (first | (go_at_call 48; refine (CRL.out _ HV0.out).mono ?_; rintro e w5 ⟨rfl, hb5⟩; have HJ5 := Lib.hid (HJ.out.keep hb5); clear hb5) | (go_at_call 47; refine (CRD.out _ HJ5.out).mono ?_; rintro e w7 ⟨A7, c7, rfl, hv7, hb7, hj7⟩; have HJ7 := Lib.hid hj7; have HG7 := Lib.hid hj7.d; clear hj7 hb7 hv7) | (go_at_call 24; refine (same_eW _ _ HG7.out).mono ?_; rintro e w8 ⟨rfl, hb8⟩; have HJ8 := Lib.hid (HJ7.out.keep hb8); clear hb8) | (go_at_call 27; refine (same_t0 _ _ _ _ _).mono ?_; rintro e w9 ⟨rfl, hb9⟩; have HJ9 := Lib.hid (HJ8.out.keep hb9); clear hb9))
                              go_wp2_with fail
                              go_meet
                              case rel => exact ⟨rfl, g, T, last, L, Ai, ci, Au, cu, Aa, ca, rfl, rfl, rfl, rfl, rfl, HJ9, Lib.hid ⟨HT.out.inc, HT.out.t0, HT.out.t1, HT.out.l0, by have := HT.out.l1; omega⟩⟩
                        · have q2 : (x0 == 2) = false := beq_eq_false_iff_ne.2 e2
                          clear e0 e1 e2
                          as_aux_lemma =>
                            have crt := fun (W : World) (V : Vals W At t) => rtuple_any At ct t HTM.out HV.out.2.1 W V
                            have HV0 := Lib.hid (HJ.out.vals HV.out.1)
                            have CRT := Lib.hid crt
                            clear crt
                            by_cases u : lpE T last L x1 t = 0
                            · have ht : tuE t = 0 := by by_cases h : tuE t = 0; exact h; rw [lpE, if_pos h] at u; exact absurd u h
                              have ha : ahB T x1 = true := by
                                rw [lpE, if_neg (by simp [ht])] at u
                                cases h : ahB T x1 with
                                | true => rfl
                                | false => rw [if_pos h] at u; cases u
                              have hl : ¬ (L.length = 20 ∨ last = 10000) := fun h => by rw [lpE, if_neg (by simp [ht]), if_neg (by simp [ha]), if_pos h] at u; cases u
                              have ha2 : T < x1 ∧ x1 ≤ 10000 := by unfold ahB at ha; rw [Bool.and_eq_true, decide_eq_true_eq, decide_eq_true_eq] at ha; exact ha
                              obtain ⟨a1, a2⟩ := ha2
                              have d1 : decide (x1 ≤ T) = false := decide_eq_false (by omega)
                              have d2 : decide (10000 < x1) = false := decide_eq_false (by omega)
                              clear a1 a2
                              have d3 : decide ((20 : Int) ≤ (L.length : Nat)) = false := by simp; omega
                              have hl2 : L.length ≤ 1000000 := by omega
                              have hla : 0 ≤ last := HT.out.l0
                              have hlb : last ≤ 80 := by have := HT.out.l1; omega
                              have crt := CRT.out
                              rw [ht] at crt
                              have CR := Lib.hid crt; have HT0 := Lib.hid ht
                              have cp := fun (W : World) (Ai Au Aa : Option Addr) (ci cu ca : Nat) (I U : List Int) (P : List (List Va)) (j : LJ w W p g T last L Ai ci I Au cu U Aa ca P) => lj_put j At ct t x1 HTM.out HV.out.2.1 HI.out.1 HV.out.1
                              rw [u, if_pos rfl, if_pos rfl, if_pos rfl] at cp
                              have CP := Lib.hid cp
                              have hin : Inn W2 w.heap.size 28 At ∨ t.length = 0 := by
                                rcases Nat.eq_zero_or_pos t.length with h0 | h0
                                · exact .inr h0
                                · exact .inl (((Vin.of_arg HV.out.1 (Nat.le_refl _)).below HJ.out.b (Nat.le_refl _) (Nat.le_refl _)).2 h0)
                              have hin : Inn W2 w.heap.size 28 At := by
                                rcases hin with h | h
                                · exact h
                                · have := (tu_len ht).1; omega
                              have HIN := Lib.hid hin
                              clear u ht ha hl crt cp hin
                              go_upto_region 28 with (go_at_call 38; refine (CR.out _ HV0.out).mono ?_; rintro e w5 ⟨rfl, hb5⟩; have HJ5 := Lib.hid (HJ.out.keep hb5); have HX5 := Lib.hid (HX.out.below hb5 HX.out.lt); have y1 : w5.cell? ⟨wo.heap.size, 1, none⟩ = some (.int .i64 x1) := HX5.out.cell (i := 1) rfl; clear hb5; have hz5 := HJ5.out.les.hb)
                              go_upto_region 29 with (at_builtin; refine wpList_append_wiM rfl _ _ rfl w.heap.size Ai ci (L.map On.id) L.length (by rw [List.length_map]) rfl (HJ5.out.keep (bal1 _ _)).ids w5.heap.size (last + 1) rfl ((AtB.new _ _ _).cell (i := 0) rfl) (by rw [List.length_map]; exact hl2) (le_al hz5 _) ?_; intro b6 o6 c6 w6 h41 h42 h43; have hj6 := (HJ5.out.keep (bal1 _ _)).appI h41 h42 h43; have HJ6 := Lib.hid hj6; have HX6 := Lib.hid ((HX5.out.alloc _).chs (Chs.grown h42) (fun e => absurd (HOI.out _ e) (Nat.lt_irrefl _))); have y1 : w6.cell? ⟨wo.heap.size, 1, none⟩ = some (.int .i64 x1) := HX6.out.cell (i := 1) rfl; clear h41 h42 h43 hj6; have hz6 := HJ6.out.les.hb)
                              go_upto_region 30 with (at_builtin; refine wpList_append_wiM rfl _ _ rfl w.heap.size Au cu (L.map On.un) L.length (by rw [List.length_map]) rfl (HJ6.out.keep (bal1 _ _)).uns w6.heap.size x1 rfl ((AtB.new _ _ _).cell (i := 0) rfl) (by rw [List.length_map]; exact hl2) (le_al hz6 _) ?_; intro b7 o7 c7 w7 h41 h42 h43; have hj6 := (HJ6.out.keep (bal1 _ _)).appU h41 h42 h43; have HJ7 := Lib.hid hj6; have HX7 := Lib.hid ((HX6.out.alloc _).chs (Chs.grown h42) (fun e => absurd (HOU.out _ e) (Nat.lt_irrefl _))); clear h41 h42 h43 hj6; have hz7 := HJ7.out.les.hb; have hv7 := fun (o : Obj) => (Vin.of_arg HV.out.1 (Nat.le_refl _)).below (bal HJ7.out.b o) (Nat.le_refl _) (Nat.le_refl _); have HV7 := Lib.hid hv7; clear hv7)
                              go_upto_region 31 with (at_builtin; refine wpList_append_valsM rfl _ _ rfl w.heap.size Aa ca (L.map On.t) L.length (by rw [List.length_map]) rfl (HJ7.out.keep (bal1 _ _)).all w7.heap.size At t ct rfl ((AtB.new _ _ _).cell (i := 0) rfl) (HV7.out _).1 HV.out.2.2.1 HV.out.2.2.2 ((HV7.out _).2 (tu_len HT0.out).1) (by rw [List.length_map]; exact hl2) (le_al hz7 _) ?_; intro b8 c8 w8 h41 h42 h43; have hj6 := (HJ7.out.keep (bal1 _ _)).appP h41 h42; have HJ8 := Lib.hid hj6; have HX8 := Lib.hid ((HX7.out.alloc _).chs (Chs.grown h42) (fun e => absurd (kin.ne HX7.out.kin (HJ7.out.all.gkin e).2) (by decide))); have y1 : w8.cell? ⟨wo.heap.size, 1, none⟩ = some (.int .i64 x1) := HX8.out.cell (i := 1) rfl; clear h41 h42 h43 hj6)
                              go_wp2_with (first | (go_at_call 42; refine (CP.out _ _ _ _ _ _ _ _ _ _ HJ8.out).mono ?_; rintro e w9 ⟨rfl, g9, hj9⟩; have HJ9 := Lib.hid hj9; have HG9 := Lib.hid hj9.d; clear hj9) | (go_at_call 24; refine (same_eW 0 _ HG9.out).mono ?_; rintro e w10 ⟨rfl, hb10⟩; have HJ10 := Lib.hid (HJ9.out.keep hb10); clear hb10))
                              go_wp2_with fail
                              go_meet
                              case rel => exact ⟨rfl, g9, T, last + 1, L ++ [⟨last + 1, x1, t⟩], some ⟨b6, o6, none⟩, c6, some ⟨b7, o7, none⟩, c7, some ⟨b8, 0, none⟩, c8, rfl, by first | rfl | go_num, by simp, by simp, by simp, Lib.hid (by rw [List.map_append, List.map_append, List.map_append]; exact HJ10.out), Lib.hid ⟨HT.out.inc.app x1 t, HT.out.t0, HT.out.t1, by have := HT.out.l0; omega, by have := HT.out.l1; omega⟩⟩
                            · have cp := lj_put HJ.out At ct t x1 HTM.out HV.out.2.1 HI.out.1 HV.out.1
                              have cp := fun (W : World) (j : LJ w W p g T last L Ai ci (L.map On.id) Au cu (L.map On.un) Aa ca (L.map On.t)) => lj_put j At ct t x1 HTM.out HV.out.2.1 HI.out.1 HV.out.1
                              rw [if_neg u, if_neg u, if_neg u] at cp
                              by_cases ht : tuE t = 0
                              · have crt := CRT.out
                                rw [ht] at crt
                                have CRT := Lib.hid crt
                                clear crt
                                by_cases h1 : x1 ≤ T
                                · have he : lpE T last L x1 t = 1 := by rw [lpE, if_neg (by simp [ht]), if_pos (by unfold ahB; rw [decide_eq_false (show ¬ T < x1 by omega), Bool.false_and])]
                                  rw [he] at cp
                                  have CP := Lib.hid cp
                                  have d1 : decide (x1 ≤ T) = true := decide_eq_true h1
                                  clear cp u he ht h1
                                  go_wp2_with (first | (go_at_call 38; refine (CRT.out _ HV0.out).mono ?_; rintro e w5 ⟨rfl, hb5⟩; have HJ5 := Lib.hid (HJ.out.keep hb5); have y1 : w5.cell? ⟨wo.heap.size, 1, none⟩ = some (.int .i64 x1) := (HX.out.below hb5 HX.out.lt).cell (i := 1) rfl; clear hb5) | (go_at_call 42; refine (CP.out _ HJ5.out).mono ?_; rintro e w9 ⟨rfl, g9, hj9⟩; have HJ9 := Lib.hid hj9; have HG9 := Lib.hid hj9.d; clear hj9) | (go_at_call 24; refine (same_eW _ _ HG9.out).mono ?_; rintro e w10 ⟨rfl, hb10⟩; have HJ10 := Lib.hid (HJ9.out.keep hb10); clear hb10))
                                  go_wp2_with fail
                                  go_meet
                                  case rel => exact ⟨rfl, g9, T, last, L, Ai, ci, Au, cu, Aa, ca, rfl, rfl, rfl, rfl, rfl, HJ10, Lib.hid ⟨HT.out.inc, HT.out.t0, HT.out.t1, HT.out.l0, by have := HT.out.l1; omega⟩⟩
                                · by_cases h2 : 10000 < x1
                                  · have he : lpE T last L x1 t = 1 := by rw [lpE, if_neg (by simp [ht]), if_pos (by unfold ahB; rw [decide_eq_false (show ¬ x1 ≤ 10000 by omega), Bool.and_false])]
                                    rw [he] at cp
                                    have CP := Lib.hid cp
                                    have d1 : decide (x1 ≤ T) = false := decide_eq_false h1
                                    have d2 : decide (10000 < x1) = true := decide_eq_true h2
                                    clear cp u he ht h1 h2
                                    go_wp2_with (first | (go_at_call 38; refine (CRT.out _ HV0.out).mono ?_; rintro e w5 ⟨rfl, hb5⟩; have HJ5 := Lib.hid (HJ.out.keep hb5); have y1 : w5.cell? ⟨wo.heap.size, 1, none⟩ = some (.int .i64 x1) := (HX.out.below hb5 HX.out.lt).cell (i := 1) rfl; clear hb5) | (go_at_call 42; refine (CP.out _ HJ5.out).mono ?_; rintro e w9 ⟨rfl, g9, hj9⟩; have HJ9 := Lib.hid hj9; have HG9 := Lib.hid hj9.d; clear hj9) | (go_at_call 24; refine (same_eW _ _ HG9.out).mono ?_; rintro e w10 ⟨rfl, hb10⟩; have HJ10 := Lib.hid (HJ9.out.keep hb10); clear hb10))
                                    go_wp2_with fail
                                    go_meet
                                    case rel => exact ⟨rfl, g9, T, last, L, Ai, ci, Au, cu, Aa, ca, rfl, rfl, rfl, rfl, rfl, HJ10, Lib.hid ⟨HT.out.inc, HT.out.t0, HT.out.t1, HT.out.l0, by have := HT.out.l1; omega⟩⟩
                                  · have ha : ahB T x1 = true := by unfold ahB; rw [decide_eq_true (show T < x1 by omega), decide_eq_true (show x1 ≤ 10000 by omega)]; rfl
                                    have hl : L.length = 20 := by
                                      have := HT.out.l1
                                      by_cases h3 : L.length = 20 ∨ last = 10000
                                      · rcases h3 with h3 | h3
                                        · exact h3
                                        · omega
                                      · exact absurd (by rw [lpE, if_neg (by simp [ht]), if_neg (by simp [ha]), if_neg h3]) u
                                    have he : lpE T last L x1 t = 4 := by rw [lpE, if_neg (by simp [ht]), if_neg (by simp [ha]), if_pos (.inl hl)]
                                    have d3 : decide ((20 : Int) ≤ (L.length : Nat)) = true := by simp; omega
                                    rw [he] at cp
                                    have CP := Lib.hid cp
                                    have d1 : decide (x1 ≤ T) = false := decide_eq_false h1
                                    have d2 : decide (10000 < x1) = false := decide_eq_false h2
                                    clear cp u he ht ha hl h1 h2
                                    go_wp2_with (first | (go_at_call 38; refine (CRT.out _ HV0.out).mono ?_; rintro e w5 ⟨rfl, hb5⟩; have HJ5 := Lib.hid (HJ.out.keep hb5); have y1 : w5.cell? ⟨wo.heap.size, 1, none⟩ = some (.int .i64 x1) := (HX.out.below hb5 HX.out.lt).cell (i := 1) rfl; clear hb5) | (go_at_call 42; refine (CP.out _ HJ5.out).mono ?_; rintro e w9 ⟨rfl, g9, hj9⟩; have HJ9 := Lib.hid hj9; have HG9 := Lib.hid hj9.d; clear hj9) | (go_at_call 24; refine (same_eW _ _ HG9.out).mono ?_; rintro e w10 ⟨rfl, hb10⟩; have HJ10 := Lib.hid (HJ9.out.keep hb10); clear hb10))
                                    go_wp2_with fail
                                    go_meet
                                    case rel => exact ⟨rfl, g9, T, last, L, Ai, ci, Au, cu, Aa, ca, rfl, rfl, rfl, rfl, rfl, HJ10, Lib.hid ⟨HT.out.inc, HT.out.t0, HT.out.t1, HT.out.l0, by have := HT.out.l1; omega⟩⟩
                              · have he : lpE T last L x1 t = tuE t := by rw [lpE, if_pos ht]
                                have q : (tuE t == 0) = false := beq_eq_false_iff_ne.2 ht
                                rw [he] at cp
                                generalize tuE t = E at *
                                have CP := Lib.hid cp
                                clear cp u he ht
                                go_wp2_with (first | (go_at_call 38; refine (CRT.out _ HV0.out).mono ?_; rintro e w5 ⟨rfl, hb5⟩; have HJ5 := Lib.hid (HJ.out.keep hb5); have y1 : w5.cell? ⟨wo.heap.size, 1, none⟩ = some (.int .i64 x1) := (HX.out.below hb5 HX.out.lt).cell (i := 1) rfl; clear hb5) | (go_at_call 42; refine (CP.out _ HJ5.out).mono ?_; rintro e w9 ⟨rfl, g9, hj9⟩; have HJ9 := Lib.hid hj9; have HG9 := Lib.hid hj9.d; clear hj9) | (go_at_call 24; refine (same_eW _ _ HG9.out).mono ?_; rintro e w10 ⟨rfl, hb10⟩; have HJ10 := Lib.hid (HJ9.out.keep hb10); clear hb10))
                                go_wp2_with fail
                                go_meet
                                case rel => exact ⟨rfl, g9, T, last, L, Ai, ci, Au, cu, Aa, ca, rfl, rfl, rfl, rfl, rfl, HJ10, Lib.hid ⟨HT.out.inc, HT.out.t0, HT.out.t1, HT.out.l0, by have := HT.out.l1; omega⟩⟩
                case rest =>
                  as_aux_lemma =>
                    clear HJ HT
                    obtain ⟨rfl, g, T, last, L, Ai, ci, Au, cu, Aa, ca, rfl, rfl, rfl, rfl, rfl, HJ, HT⟩ := hcut
                    obtain ⟨W3, hw⟩ : ∃ W3 : World, W3 = wc := ⟨_, rfl⟩
                    subst hw
                    have CC := Lib.hid (lj_count HJ.out)
                    go_wp2_with (go_at_call 44; refine CC.out.mono ?_; rintro e w' ⟨rfl, rfl⟩)
                    go_roundw
                    case rel => exact ⟨k + 1, g, T, last, L, Ai, ci, Au, cu, Aa, ca, by omega, by omega, by go_num, rfl, rfl, rfl, rfl, rfl, HJ, HT⟩
                    case measure => first | (simp [intOf]; omega) | simp [intOf]
      · have hf : decide ((k : Int) < 80) = false := by simp; omega
        go_wp2_with fail
        go_ret
        exact ⟨ret_true (by first | rfl | (simp; done) | (simp; omega)), HJ.out.b⟩
    · have hf : decide ((k : Int) < (sts.length : Nat)) = false := by simp; omega
      go_wp2_with fail
      go_ret
      exact ⟨ret_true (by first | rfl | (simp; done) | (simp; omega)), HJ.out.b⟩
end Go.Proofs.YthpemlhlgjdnkaaDoor.leasePlays
