/- VaultPlays: the walk. -/
import Derived.Test.YtamndgeeibfmhaaDoorVpSeg8
import Derived.Test.YtamndgeeibfmhaaDoorVpSegW
import Derived.Test.YtamndgeeibfmhaaDoorRefNext
import Derived.Test.YtamndgeeibfmhaaDoorDoor
import Derived.Deep.RegionHeld3
import Derived.WalkKit
import Derived.WalkLawsBesides
import Derived.WalkSpells
import Derived.RegionTactic
import Derived.Deep.QuietTactic
import Derived.BigQuiet
import Derived.Deep.CutBlock
import Derived.Deep.DeepCutAuto
import Derived.Outline
namespace Go.Proofs.YtamndgeeibfmhaaDoor.vaultPlays
open Go.ChangeShapes Go.WideShapes Go.ChangeAt Go.RowKit Go.Deep
set_option linter.unusedVariables false

theorem same_errW (n : Int) (W : World) (h : HG W) : Calls Tryd.prog 11 #[errV n, .int .i64 n] W fun e w' => e = .returned (.bool true) ∧ Below W.heap.size W w' :=
  (same_err n W W (DG.refl h)).mono fun e w' ⟨h1, h2⟩ => ⟨h1, h2.2⟩
theorem same_eW (n : Int) (W : World) (h : HG W) : Calls Tryd.prog 11 #[eV n, .int .i64 n] W fun e w' => e = .returned (.bool true) ∧ Below W.heap.size W w' :=
  (same_eV n W W (DG.refl h)).mono fun e w' ⟨h1, h2⟩ => ⟨h1, h2.2⟩
theorem same_nilW (W : World) : Calls Tryd.prog 11 #[.nilIface, .int .i64 0] W fun e w' => e = .returned (.bool true) ∧ Below W.heap.size W w' :=
  (same_nil W).mono fun e w' ⟨h1, h2⟩ => ⟨h1, h2 ▸ Below.refl _ _⟩
/-- where the name was found among the first k -/
def Fnd (N : List ByteArray) (s : ByteArray) (k : Nat) (z : Int) : Prop := (z = -1 ∧ ∀ j, j < k → gs N j ≠ s) ∨ ∃ i : Nat, z = (i : Int) ∧ i < k ∧ gs N i = s
theorem Fnd.yes {N : List ByteArray} {s : ByteArray} {k : Nat} (h : gs N k = s) : Fnd N s (k + 1) k := .inr ⟨k, rfl, by omega, h⟩
theorem Fnd.no {N : List ByteArray} {s : ByteArray} {k : Nat} {z : Int} (h : gs N k ≠ s) (f : Fnd N s k z) : Fnd N s (k + 1) z := by
  rcases f with ⟨h1, h2⟩ | ⟨i, h1, h2, h3⟩
  · refine .inl ⟨h1, fun j hj => ?_⟩
    rcases Nat.lt_or_ge j k with hl | hl
    · exact h2 j hl
    · obtain rfl : j = k := by omega
      exact h
  · exact .inr ⟨i, h1, by omega, h3⟩
theorem Fnd.lo {N : List ByteArray} {s : ByteArray} {k : Nat} {z : Int} (f : Fnd N s k z) : -1 ≤ z ∧ z < k := by
  rcases f with ⟨h1, _⟩ | ⟨i, h1, h2, _⟩ <;> omega
/-- what is found agrees with the vault -/
theorem Fnd.rel {n : Nat} {K : ByteArray → Option (List Int)} {N : List ByteArray} {P : List (List Int)} {s : ByteArray} {z : Int} (f : Fnd N s N.length z) (r : Rel n K N P) : (z = -1 ∧ K s = none) ∨ ∃ i : Nat, z = (i : Int) ∧ i < N.length ∧ K s = some (gg P i) := by
  rcases f with ⟨h1, h2⟩ | ⟨i, h1, h2, h3⟩
  · exact .inl ⟨h1, r.out s h2⟩
  · exact .inr ⟨i, h1, h2, by rw [← h3]; exact r.at_ i h2⟩
set_option maxHeartbeats 12800000 in
set_option maxRecDepth 100000 in
theorem walk (w : World) (hg : HG w) (m : Int) (_ : I64 m) (nd : Int) (_ : I64 nd) (S1 : Option Addr) (d1 : Nat) (names : List ByteArray) (hn1 : names.length ≤ d1) (hm1 : d1 ≤ maxLen) (hN : Strs w S1 names) (hns : ∀ i, i < names.length → (gs names i).size ≤ maxLen)
    (S2 : Option Addr) (d2 : Nat) (secs : List Int) (hn2 : secs.length ≤ d2) (hm2 : d2 ≤ maxLen) (hS : Ints w S2 secs) (_ : ∀ i, i < secs.length → I64 (gi secs i))
    (S3 : Option Addr) (d3 : Nat) (rests : List (List Int)) (hn3 : rests.length ≤ d3) (hm3 : d3 ≤ maxLen) (hR : Many Ints w S3 rests) (_ : ∀ i, i < rests.length → ∀ j, j < (gg rests i).length → I64 (gi (gg rests i) j))
    (S4 : Option Addr) (d4 : Nat) (l : List (List Sh)) (hn4 : l.length ≤ d4) (hm4 : d4 ≤ maxLen) (hL : Many Shares w S4 l) (_ : ∀ i, i < l.length → ∀ j, j < (gg l i).length → I64 (ga (gg l i) j) ∧ I64 (gb (gg l i) j)) :
    Calls Tryd.prog 6 #[.int .i64 m, .int .i64 nd, .slice S1 names.length d1, .slice S2 secs.length d2, .slice S3 rests.length d3, .slice S4 l.length d4] w fun e w' => e = .returned (.bool true) ∧ Below w.heap.size w w' := by
  have HG0 := Lib.hid hg; have HN := Lib.hid hN; have HS := Lib.hid hS; have HR := Lib.hid hR; have HL := Lib.hid hL; have HNS := Lib.hid hns
  clear hg hN hS hR hL hns
  unfold maxLen at hm1 hm2 hm3 hm4
  by_cases hval : 1 ≤ m ∧ m ≤ 7 ∧ 1 ≤ nd ∧ nd ≤ m
  · obtain ⟨v1, v2, v3, v4⟩ := hval
    obtain ⟨mm, rfl⟩ := Int.eq_ofNat_of_zero_le (show 0 ≤ m by omega)
    obtain ⟨nn, rfl⟩ := Int.eq_ofNat_of_zero_le (show 0 ≤ nd by omega)
    have cn := vtnew_ok mm nn (by omega) (by omega) (by omega) w (base := w.heap.size) (Nat.le_refl _)
    have CN := Lib.hid cn
    clear cn
    go_enter Tryd.func6, Tryd.ntmps6
    go_wp2_with (first
      | (go_at_call 21; refine CN.out.mono ?_; rintro e0 w1 ⟨p, M, rfl, hV1, hb1⟩; have HV1 := Lib.hid hV1; have HB1 := Lib.hid hb1; clear hV1 hb1)
      | (go_at_call 11; refine (same_nilW _).mono ?_; rintro e0 w2 ⟨rfl, hb2⟩; have HJ0 : Hid (VP w w2 p M 0 mm nn (fun _ => none) none 0 [] none 0 [] none 0 []) := Lib.hid ⟨HG0.out, bcl HB1.out hb2, HV1.out.keep hb2, OStrs.nil, OMany.nil, OMany.nil⟩; clear hb2))
    clear HV1 HB1 CN
    go_loopw [13, 16, 17, 18, 19, 20, 21, 22, 23, 24, 25, 26, 27, 28, 29, 30, 31, 32, 33, 34, 35, 36, 37, 38, 39, 40, 41, 42] (fun _ _ s17 s18 s19 s20 _ _ _ _ _ _ _ _ _ _ _ _ _ _ _ _ _ _ _ _ _ _ wr => ∃ (k n : Nat) (K : ByteArray → Option (List Int)) (A1 : Option Addr) (c1 : Nat) (N : List ByteArray) (A2 : Option Addr) (c2 : Nat) (A3 : Option Addr) (c3 : Nat) (P : List (List Int)), k ≤ names.length ∧ k ≤ 30 ∧ s20 = .int .i64 k ∧ s17 = .slice A1 N.length c1 ∧ s18 = .slice A2 P.length c2 ∧ s19 = .slice A3 P.length c3 ∧ Hid (VP w wr p M n mm nn K A1 c1 N A2 c2 P A3 c3 P) ∧ Hid (Rel n K N P)) (fun _ _ _ _ _ i _ _ _ _ _ _ _ _ _ _ _ _ _ _ _ _ _ _ _ _ _ _ _ => 31 - (intOf i).toNat)
    case atStart => exact ⟨0, 0, _, none, 0, [], none, 0, none, 0, [], Nat.zero_le _, by omega, rfl, rfl, rfl, rfl, HJ0, Rel.nil⟩
    case round =>
      clear HJ0
      obtain ⟨k, n, K, A1, c1, N, A2, c2, A3, c3, P, hkl, hk30, rfl, rfl, rfl, rfl, HJ, HREL⟩ := hrel
      by_cases t1 : k < names.length
      · by_cases t2 : k < 30
        · obtain ⟨b1, o1, rfl, hl1, cn0⟩ := HN.out.at_ t1
          have i0 : (0 : Int) ≤ (k : Int) := by omega
          have i1 : (k : Int) < (names.length : Nat) := by omega
          have hsz := HNS.out k t1
          have hn20 : N.length ≤ 20 := by rw [← HREL.out.len.2]; exact HJ.out.v.n20
          generalize gs names k = nm at *
          have HCN := Lib.hid cn0; have HSZ := Lib.hid hsz
          clear cn0 hsz
          -- the secret
          obtain ⟨x, hx⟩ : ∃ x, x = if k < secs.length then gi secs k else 0 := ⟨_, rfl⟩
          go_upto_if 87 with fail
          go_cut [21] (fun s21 wx => s21 = .int .i64 x ∧ wx = wr)
          case first =>
            as_aux_lemma =>
              by_cases u1 : k < secs.length
              · obtain ⟨b2, o2, rfl, hl2, cs0⟩ := (HS.out.below HJ.out.b (Nat.le_refl _)).at_ u1
                have i2 : (k : Int) < (secs.length : Nat) := by omega
                rw [if_pos u1] at hx
                rw [← hx] at cs0
                clear hx
                go_wp2_with fail
                go_meet
                case rel => exact ⟨rfl, by first | rfl | trivial⟩
              · have i2 : decide ((k : Int) < (secs.length : Nat)) = false := by simp; omega
                rw [if_neg u1] at hx
                have HX := Lib.hid hx
                clear hx
                go_wp2_with fail
                go_meet
                case rel => exact ⟨by rw [HX.out], by first | rfl | trivial⟩
          case rest =>
            as_aux_lemma =>
              obtain ⟨rfl, rfl⟩ := hcut
              clear hx
              obtain ⟨W1, hw⟩ : ∃ W1 : World, W1 = wc := ⟨_, rfl⟩
              subst hw
              -- what is beside it
              obtain ⟨r, hr⟩ : ∃ r, r = if k < rests.length then gg rests k else [] := ⟨_, rfl⟩
              go_upto_if 95 with fail
              go_cut [22] (fun s22 wx => wx = W1 ∧ ∃ (Ar : Option Addr) (cr : Nat), s22 = .slice Ar r.length cr ∧ Hid (Ints w Ar r ∧ r.length ≤ maxLen))
              case first =>
                as_aux_lemma =>
                  by_cases u1 : k < rests.length
                  · obtain ⟨b2, o2, Ar, cr, rfl, hl2, cs0, hq, hq1, hq2⟩ := HR.out.at_ u1
                    have i2 : (k : Int) < (rests.length : Nat) := by omega
                    rw [if_pos u1] at hr
                    rw [← hr] at cs0 hq hq1
                    have e0 := (HJ.out.b.cell (p := ⟨b2, o2 + k, none⟩) hl2).trans cs0
                    have HQ := Lib.hid (And.intro hq (Nat.le_trans hq1 hq2))
                    clear hr cs0 hq hq1 hq2
                    go_wp2_with fail
                    go_meet
                    case rel => exact ⟨by first | rfl | trivial, Ar, cr, rfl, HQ⟩
                  · have i2 : decide ((k : Int) < (rests.length : Nat)) = false := by simp; omega
                    rw [if_neg u1] at hr
                    have HR0 := Lib.hid hr
                    clear hr
                    go_wp2_with fail
                    go_meet
                    case rel => exact ⟨by first | rfl | trivial, none, 0, by rw [HR0.out]; rfl, Lib.hid (by rw [HR0.out]; exact ⟨Sl.zero, by simp⟩)⟩
              case rest =>
                as_aux_lemma =>
                  obtain ⟨rfl, Ar, cr, rfl, HAR⟩ := hcut
                  clear hr
                  obtain ⟨W2, hw⟩ : ∃ W2 : World, W2 = wc := ⟨_, rfl⟩
                  subst hw
                  go_upto_block 2 with fail
                  go_cut [23] (fun s23 wx => ∃ z : Int, s23 = .int .i64 z ∧ Hid (Fnd N nm N.length z) ∧ Hid (Below W2.heap.size W2 wx))
                  case first =>
                    as_aux_lemma =>
                      go_wp2_with fail
                      go_loopw [23, 24] (fun s23 s24 wx => ∃ (j : Nat) (z : Int), j ≤ N.length ∧ s24 = .int .i64 j ∧ s23 = .int .i64 z ∧ Hid (Fnd N nm j z) ∧ Hid (Below W2.heap.size W2 wx)) (fun _ j _ => N.length - (intOf j).toNat)
                      case atStart => exact ⟨0, -1, Nat.zero_le _, rfl, rfl, .inl ⟨rfl, fun j hj => absurd hj (by omega)⟩, Below.refl _ _⟩
                      case round =>
                        obtain ⟨j, z, hj, rfl, rfl, HF, HBL⟩ := hrel
                        by_cases hlt : j < N.length
                        · obtain ⟨b2, o2, rfl, hl2, ch0⟩ := (HJ.out.hs.strs.below HBL.out (Nat.le_refl _)).at_ hlt
                          have e0 := ((bcl HJ.out.b HBL.out).cell (p := ⟨b1, o1 + k, none⟩) hl1).trans HCN.out
                          have j0 : (0 : Int) ≤ (j : Int) := by omega
                          have j1 : (j : Int) < (N.length : Nat) := by omega
                          by_cases e : gs N j = nm
                          · have HF2 := Lib.hid (Fnd.yes e)
                            have q := str_same nm
                            rw [e] at ch0
                            clear e
                            go_wp2_with fail
                            go_quiet (fail)
                            go_wp2_with fail
                            go_roundw
                            case rel => exact ⟨j + 1, (j : Int), by omega, by go_num, rfl, HF2, Lib.hid (bdn HBL.out _)⟩
                            case measure => simp [intOf]; omega
                          · have HF2 := Lib.hid (Fnd.no e HF.out)
                            have q := str_other e
                            generalize gs N j = nj at *
                            clear e
                            go_wp2_with fail
                            go_quiet (fail)
                            go_wp2_with fail
                            go_roundw
                            case rel => exact ⟨j + 1, z, by omega, by go_num, rfl, HF2, Lib.hid (bdn HBL.out _)⟩
                            case measure => simp [intOf]; omega
                        · obtain rfl : j = N.length := by omega
                          go_wp2_with fail
                          go_meet
                          case rel => exact ⟨z, rfl, HF, HBL⟩
                  case rest =>
                    as_aux_lemma =>
                      obtain ⟨z, rfl, HF, HB3⟩ := hcut
                      obtain ⟨W3, hw⟩ : ∃ W3 : World, W3 = wc := ⟨_, rfl⟩
                      subst hw
                      have HJ3 := Lib.hid (HJ.out.keep HB3.out)
                      clear HJ HB3
                      obtain ⟨zlo, zhi⟩ := HF.out.lo
                      have HKZ := Lib.hid (HF.out.rel HREL.out)
                      have n3 := (HJ3.out.b.cell (p := ⟨b1, o1 + k, none⟩) hl1).trans HCN.out
                      have hl1' := hl1
                      clear hl1
                      obtain ⟨v1e, hv1⟩ : ∃ v1e, v1e = v1E nm z nn x r mm := ⟨_, rfl⟩
                      obtain ⟨E, hE⟩ : ∃ E, E = vpE n mm nn K nm x r := ⟨_, rfl⟩
                      have hvE : E = if v1e ≠ 0 then v1e else if N.length = 20 then 4 else 0 := by
                        rw [hE, hv1, ← HREL.out.len.2]
                        refine vp_split ?_
                        rcases HKZ.out with ⟨h1, h2⟩ | ⟨i, h1, h2, h3⟩
                        · exact .inl ⟨h1, h2⟩
                        · exact .inr ⟨by omega, _, h3⟩
                      have HVE := Lib.hid hvE; have HV1 := Lib.hid hv1; have HE := Lib.hid hE
                      clear hvE hv1 hE
                      go_upto_if 121 with fail
                      go_cut [13] (fun s13 wx => s13 = .int .i64 v1e ∧ wx = W3)
                      case first =>
                        as_aux_lemma =>
                          by_cases a1 : 12 < nm.size
                          · have HVV := Lib.hid (HV1.out.trans (v1E_a a1))
                            go_wp2_with fail
                            go_meet
                            case rel => exact ⟨by rw [HVV.out], by first | rfl | trivial⟩
                          · by_cases a2 : 0 ≤ z
                            · skip
                              have HVV := Lib.hid (HV1.out.trans (v1E_b a1 a2))
                              go_wp2_with fail
                              go_meet
                              case rel => exact ⟨by rw [HVV.out], by first | rfl | trivial⟩
                            · skip
                              by_cases a3 : r.length + 1 ≠ nn
                              · have hrn : ((r.length : Int) != (nn : Int) - 1) = true := bne_iff_ne.2 (by omega)
                                have HVV := Lib.hid (HV1.out.trans (v1E_c a1 a2 a3))
                                clear a3
                                go_wp2_with fail
                                go_meet
                                case rel => exact ⟨by rw [HVV.out], by first | rfl | trivial⟩
                              · have hrn : ((r.length : Int) != (nn : Int) - 1) = false := by
                                  have : (r.length : Int) = (nn : Int) - 1 := by omega
                                  simp [this]
                                have hvv := HV1.out.trans (v1E_d a1 a2 a3)
                                have cd := rdealt_any x Ar cr r (mm : Int) W3 (HAR.out.1.below HJ3.out.b (Nat.le_refl _))
                                rw [← hvv] at cd
                                have CD := Lib.hid cd
                                clear hvv a3 cd
                                go_wp2_with (go_at_call 22; refine CD.out.mono ?_; rintro e w' ⟨rfl, rfl⟩)
                                go_meet
                                case rel => exact ⟨rfl, by first | rfl | trivial⟩
                      case rest =>
                        as_aux_lemma =>
                          obtain ⟨rfl, rfl⟩ := hcut
                          obtain ⟨W4, hw⟩ : ∃ W4 : World, W4 = wc := ⟨_, rfl⟩
                          subst hw
                          obtain ⟨tb, htb⟩ : ∃ tb, tb = ((v1e == 0) && decide ((20 : Int) ≤ (N.length : Nat))) := ⟨_, rfl⟩
                          have HTB0 := Lib.hid htb
                          clear htb
                          go_upto_region 34 with fail
                          go_cut [139] (fun s wx => s = .bool tb ∧ wx = W4)
                          case first =>
                            as_aux_lemma =>
                              by_cases b1 : v1e = 0
                              · have q1 : (v1e == 0) = true := beq_iff_eq.2 b1
                                have htb' := HTB0.out
                                rw [q1, Bool.true_and] at htb'
                                have HTB := Lib.hid htb'
                                clear htb' b1
                                cases hb : decide ((20 : Int) ≤ (N.length : Nat)) with
                                | true =>
                                  go_wp2_with fail
                                  go_meet
                                  case rel => exact ⟨by rw [HTB.out, hb], by first | rfl | trivial⟩
                                | false =>
                                  go_wp2_with fail
                                  go_meet
                                  case rel => exact ⟨by rw [HTB.out, hb], by first | rfl | trivial⟩
                              · have q1 : (v1e == 0) = false := beq_eq_false_iff_ne.2 b1
                                have htb' := HTB0.out
                                rw [q1, Bool.false_and] at htb'
                                have HTB := Lib.hid htb'
                                clear htb' b1
                                go_wp2_with fail
                                go_meet
                                case rel => exact ⟨by rw [HTB.out], by first | rfl | trivial⟩
                          case rest =>
                            as_aux_lemma =>
                              obtain ⟨rfl, rfl⟩ := hcut
                              obtain ⟨W5, hw⟩ : ∃ W5 : World, W5 = wc := ⟨_, rfl⟩
                              subst hw
                              have HE2 := Lib.hid (show (if tb = true then 4 else v1e) = E by
                                rw [HVE.out, HTB0.out]
                                by_cases b1 : v1e = 0
                                · rw [b1]
                                  by_cases b2 : N.length = 20
                                  · simp [b2]
                                  · have : ¬ (20 : Int) ≤ (N.length : Nat) := by omega
                                    simp [b2, this]
                                · simp [b1])
                              clear HTB0 HVE HV1
                              go_upto_if 139 with fail
                              go_cut [13] (fun s13 wx => s13 = .int .i64 E ∧ wx = W5)
                              case first =>
                                as_aux_lemma =>
                                  have hE2 := HE2.out
                                  have HF := Lib.hid hE2
                                  clear hE2
                                  cases tb with
                                  | true =>
                                    go_wp2_with fail
                                    go_meet
                                    case rel => exact ⟨by rw [← HF.out]; rfl, by first | rfl | trivial⟩
                                  | false =>
                                    go_wp2_with fail
                                    go_meet
                                    case rel => exact ⟨by rw [← HF.out]; rfl, by first | rfl | trivial⟩
                              case rest =>
                                as_aux_lemma =>
                                  obtain ⟨rfl, rfl⟩ := hcut
                                  obtain ⟨W6, hw⟩ : ∃ W6 : World, W6 = wc := ⟨_, rfl⟩
                                  subst hw
                                  clear HE2
                                  go_upto_if 141 with fail
                                  go_cut [17, 18, 19, 23, 25] (fun s17 s18 s19 s23 _ wx => ∃ (A1' : Option Addr) (c1' : Nat) (N' : List ByteArray) (A2' : Option Addr) (c2' : Nat) (A3' : Option Addr) (c3' : Nat) (P' : List (List Int)) (z' : Int), s17 = .slice A1' N'.length c1' ∧ s18 = .slice A2' P'.length c2' ∧ s19 = .slice A3' P'.length c3' ∧ s23 = .int .i64 z' ∧ Hid (VP w wx p M n mm nn K A1' c1' N' A2' c2' P' A3' c3' P') ∧ Hid ((E = 0 ∧ N' = N ++ [nm] ∧ P' = P ++ [x :: r] ∧ z' = N.length) ∨ (E ≠ 0 ∧ N' = N ∧ P' = P ∧ z' = z)))
                                  case first =>
                                    as_aux_lemma =>
                                      by_cases e0 : E = 0
                                      · have hsh : shE x r mm = 0 := vpE_sh (HE.out ▸ e0)
                                        obtain ⟨s1, s2, s3, s4, s5⟩ := shE_zero hsh
                                        have hall : allIn (x :: r) (x :: r).length = true := all_cons s1 s3
                                        have hlen : (x :: r).length = 1 + r.length := by simp; omega
                                        have cdl := fun (W : World) (hW : Ints W Ar r) => rdeal_any x Ar cr r mm hsh W hW
                                        have ccm := fun (W : World) (A' : Option Addr) (c' : Nat) (hW : Ints W A' (x :: r)) => rcommit_any A' c' (x :: r) (by rw [hlen]; omega) hall W hW
                                        rw [hlen] at ccm
                                        have CDL := Lib.hid cdl; have CCM := Lib.hid ccm; have HE0 := Lib.hid e0; have HLEN := Lib.hid hlen
                                        have hl1 : ([x] : List Int).length + r.length ≤ 1000000 := by simp; omega
                                        have hn2 : N.length ≤ 1000000 := by omega
                                        have hp2 : P.length ≤ 1000000 := by have := HREL.out.len.1; omega
                                        have n6 := (HJ3.out.b.cell (p := ⟨b1, o1 + k, none⟩) hl1').trans HCN.out
                                        have HAR6 := Lib.hid (HAR.out.1.below HJ3.out.b (Nat.le_refl _))
                                        have q0 : (E == 0) = true := beq_iff_eq.2 e0
                                        clear hsh s1 s2 s3 s4 s5 hall cdl ccm e0 hlen
                                        go_upto_region 40 with (at_builtin; refine wpList_append_ints rfl _ _ rfl W6.heap.size (some ⟨W6.heap.size, 0, none⟩) 1 [x] rfl (own_lit W6 x rfl (Nat.le_refl _)) Ar cr r rfl (Sl.alloc HAR6.out _) hl1 (le_al (Nat.le_refl _) _) ?_; intro Ap cp w7 ho7 hb7; have hb67 : Below W6.heap.size W6 w7 := (bal1 W6 _).trans hb7; have HJ7 := Lib.hid (HJ3.out.keep hb67); have HP7 := Lib.hid ho7; have n7 := (HJ7.out.b.cell (p := ⟨b1, o1 + k, none⟩) hl1').trans HCN.out; have HZ7 := Lib.hid hb67.size; clear ho7 hb7 hb67)
                                        go_upto_region 41 with (at_builtin; refine wpList_append_strG rfl _ _ rfl w.heap.size A1 c1 N rfl (HJ7.out.keep (bal1 _ _)).hs w7.heap.size nm rfl ((AtB.new _ _ _).cell (i := 0) rfl) hn2 (le_al HJ7.out.v.hb _) ?_; intro A8 c8 w8 h81 h82; have HP8 := Lib.hid (own_other HP7.out (fun g e => (own_block_of HJ7.out.hs e).2) (by decide) h82); have HJ8 := Lib.hid ((HJ7.out.keep (bal1 _ _)).hs_ h81 h82); have HAR8 := Lib.hid (HAR.out.1.below HJ8.out.b (Nat.le_refl _)); clear h81 h82)
                                        go_upto_region 42 with (first | (go_at_call 23; refine (CDL.out _ HAR8.out).mono ?_; rintro e w9 ⟨Ad, cd, rfl, ho9, hb9⟩; have HJ9 := Lib.hid (HJ8.out.keep hb9); have HP9 := Lib.hid (own_keep HP8.out hb9); have HD9 := Lib.hid ho9; clear ho9 hb9) | (at_builtin; refine wpList_app_manyG shares_stay rfl _ _ 53 58 64 rfl Tryd.underlying53 infoShs (by decide) w.heap.size A2 c2 (P.map fun q => dealL q mm) P.length (by rw [List.length_map]) rfl (HJ9.out.keep (bal1 _ _)).sh w9.heap.size Ad (dealL (x :: r) mm) cd mm (dealL_length _ _) rfl ((AtB.new _ _ _).cell (i := 0) rfl) (HD9.out.keep (bal1 _ _)).shares (by have := (HD9.out.cap).1; exact this) (HD9.out.cap).2 (Inn.own (HD9.out.keep (bal1 _ _))) (by rw [List.length_map]; exact hp2) (le_al HJ9.out.v.hb _) ?_; intro A10 c10 w10 h1 h2; have HP10 := Lib.hid (own_other HP9.out (fun g e => (HJ9.out.sh.gkinV e).2) (by decide) h2); have HJ10 := Lib.hid ((HJ9.out.keep (bal1 _ _)).sh_ (P' := P ++ [x :: r]) (by rw [List.map_append]; exact h1) h2); clear h1 h2))
                                        go_wp2_with (first | (go_at_call 24; refine (CCM.out _ _ _ (OInts.ints HP10.out)).mono ?_; rintro e w11 ⟨Ac, cc, rfl, ho11, hb11⟩; have HJ11 := Lib.hid (HJ10.out.keep hb11); have HC11 := Lib.hid ho11; clear ho11 hb11) | (at_builtin; refine wpList_app_manyG ints_stay rfl _ _ 52 51 3 rfl Tryd.underlying52 infoIts (by decide) w.heap.size A3 c3 (P.map cmt) P.length (by rw [List.length_map]) rfl (HJ11.out.keep (bal1 _ _)).cm w11.heap.size Ac (cmt (x :: r)) cc (1 + r.length) (by rw [cmt_length]; exact HLEN.out) rfl ((AtB.new _ _ _).cell (i := 0) rfl) (HC11.out.keep (bal1 _ _)).ints (HC11.out.cap).1 (HC11.out.cap).2 (Inn.own (HC11.out.keep (bal1 _ _))) (by rw [List.length_map]; exact hp2) (le_al HJ11.out.v.hb _) ?_; intro A12 c12 w12 h1 h2; have HJ12 := Lib.hid ((HJ11.out.keep (bal1 _ _)).cm_ (P' := P ++ [x :: r]) (by rw [List.map_append]; exact h1) h2); clear h1 h2))
                                        go_wp2_with fail
                                        go_meet
                                        case rel => exact ⟨A8, c8, N ++ [nm], A10, c10, A12, c12, P ++ [x :: r], N.length, by simp, by simp, by simp, rfl, HJ12, Lib.hid (.inl ⟨HE0.out, rfl, rfl, rfl⟩)⟩
                                      · have q1 : (E == 0) = false := beq_eq_false_iff_ne.2 e0
                                        have HE0 := Lib.hid e0
                                        clear e0
                                        go_wp2_with fail
                                        go_meet
                                        case rel => exact ⟨A1, c1, N, A2, c2, A3, c3, P, z, rfl, rfl, rfl, rfl, HJ3, Lib.hid (.inr ⟨HE0.out, rfl, rfl, rfl⟩)⟩
                                  case rest =>
                                    as_aux_lemma =>
                                      obtain ⟨A1', c1', N', A2', c2', A3', c3', P', z', rfl, rfl, rfl, rfl, HJ7, HCASE⟩ := hcut
                                      obtain ⟨W7, hw⟩ : ∃ W7 : World, W7 = wc := ⟨_, rfl⟩
                                      subst hw
                                      clear HJ3
                                      have cpt := vpput HJ7.out nm HSZ.out x Ar cr r HAR.out.2 (HAR.out.1.below HJ7.out.b (Nat.le_refl _))
                                      rw [← HE.out] at cpt
                                      obtain ⟨n5, hn5⟩ : ∃ n5, n5 = if E = 0 then n + 1 else n := ⟨_, rfl⟩
                                      obtain ⟨K5, hK5⟩ : ∃ K5, K5 = if E = 0 then (fun t => if t = nm then some (x :: r) else K t) else K := ⟨_, rfl⟩
                                      rw [← hn5, ← hK5] at cpt
                                      obtain ⟨HREL5, HZ5⟩ : Hid (Rel n5 K5 N' P') ∧ Hid ((z' = -1 ∧ K5 nm = none) ∨ ∃ i : Nat, z' = (i : Int) ∧ i < N'.length ∧ K5 nm = some (gg P' i)) := by
                                        rcases HCASE.out with ⟨e0, h1, h2, h3⟩ | ⟨e0, h1, h2, h3⟩
                                        · rw [if_pos e0] at hn5 hK5
                                          have hz := vpE_none (HE.out ▸ e0)
                                          have hno : ∀ j, j < N.length → gs N j ≠ nm := fun j hj e => by
                                            have := HREL.out.at_ j hj
                                            rw [e, hz] at this; cases this
                                          subst h1 h2 h3 hn5 hK5
                                          refine ⟨Lib.hid (HREL.out.add (x :: r) hno), Lib.hid (.inr ⟨N.length, rfl, by simp, ?_⟩)⟩
                                          show (if nm = nm then some (x :: r) else K nm) = _
                                          rw [if_pos rfl, HREL.out.len.1, gg_append_eq]
                                        · rw [if_neg e0] at hn5 hK5
                                          subst h1 h2 h3 hn5 hK5
                                          exact ⟨HREL, HKZ⟩
                                      have n7 := (HJ7.out.b.cell (p := ⟨b1, o1 + k, none⟩) hl1').trans HCN.out
                                      have CPT := Lib.hid cpt
                                      clear cpt hn5 hK5 HE HCASE HKZ HREL
                                      go_upto_if 181 with (first | (go_at_call 25; refine CPT.out.mono ?_; rintro e w8 ⟨rfl, hj8⟩; have HJ8 := Lib.hid hj8; have HG8 := Lib.hid hj8.hg; clear hj8) | (go_at_call 11; refine (same_eW _ _ HG8.out).mono ?_; rintro e w9 ⟨rfl, hb9⟩; have HJ9 := Lib.hid (HJ8.out.keep hb9); clear hb9))
                                      go_cut [26] (fun s26 wx => wx = w9 ∧ ∃ (As : Option Addr) (cs : Nat) (S : List Sh), s26 = .slice As S.length cs ∧ Hid (Shares w As S ∧ S.length ≤ cs ∧ cs ≤ maxLen))
                                      case first =>
                                        as_aux_lemma =>
                                          by_cases u1 : k < l.length
                                          · obtain ⟨b2, o2, As, cs, rfl, hl2, ct0, hv, hv1, hv2⟩ := HL.out.at_ u1
                                            have s0 := (HJ9.out.b.cell (p := ⟨b2, o2 + k, none⟩) hl2).trans ct0
                                            have k1 : (k : Int) < (l.length : Nat) := by omega
                                            have HV := Lib.hid (And.intro hv (And.intro hv1 hv2))
                                            clear ct0 hv hv1 hv2
                                            go_wp2_with fail
                                            go_meet
                                            case rel => exact ⟨by first | rfl | trivial, As, cs, gg l k, rfl, HV⟩
                                          · have k1 : decide ((k : Int) < (l.length : Nat)) = false := by simp; omega
                                            go_wp2_with fail
                                            go_meet
                                            case rel => exact ⟨by first | rfl | trivial, none, 0, [], rfl, Lib.hid ⟨Sl.zero, by simp, by simp⟩⟩
                                      case rest =>
                                        as_aux_lemma =>
                                          obtain ⟨rfl, As, cs, S, rfl, HS9⟩ := hcut
                                          obtain ⟨W9, hw⟩ : ∃ W9 : World, W9 = wc := ⟨_, rfl⟩
                                          subst hw
                                          obtain ⟨q, e1, hQ, he1⟩ := Qq.make S HZ5.out
                                          have HQ := Lib.hid (show Qq (K5 nm) z' P' P'.length S q e1 by rw [← HREL5.out.len.1]; exact hQ)
                                          have HZ8 := Lib.hid (show (z' = -1 ∧ K5 nm = none) ∨ ∃ i : Nat, z' = (i : Int) ∧ i < P'.length ∧ K5 nm = some (gg P' i) by rw [← HREL5.out.len.1]; exact HZ5.out)
                                          have HE1 := Lib.hid he1
                                          clear hQ he1 HZ5
                                          go_upto_if 187 with fail
                                          go_cut [13] (fun s13 wx => s13 = .int .i64 e1 ∧ wx = W9)
                                          case first =>
                                            as_aux_lemma =>
                                              have he1 := HE1.out
                                              by_cases b1 : z' < 0
                                              · rw [if_pos b1] at he1
                                                have HF := Lib.hid he1
                                                clear he1
                                                go_wp2_with fail
                                                go_meet
                                                case rel => exact ⟨by rw [HF.out], by first | rfl | trivial⟩
                                              · rw [if_neg b1] at he1
                                                by_cases b2 : 30 < S.length
                                                · rw [if_pos b2] at he1
                                                  have HF := Lib.hid he1
                                                  clear he1
                                                  go_wp2_with fail
                                                  go_meet
                                                  case rel => exact ⟨by rw [HF.out], by first | rfl | trivial⟩
                                                · rw [if_neg b2] at he1
                                                  have HF := Lib.hid he1
                                                  clear he1
                                                  go_wp2_with fail
                                                  go_meet
                                                  case rel => exact ⟨by rw [HF.out], by first | rfl | trivial⟩
                                          case rest =>
                                            as_aux_lemma =>
                                              obtain ⟨rfl, rfl⟩ := hcut
                                              obtain ⟨W10, hw⟩ : ∃ W10 : World, W10 = wc := ⟨_, rfl⟩
                                              subst hw
                                              have HSW := Lib.hid (HS9.out.1.below HJ9.out.b (Nat.le_refl _))
                                              have hml := Nat.le_trans HS9.out.2.1 HS9.out.2.2
                                              have HCM := Lib.hid HJ9.out.cm.many
                                              have HVQ := Lib.hid (show K5 nm = some q → q.length ≤ 7 ∧ allIn q q.length = true from fun ho => by
                                                have h := HJ9.out.v.ok nm q ho
                                                have hh := HJ9.out.v.mn
                                                exact ⟨by omega, h.2⟩)
                                              clear HE1
                                              go_upto_block 4 with fail
                                              go_cut [13, 28] (fun s13 s28 wx => ∃ (k4 : Nat) (e : Int) (G : List Sh) (Ag : Option Addr) (cg : Nat), s13 = .int .i64 e ∧ s28 = .slice Ag G.length cg ∧ Hid (R3 e1 mm q S k4 e G ∧ (e = 0 → k4 = S.length)) ∧ Hid (OShares wx W10.heap.size Ag cg G) ∧ Hid (Below W10.heap.size W10 wx))
                                              case first =>
                                                as_aux_lemma =>
                                                  refine seg4 _ W10 mm nn e1 z' A3' c3' P' As cs S q (K5 nm) _ _ _ _ _ _ _ _ _ _ _ _ _ _ _ _ _ _ _ _ _ _ _ _ _ _ _ _ _ _ _ _ _ _ _ _ _ _ _ _ _ _ _ _ _ _ _ _ _ _ _ _ _ _ _ _ _ _ _ _ _ _ _ _ _ _ _ _ _ _ _ _ _ _ _ _ _ _ _ _ _ _ _ _ _ _ _ _ _ _ _ _ _ _ _ _ _ _ _ _ _ _ _ _ _ _ _ _ _ _ _ _ _ _ _ _ _ _ _ _ _ _ _ _ _ _ _ _ _ _ _ _ _ _ _ _ _ _ _ _ _ _ _ _ _ _ _ _ _ _ _ _ _ _ _ _ _ _ _ _ _ _ _ _ _ _ _ _ _ _ _ _ _ _ _ _ _ _ _ _ _ _ _ _ _ _ _ _ _ _ _ _ _ _ _ _ _ _ _ _ _ _ _ _ _ _ _ _ _ _ _ _ _ _ _ _ _ _ _ _ _ _ _ _ _ _ _ _ _ _ _ _ _ _ _ _ _ _ _ _ _ _ _ _ _ _ _ _ _ _ _ _ _ _ _ _ _ _ _ _ _ _ _ _ _ _ _ _ _ _ _ _ _ _ _ _ _ _ _ _ _ _ _ _ _ _ _ _ _ _ _ _ _ _ _ _ _ _ _ _ _ _ _ _ _ _ _ _ _ _ _ _ _ _ _ _ _ _ _ _ _ _ _ _ _ _ _ _ _ _ _ _ _ _ _ _ _ _ _ _ _ _ _ _ _ _ _ _ _ _ _ _ _ _ _ _ _ _ _ _ _ _ _ _ _ _ _ _ _ _ _ _ _ _ _ _ _ (by omega) hml HQ HVQ HSW HCM (Lib.hid ?_)
                                                  intro k4 e G Ag cg W' _ _ _ _ _ _ _ _ _ _ _ _ _ _ _ _ _ _ _ _ _ _ _ _ _ _ _ _ _ _ _ _ _ _ _ _ _ _ _ _ _ _ _ _ _ _ _ _ _ _ _ _ _ _ _ _ _ _ _ _ _ _ _ _ _ _ _ _ _ _ _ _ _ _ _ _ _ _ _ _ hR hk he hO hB
                                                  dsimp only
                                                  go_wp2_with fail
                                                  go_meet
                                                  case rel => exact ⟨k4, e, G, Ag, cg, rfl, rfl, Lib.hid ⟨hR, he⟩, Lib.hid hO, Lib.hid hB⟩
                                              case rest =>
                                                as_aux_lemma =>
                                                  obtain ⟨k4, e, G, Ag, cg, rfl, rfl, HR3, HOG, HB11⟩ := hcut
                                                  obtain ⟨W11, hw⟩ : ∃ W11 : World, W11 = wc := ⟨_, rfl⟩
                                                  subst hw
                                                  obtain ⟨tb, htb⟩ : ∃ tb, tb = ((e == 0) && decide (G.length < nn)) := ⟨_, rfl⟩
                                                  have HTB := Lib.hid htb
                                                  clear htb
                                                  go_upto_region 68 with fail
                                                  go_cut [274] (fun s wx => s = .bool tb ∧ wx = W11)
                                                  case first =>
                                                    as_aux_lemma =>
                                                      by_cases b1' : e = 0
                                                      · have q1 : (e == 0) = true := beq_iff_eq.2 b1'
                                                        by_cases b2 : G.length < nn
                                                        · have HF := Lib.hid (show tb = true by rw [HTB.out, q1, decide_eq_true b2]; rfl)
                                                          have b3 : (G.length : Int) < (nn : Nat) := by omega
                                                          clear b1'
                                                          go_wp2_with fail
                                                          go_meet
                                                          case rel => exact ⟨by rw [HF.out], by first | rfl | trivial⟩
                                                        · have HF := Lib.hid (show tb = false by rw [HTB.out, q1, decide_eq_false b2]; rfl)
                                                          have b3 : decide ((G.length : Int) < (nn : Nat)) = false := by simp; omega
                                                          have b4 : decide (G.length < nn) = false := decide_eq_false b2
                                                          clear b1'
                                                          go_wp2_with fail
                                                          go_meet
                                                          case rel => exact ⟨by rw [HF.out], by first | rfl | trivial⟩
                                                      · have q1 : (e == 0) = false := beq_eq_false_iff_ne.2 b1'
                                                        have HF := Lib.hid (show tb = false by rw [HTB.out, q1]; rfl)
                                                        clear b1'
                                                        go_wp2_with fail
                                                        go_meet
                                                        case rel => exact ⟨by rw [HF.out], by first | rfl | trivial⟩
                                                  case rest =>
                                                    as_aux_lemma =>
                                                      obtain ⟨rfl, rfl⟩ := hcut
                                                      obtain ⟨W12, hw⟩ : ∃ W12 : World, W12 = wc := ⟨_, rfl⟩
                                                      subst hw
                                                      go_upto_if 274 with fail
                                                      go_cut [13, 27] (fun s13 s27 wx => s13 = .int .i64 (ggE mm nn (K5 nm) S) ∧ s27 = .int .i64 (ggV mm nn (K5 nm) S) ∧ Hid (Below W12.heap.size W12 wx))
                                                      case first =>
                                                        as_aux_lemma =>
                                                          refine segW _ W12 mm nn P'.length k4 _ e1 e z' P' S G q (K5 nm) Ag cg tb _ _ _ _ _ _ _ _ _ _ _ _ _ _ _ _ _ _ _ _ _ _ _ _ _ _ _ _ _ _ _ _ _ _ _ _ _ _ _ _ _ _ _ _ _ _ _ _ _ _ _ _ _ _ _ _ _ _ _ _ _ _ _ _ _ _ _ _ _ _ _ _ _ _ _ _ _ _ _ _ _ _ _ _ _ _ _ _ _ _ _ _ _ _ _ _ _ _ _ _ _ _ _ _ _ _ _ _ _ _ _ _ _ _ _ _ _ _ _ _ _ _ _ _ _ _ _ _ _ _ _ _ _ _ _ _ _ _ _ _ _ _ _ _ _ _ _ _ _ _ _ _ _ _ _ _ _ _ _ _ _ _ _ _ _ _ _ _ _ _ _ _ _ _ _ _ _ _ _ _ _ _ _ _ _ _ _ _ _ _ _ _ _ _ _ _ _ _ _ _ _ _ _ _ _ _ _ _ _ _ _ _ _ _ _ _ _ _ _ _ _ _ _ _ _ _ _ _ _ _ _ _ _ _ _ _ _ _ _ _ _ _ _ _ _ _ _ _ _ _ _ _ _ _ _ _ _ _ _ _ _ _ _ _ _ _ _ _ _ _ _ _ _ _ _ _ _ _ _ _ _ _ _ _ _ _ _ _ _ _ _ _ _ _ _ _ _ _ _ _ _ _ _ _ _ _ _ _ _ _ _ _ _ _ _ _ _ _ _ _ _ _ _ _ _ _ _ _ _ _ _ _ _ _ _ _ _ _ _ _ _ _ _ _ _ _ _ _ _ _ _ _ _ _ _ _ _ _ _ _ _ _ _ _ _ _ _ _ _ _ _ _ _ _ _ _ _ _ _ HTB (by omega) (by omega) (by omega) HQ HR3 (Lib.hid ⟨HOG.out, HOG.out.cap⟩) (Lib.hid ?_)
                                                          intro W' _ _ _ _ _ _ hB
                                                          dsimp only
                                                          go_wp2_with fail
                                                          go_meet
                                                          case rel => exact ⟨rfl, rfl, Lib.hid hB⟩
                                                      case rest =>
                                                        as_aux_lemma =>
                                                          obtain ⟨rfl, rfl, HB13⟩ := hcut
                                                          obtain ⟨W13, hw⟩ : ∃ W13 : World, W13 = wc := ⟨_, rfl⟩
                                                          subst hw
                                                          have HJ13 := Lib.hid ((HJ9.out.keep HB11.out).keep HB13.out)
                                                          clear HJ9 HB11 HB13 HOG HR3 HTB HSW HCM HVQ HQ
                                                          have n13 := (HJ13.out.b.cell (p := ⟨b1, o1 + k, none⟩) hl1').trans HCN.out
                                                          have cgt := vpget HJ13.out nm HSZ.out As cs S HS9.out.2.1 HS9.out.2.2 (HS9.out.1.below HJ13.out.b (Nat.le_refl _))
                                                          have CGT := Lib.hid cgt
                                                          clear cgt
                                                          go_upto_block 8 with (first | (go_at_call 29; refine CGT.out.mono ?_; rintro e0 w14 ⟨rfl, hb14⟩; have HJ14 := Lib.hid (HJ13.out.keep hb14); clear hb14) | (go_at_call 11; refine (same_eW _ _ HJ14.out.hg).mono ?_; rintro e0 W15 ⟨rfl, hb15⟩; have HJ15 := Lib.hid (HJ14.out.keep hb15); clear hb15 HJ14 HJ13 CGT n13))
                                                          refine seg8 _ w W15 p M n5 mm nn K5 A1' c1' N' A2' c2' P' A3' c3' b1 o1 names.length d1 k z' nm _ _ _ _ _ _ _ _ _ _ _ _ _ _ _ _ _ _ _ _ _ _ _ _ _ _ _ _ _ _ _ _ _ _ _ _ _ _ _ _ _ _ _ _ _ _ _ _ _ _ _ _ _ _ _ _ _ _ _ _ _ _ _ _ _ _ _ _ _ _ _ _ _ _ _ _ _ _ _ _ _ _ _ _ _ _ _ _ _ _ _ _ _ _ _ _ _ _ _ _ _ _ _ _ _ _ _ _ _ _ _ _ _ _ _ _ _ _ _ _ _ _ _ _ _ _ _ _ _ _ _ _ _ _ _ _ _ _ _ _ _ _ _ _ _ _ _ _ _ _ _ _ _ _ _ _ _ _ _ _ _ _ _ _ _ _ _ _ _ _ _ _ _ _ _ _ _ _ _ _ _ _ _ _ _ _ _ _ _ _ _ _ _ _ _ _ _ _ _ _ _ _ _ _ _ _ _ _ _ _ _ _ _ _ _ _ _ _ _ _ _ _ _ _ _ _ _ _ _ _ _ _ _ _ _ _ _ _ _ _ _ _ _ _ _ _ _ _ _ _ _ _ _ _ _ _ _ _ _ _ _ _ _ _ _ _ _ _ _ _ _ _ _ _ _ _ _ _ _ _ _ _ _ _ _ _ _ _ _ _ _ _ _ _ _ _ _ _ _ _ _ _ _ _ _ _ _ _ _ _ _ _ _ _ _ _ _ _ _ _ _ _ _ _ _ _ _ _ _ _ _ _ _ _ _ _ _ _ _ _ _ _ _ _ _ _ _ _ _ _ _ _ _ _ _ _ _ _ _ _ _ _ _ _ _ _ _ _ _ _ _ _ _ _ _ _ _ (by omega) t1 t2 (Nat.lt_of_lt_of_le hl1' HJ15.out.b.size) HJ15 (Lib.hid ((HJ15.out.b.cell (p := ⟨b1, o1 + k, none⟩) hl1').trans HCN.out)) HSZ HZ8 (Lib.hid ?_)
                                                          intro j W' _ _ _ _ _ _ _ _ _ _ _ _ _ _ _ _ _ _ _ _ _ _ _ _ _ _ _ _ _ _ _ _ _ _ _ _ _ _ _ _ _ _ _ _ _ _ _ _ _ _ _ _ _ _ _ _ _ _ _ _ _ _ _ _ _ _ _ _ _ _ _ _ _ _ _ _ _ _ _ _ _ _ _ _ _ _ _ _ hB
                                                          have HJ16 := Lib.hid (HJ15.out.keep hB)
                                                          clear HJ15 hB
                                                          dsimp only
                                                          go_wp2_with fail
                                                          go_roundw
                                                          case rel => exact ⟨k + 1, n5, K5, A1', c1', N', A2', c2', A3', c3', P', by omega, by omega, by go_num, rfl, rfl, rfl, HJ16, HREL5⟩
                                                          case measure => simp [intOf]; omega
        · have hf : decide ((k : Int) < 30) = false := by simp; omega
          go_wp2_with fail
          go_ret
          exact ⟨ret_true (by first | rfl | (simp; done) | (simp; omega)), HJ.out.b⟩
      · have hf : decide ((k : Int) < (names.length : Nat)) = false := by simp; omega
        go_wp2_with fail
        go_ret
        exact ⟨ret_true (by first | rfl | (simp; done) | (simp; omega)), HJ.out.b⟩
  · have cn := fun (W : World) => vtnew_no m nd hval W
    have CN := Lib.hid cn
    have hx : decide (m < 1) = true ∨ (decide (m < 1) = false ∧ decide (7 < m) = true) ∨ (decide (m < 1) = false ∧ decide (7 < m) = false ∧ decide (nd < 1) = true) ∨ (decide (m < 1) = false ∧ decide (7 < m) = false ∧ decide (nd < 1) = false ∧ decide (m < nd) = true) := by
      simp only [decide_eq_true_eq, decide_eq_false_iff_not]; omega
    clear cn hval
    rcases hx with x1 | ⟨x1, x2⟩ | ⟨x1, x2, x3⟩ | ⟨x1, x2, x3, x4⟩
    all_goals
      go_enter Tryd.func6, Tryd.ntmps6
      go_wp2_with (first | (go_at_call 21; refine (CN.out _).mono ?_; rintro e0 w7 ⟨rfl, rfl⟩) | (go_at_call 11; refine (same_errW 1 _ HG0.out).mono ?_; rintro e0 w8 ⟨rfl, hb8⟩))
      go_ret
      exact ⟨ret_true (by first | rfl | (simp; done) | (simp; omega)), hb8⟩
end Go.Proofs.YtamndgeeibfmhaaDoor.vaultPlays
