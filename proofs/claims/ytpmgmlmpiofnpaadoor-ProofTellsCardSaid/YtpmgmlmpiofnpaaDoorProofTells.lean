/- ProofTellsCardSaid: what any factors commit to, and whether any share is one of these, is the reference's: for every factors, commits and share. -/
import Derived.Test.YtpmgmlmpiofnpaaDoorRefSh
import Derived.Test.YtpmgmlmpiofnpaaDoorSame
import Derived.Test.YtpmgmlmpiofnpaaDoorMemS
import Derived.Test.YtpmgmlmpiofnpaaDoorDoor
import Derived.Test.YtpmgmlmpiofnpaaDoorTie
import Derived.Test.YtpmgmlmpiofnpaaDoorCards
import Derived.WalkKit
import Derived.ProofKit
import Derived.OpenShut
import Derived.ShutString
import Derived.ChangeOld
import Derived.WalkLawsBesides
import Derived.WalkSpells
import Derived.RegionTactic
import Derived.ChangeAlike
import Derived.SevenTiedAt
import Derived.Deep.DeepCutAuto
import Derived.Outline
namespace Go.Proofs.YtpmgmlmpiofnpaaDoor.proofTells
open Go.ChangeShapes Go.WideShapes Go.ChangeAt Go.RowKit
set_option linter.unusedVariables false

/-- what is wrong with factors that are committed to -/
def coE (p : List Int) : Int := if p.length = 0 then 5 else facE p
def coL (p : List Int) : List Int := if coE p = 0 then cmt p else []
theorem facE_zero {p : List Int} (h : facE p = 0) : p.length ≤ 7 ∧ allIn p p.length = true := by
  unfold facE at h
  split at h
  · cases h
  · split at h
    · rename_i h1 h2; exact ⟨by omega, h2⟩
    · cases h
theorem coE_zero {p : List Int} (h : coE p = 0) : 0 < p.length ∧ p.length ≤ 7 ∧ allIn p p.length = true := by
  unfold coE at h
  split at h
  · cases h
  · exact ⟨by omega, facE_zero h⟩
theorem coL_len {p : List Int} (h : coE p = 0) : (coL p).length = p.length := by rw [coL, if_pos h]; simp [cmt]
theorem coL_no {p : List Int} (h : coE p ≠ 0) : coL p = [] := by rw [coL, if_neg h]
theorem commit_u (A : Option Addr) (c : Nat) (p : List Int) (w : World) (hA : Ints w A p) :
    Calls Tryd.prog 25 #[.slice A p.length c] w fun e w' => ∃ A' c', e = .returned (.tuple #[.slice A' (coL p).length c', eV (coE p)]) ∧ Ints w' A' (coL p) ∧ Below w.heap.size w w' := by
  by_cases h : coE p = 0
  · obtain ⟨h0, h7, hi⟩ := coE_zero h
    refine (commit_ok A c p h0 h7 hi w hA).mono fun e w' ⟨A', c', he, ho, hb⟩ => ⟨A', c', ?_, ?_, hb⟩
    · rw [coL_len h, h]; exact he
    · rw [coL, if_pos h]; exact ho.ints
  · by_cases h0 : p.length = 0
    · have hE : coE p = 5 := by rw [coE, if_pos h0]
      rw [h0]
      refine (commit_none A c w).mono fun e w' ⟨he, hw⟩ => ⟨none, 0, ?_, ?_, hw ▸ Below.refl _ _⟩
      · rw [coL_no h, hE]; exact he
      · rw [coL_no h]; exact Ints.nil
    · have hE : coE p = facE p := by rw [coE, if_neg h0]
      have hf : facV p = errV (facE p) := by rw [facV_eV, eV, if_neg (by rw [← hE]; exact h)]
      refine (commit_fac A c p _ (by omega) hf w hA).mono fun e w' ⟨he, hw⟩ => ⟨none, 0, ?_, ?_, hw ▸ Below.refl _ _⟩
      · rw [coL_no h, eV, if_neg h, hE]; exact he
      · rw [coL_no h]; exact Ints.nil

set_option maxHeartbeats 400000 in
set_option maxRecDepth 100000 in
theorem walk (w : World) (hg : HG w) (A : Option Addr) (c : Nat) (p : List Int) (_ : p.length ≤ c) (_ : c ≤ maxLen) (hA : Ints w A p) (_ : ∀ i, i < p.length → I64 (gi p i))
    (A' : Option Addr) (c' : Nat) (q : List Int) (hc : q.length ≤ c') (hcm : c' ≤ maxLen) (hQ : Ints w A' q) (_ : ∀ i, i < q.length → I64 (gi q i)) (a i : Int) (_ : I64 a) (_ : I64 i) :
    Calls Tryd.prog 5 #[.slice A p.length c, .slice A' q.length c', .agg #[.int .i64 a, .int .i64 i]] w fun e w' => e = .returned (.bool true) ∧ Below w.heap.size w w' := by
  unfold maxLen at hcm
  have ccm := fun X k W hX => commit_u X k p W hX
  have css : ∀ X Y k d W, Ints W X (coL p) → Ints W Y (coL p) → Calls Tryd.prog 26 #[.slice X (coL p).length k, .slice Y (coL p).length d] W fun e w' => e = .returned (.bool true) ∧ Below W.heap.size W w' := fun X Y k d W h1 h2 =>
    (same_ints X Y k d (coL p) (coL p) W h1 h2 (by
      by_cases h : coE p = 0
      · obtain ⟨h0, h7, hi⟩ := coE_zero h
        rw [coL_len h]; unfold maxLen; omega
      · rw [coL_no h]; simp)).mono fun e w' ⟨h3, h4⟩ => ⟨by rw [h3]; simp, h4⟩
  have CCM := Lib.hid ccm; have CSS := Lib.hid css; clear ccm css
  obtain ⟨w1, hw1⟩ : ∃ w1 : World, w1 = w.alloc (.cells #[.int .i64 a, .int .i64 i] 41) := ⟨_, rfl⟩
  have hB : w.heap.size < w1.heap.size := by rw [hw1]; simp
  have hk0 : w1.cell? ⟨w.heap.size, 0, none⟩ = some (.int .i64 a) := by rw [hw1]; simp
  have hk1 : w1.cell? ⟨w.heap.size, 1, none⟩ = some (.int .i64 i) := by rw [hw1]; simp
  have hb1 : Below w.heap.size w w1 := by rw [hw1]; exact bal (Below.refl _ _) _
  have hd : DG w1 w1 := DG.refl (hg.below hb1)
  have hA1 : Ints w1 A p := hA.below hb1 (Nat.le_refl _)
  have hQ1 : Ints w1 A' q := hQ.below hb1 (Nat.le_refl _)
  have HW := Lib.hid hw1; have HB := Lib.hid hb1
  generalize hBk : w.heap.size = B at *
  have HBK := Lib.hid hBk
  clear hw1 hb1 hg hA hQ hBk
  go_enter Tryd.func5, Tryd.ntmps5
  go_upto_if 20 with fail
  rw [HBK.out, ← HW.out]
  go_cut [7] (fun s7 wx => s7 = .int .i64 (coE p) ∧ wx = w1)
  case first =>
    by_cases h0 : p.length = 0
    · have hE : coE p = 5 := by rw [coE, if_pos h0]
      have HE := Lib.hid hE; clear hE
      go_wp2_with fail
      go_meet
      case rel => exact ⟨by rw [HE.out], rfl⟩
    · have hE : coE p = facE p := by rw [coE, if_neg h0]
      have hp : 0 < p.length := by omega
      have HE := Lib.hid hE; clear hE h0
      go_wp2_with (go_at_call 23; refine (rfactors_any _ _ p _ hA1).mono ?_; rintro e w' ⟨rfl, rfl⟩)
      go_meet
      case rel => exact ⟨by rw [HE.out], rfl⟩
  case rest =>
    obtain ⟨rfl, rfl⟩ := hcut
    obtain ⟨wA, rfl⟩ : ∃ wA : World, wA = wc := ⟨_, rfl⟩
    go_upto_if 24 with fail
    go_cut [8] (fun s8 wx => (∃ A1 c1, s8 = .slice A1 (coL p).length c1 ∧ Ints wx A1 (coL p)) ∧ DG wA wx)
    case first =>
      by_cases h : coE p = 0
      · obtain ⟨h0, h7, hi⟩ := coE_zero h
        have hcl : coL p = cmt p := by rw [coL, if_pos h]
        have hll := coL_len h
        have cr : Calls Tryd.prog 24 #[.slice A p.length c] wA fun e w' => ∃ A' c', e = .returned (.slice A' (coL p).length c') ∧ Ints w' A' (coL p) ∧ Below wA.heap.size wA w' :=
          (rcommit_any A c p h7 hi wA hA1).mono fun e w' ⟨A', c', h1, h2, h3⟩ => ⟨A', c', by rw [h1, hll], by rw [hcl]; exact h2.ints, h3⟩
        have hq : (coE p == 0) = true := beq_iff_eq.2 h
        have CR := Lib.hid cr; clear cr h hi hcl hll
        go_wp2_with fail
        refine CR.out.mono ?_
        rintro e w2 ⟨A2, c2, rfl, hI2, hb2⟩
        go_wp2_with fail
        go_meet
        case rel => exact ⟨⟨A2, c2, rfl, hI2⟩, hd.below hb2⟩
      · have hq : (coE p == 0) = false := beq_eq_false_iff_ne.2 h
        have hcl := coL_no h
        have HCL := Lib.hid hcl; clear hcl h
        go_wp2_with fail
        go_meet
        case rel => exact ⟨⟨none, 0, by rw [HCL.out]; rfl, by rw [HCL.out]; exact Ints.nil⟩, hd⟩
    case rest =>
      obtain ⟨⟨A1, c1, rfl, hI1⟩, hd1⟩ := hcut
      clear hd
      go_upto_region 8 with (go_at_call 25; refine (CCM.out _ _ _ (hA1.below hd1.b (Nat.le_refl _))).mono ?_; rintro e w2 ⟨A2, c2, rfl, hI2, hb2⟩)
      have hd2 := hd1.below hb2
      have hI1' := Ints.below hI1 hb2 (Nat.le_refl _)
      clear hb2 hd1 hI1
      go_upto_region 10 with (first
        | (go_at_call 13; refine (same_eV _ w2 _ (DG.refl hd2.1)).mono ?_; rintro e w3 ⟨rfl, hx3⟩)
        | (go_at_call 26; refine (CSS.out _ _ _ _ _ (Ints.below hI2 hx3.b (Nat.le_refl _)) (Ints.below hI1' hx3.b (Nat.le_refl _))).mono ?_; rintro e w4 ⟨rfl, hb4⟩))
      have hd4 := (hd2.below hx3.b).below hb4
      have hk0 := (hd4.b.cell (p := ⟨B, 0, none⟩) hB).trans hk0
      have hk1 := (hd4.b.cell (p := ⟨B, 1, none⟩) hB).trans hk1
      have hB4 : B < w4.heap.size := Nat.lt_of_lt_of_le hB hd4.b.size
      have hQ4 := hQ1.below hd4.b (Nat.le_refl _)
      have ckn := fun (he : chkE q a i ≠ 0) W hX => check_no A' c' q a i he W hX
      have cko := fun (he : chkE q a i = 0) W hX => check_ok A' c' q a i he W hX
      have CKN := Lib.hid ckn; have CKO := Lib.hid cko; clear ckn cko hd2 hx3 hb4 hI1' hI2 CCM CSS hA1
      by_cases h0 : q.length = 0
      · have hE : chkE q a i = 5 := by rw [chkE, if_pos h0]
        have ck := CKN.out (by rw [hE]; decide)
        rw [hE] at ck
        have hz : ((q.length : Int) == 0) = true := by rw [h0]; rfl
        have hlt : decide ((0 : Int) < q.length) = false := by simp [h0]
        have CK := Lib.hid ck; clear ck hE h0
        go_wp2_with fail
        refine wp_loop_rounds 1 ?_
        rw [rounds_succ]
        go_wp2_with (first
          | (go_at_call 17; refine (rin_any _ _).mono ?_; rintro e w' ⟨rfl, rfl⟩)
          | (go_at_call 28; refine (CK.out _ (hQ1.below (DG.b (by assumption)) (Nat.le_refl _))).mono ?_; rintro e w6 ⟨rfl, hb6⟩; have hd6 := DG.below (w0 := wA) (by assumption) hb6; clear hb6)
          | (go_at_call 13; refine (same_err _ wA _ (by assumption)).mono ?_; rintro e w7 ⟨rfl, hd7⟩))
        all_goals (go_ret; exact ⟨ret_true (by first | rfl | (simp; done) | (simp; omega)), HB.out.trans ((DG.b (w0 := wA) (by assumption)).mono (Nat.le_of_lt (HBK.out ▸ hB)))⟩)
      · have hz : ((q.length : Int) == 0) = false := beq_eq_false_iff_ne.2 (by omega)
        by_cases h7 : 7 < q.length
        · have hE : chkE q a i = 4 := by rw [chkE, if_neg h0, if_pos h7]
          have ck := CKN.out (by rw [hE]; decide)
          rw [hE] at ck
          have CK := Lib.hid ck; clear ck hE
          go_wp2_with fail
          refine wp_loop_rounds 1 ?_
          rw [rounds_succ]
          go_wp2_with (first
            | (go_at_call 17; refine (rin_any _ _).mono ?_; rintro e w' ⟨rfl, rfl⟩)
            | (go_at_call 28; refine (CK.out _ (hQ1.below (DG.b (by assumption)) (Nat.le_refl _))).mono ?_; rintro e w6 ⟨rfl, hb6⟩; have hd6 := DG.below (w0 := wA) (by assumption) hb6; clear hb6)
            | (go_at_call 13; refine (same_err _ wA _ (by assumption)).mono ?_; rintro e w7 ⟨rfl, hd7⟩))
          all_goals (go_ret; exact ⟨ret_true (by first | rfl | (simp; done) | (simp; omega)), HB.out.trans ((DG.b (w0 := wA) (by assumption)).mono (Nat.le_of_lt (HBK.out ▸ hB)))⟩)
        · have h7' : q.length ≤ 7 := by omega
          cases hcb : cmB q q.length with
          | false =>
            have hE : chkE q a i = 1 := by rw [chkE, if_neg h0, if_neg h7, if_pos hcb]
            have ck := CKN.out (by rw [hE]; decide)
            rw [hE] at ck
            have CK := Lib.hid ck; have HCB := Lib.hid hcb; clear ck hE hcb
            go_wp2_with fail
            go_loop [7, 12] (fun e j => ∃ k : Nat, k ≤ q.length ∧ j = .int .i64 k ∧ ((e = .int .i64 0 ∧ Hid (cmB q k = true)) ∨ e = .int .i64 1)) (fun _ j => q.length - (intOf j).toNat)
            case atStart => exact ⟨0, Nat.zero_le _, rfl, .inl ⟨rfl, rfl⟩⟩
            case round =>
              obtain ⟨k, hk, rfl, ⟨rfl, hm⟩ | rfl⟩ := hrel
              · have hlt : k < q.length := by
                  rcases Nat.lt_or_ge k q.length with h | h
                  · exact h
                  · obtain rfl : k = q.length := by omega
                    have := hm.out; rw [HCB.out] at this; cases this
                obtain ⟨b, off, rfl, hbl, hc⟩ := hQ4.at_ hlt
                by_cases g1 : 1 ≤ gi q k
                · by_cases g2 : gi q k ≤ 1542
                  · have hn : cmB q (k + 1) = true := by simp [cmB, hm.out, g1]; omega
                    have HN := Lib.hid hn; clear hn
                    go_wp2_with fail
                    go_round
                    case rel => exact ⟨k + 1, by omega, by go_num, .inl ⟨rfl, HN⟩⟩
                    case measure => simp [intOf]; omega
                  · go_wp2_with fail
                    go_round
                    case rel => exact ⟨k + 1, by omega, by go_num, .inr rfl⟩
                    case measure => simp [intOf]; omega
                · go_wp2_with fail
                  go_round
                  case rel => exact ⟨k + 1, by omega, by go_num, .inr rfl⟩
                  case measure => simp [intOf]; omega
              · have hk7 : k ≤ 7 := by omega
                by_cases hlt : k < q.length
                all_goals
                  go_wp2_with (first
                    | (go_at_call 17; refine (rin_any _ _).mono ?_; rintro e w' ⟨rfl, rfl⟩)
                    | (go_at_call 28; refine (CK.out _ (hQ1.below (DG.b (by assumption)) (Nat.le_refl _))).mono ?_; rintro e w6 ⟨rfl, hb6⟩; have hd6 := DG.below (w0 := wA) (by assumption) hb6; clear hb6)
                    | (go_at_call 13; refine (same_err _ wA _ (by assumption)).mono ?_; rintro e w7 ⟨rfl, hd7⟩))
                  all_goals (go_ret; exact ⟨ret_true (by first | rfl | (simp; done) | (simp; omega)), HB.out.trans ((DG.b (w0 := wA) (by assumption)).mono (Nat.le_of_lt (HBK.out ▸ hB)))⟩)
          | true =>
            have HCB := Lib.hid hcb
            have HIN := Lib.hid (fun (h : (inB a && inB i) = true) => (by rw [chkE, if_neg h0, if_neg h7, if_neg (by rw [hcb]; decide), if_neg (by rw [h]; decide)] : chkE q a i = 0))
            have HNO := Lib.hid (fun (h : (inB a && inB i) = false) => (by rw [chkE, if_neg h0, if_neg h7, if_neg (by rw [hcb]; decide), if_pos h] : chkE q a i = 1))
            clear hcb h0
            go_wp2_with fail
            go_loop [7, 12] (fun e j => ∃ k : Nat, k ≤ q.length ∧ e = .int .i64 0 ∧ j = .int .i64 k) (fun _ j => q.length - (intOf j).toNat)
            case atStart => exact ⟨0, Nat.zero_le _, rfl, rfl⟩
            case round =>
              obtain ⟨k, hk, rfl, rfl⟩ := hrel
              by_cases hlt : k < q.length
              · obtain ⟨b, off, rfl, hbl, hc⟩ := hQ4.at_ hlt
                obtain ⟨g1, g2⟩ := cmB_at HCB.out hlt
                have g2' : gi q k ≤ 1542 := by omega
                go_wp2_with fail
                go_round
                case rel => exact ⟨k + 1, by omega, rfl, by go_num⟩
                case measure => simp [intOf]; omega
              · obtain rfl : k = q.length := by omega
                cases hin : (inB a && inB i) with
                | false =>
                  have hE := HNO.out hin
                  have ck := CKN.out (by rw [hE]; decide)
                  rw [hE] at ck
                  have CK := Lib.hid ck; clear ck hE
                  cases ha : inB a <;> cases hi : inB i
                  rotate_left 3
                  · rw [ha, hi] at hin; cases hin
                  all_goals
                    clear hin
                    go_wp2_with (first
                      | (go_at_call 17; refine (rin_any _ _).mono ?_; rintro e w' ⟨rfl, rfl⟩)
                      | (go_at_call 28; refine (CK.out _ (hQ1.below (DG.b (by assumption)) (Nat.le_refl _))).mono ?_; rintro e w6 ⟨rfl, hb6⟩; have hd6 := DG.below (w0 := wA) (by assumption) hb6; clear hb6)
                      | (go_at_call 13; refine (same_err _ wA _ (by assumption)).mono ?_; rintro e w7 ⟨rfl, hd7⟩))
                    all_goals (go_ret; exact ⟨ret_true (by first | rfl | (simp; done) | (simp; omega)), HB.out.trans ((DG.b (w0 := wA) (by assumption)).mono (Nat.le_of_lt (HBK.out ▸ hB)))⟩)
                | true =>
                  have hE := HIN.out hin
                  have ck := CKO.out hE
                  obtain ⟨ha, hi⟩ := Bool.and_eq_true_iff.1 hin
                  obtain ⟨a0, a1⟩ := inB_true.1 ha
                  obtain ⟨i0, i1⟩ := inB_true.1 hi
                  have ct := fun W hX => rtrue_any A' c' q a i h7' HCB.out a0 a1 i0 i1 W hX
                  have CK := Lib.hid ck; have CT := Lib.hid ct; clear ck hE ct hin
                  go_wp2_with (first
                    | (go_at_call 17; refine (rin_any _ _).mono ?_; rintro e w' ⟨rfl, rfl⟩)
                    | (go_at_call 27; refine (CT.out _ (hQ1.below (DG.b (by assumption)) (Nat.le_refl _))).mono ?_; rintro e w5 ⟨rfl, hb5⟩; have hd5 := DG.below (w0 := wA) (by assumption) hb5; have hk0 := (hb5.cell (p := ⟨B, 0, none⟩) hB4).trans hk0; have hk1 := (hb5.cell (p := ⟨B, 1, none⟩) hB4).trans hk1; clear hb5)
                    | (go_at_call 28; refine (CK.out _ (hQ1.below (DG.b (by assumption)) (Nat.le_refl _))).mono ?_; rintro e w6 ⟨rfl, hb6⟩; have hd6 := DG.below (w0 := wA) (by assumption) hb6; clear hb6)
                    | (go_at_call 13; refine (same_nil _).mono ?_; rintro e w' ⟨rfl, rfl⟩))
                  all_goals (go_ret; exact ⟨ret_true (by first | rfl | (simp; done) | (simp; omega)), HB.out.trans ((DG.b (w0 := wA) (by assumption)).mono (Nat.le_of_lt (HBK.out ▸ hB)))⟩)

/-! ### the card's frame -/
set_option maxRecDepth 100000 in
theorem lifted (os : Os) (started : os.Started) (H : Type) (enc : TypeId × Value → H) :
    ReturnsInHanded {} Tryd.checked os 5 .any (fun w args => (Rows.proofTellsSpec.pre enc Tryd.prog Tryd.f5 [] false w args ∧ laidMetH Tryd.prog laidL w) ∧ sizedMet enc Tryd.prog Tryd.f5 (OpenSpec.ofChange Rows.proofTellsSpec) false w args) (Rows.proofTellsSpec.post enc Tryd.prog Tryd.f5 false true false false) := by
  refine returnsInHanded_of_change_and (C := Tryd.checked) (X := fun w _ => laidMetH Tryd.prog laidL w) (fun _ _ _ hh h => h.of_heap hh) door.own started (by kernel_rfl) Tryd.func5
    (ChangeSpec.witness_at (enc := enc) (C := Tryd.checked) (os := os) (X := fun w _ => laidMetH Tryd.prog laidL w) false (laidWorld os) #[.slice none 0 0, .slice none 0 0, .agg #[.int .i64 0, .int .i64 0]] 8 rfl (by kernel_rfl) (by kernel_rfl) (by kernel_rfl) (by kernel_rfl) (by kernel_rfl) (laidWorld_met os _)) ?_
  intro W base args ds gs before hval0 hW _ _ hL _
  have hg := handle_of_laid hL
  have hval : ∀ (j : Nat) t v, Tryd.f5.params[j]? = some t → args[j]? = some v → Value.okWide Tryd.prog W .any base t v := hval0
  have hW' := hW
  obtain ⟨p, q, hA0, hV, rfl, hfz, hnd⟩ := hW
  have hA : DataW.TrodAll enc Tryd.prog W 0 (fun _ => true) true Tryd.f5.params.toList args.toList ds p := hA0
  rw [Tryd.params5] at hA hval
  obtain ⟨v0, vs0, d0, ds0, p0, q0, hargs, rfl, rfl, h0, r0⟩ := trodAll_cons hA
  obtain ⟨v1, vs1, d1, ds1, p1, q1, rfl, rfl, rfl, h1, r1⟩ := trodAll_cons r0
  obtain ⟨v2, vs2, d2, ds2, p2, q2, rfl, rfl, rfl, h2, r2⟩ := trodAll_cons r1
  obtain ⟨rfl, rfl, rfl⟩ := trodAll_nil r2
  obtain rfl : args = #[v0, v1, v2] := by cases args; simp_all
  obtain ⟨rfl, rfl⟩ := trodVars_none hV
  have k0 := h0
  have lt0 : ∀ x ∈ p0, x.block < W.heap.size := by obtain ⟨m, hm⟩ := k0; exact DataW.trod_lt m _ _ _ hm
  obtain ⟨A0, c0, x0, rfl, hc0, hm0, hA0, w0⟩ := arg_Ints Tryd.underlying39 Tryd.underlying3 (by kernel_rfl) (hval 0 39 v0 rfl rfl) h0
  have k1 := h1
  have lt1 : ∀ x ∈ p1, x.block < W.heap.size := by obtain ⟨m, hm⟩ := k1; exact DataW.trod_lt m _ _ _ hm
  obtain ⟨A1, c1, x1, rfl, hc1, hm1, hA1, w1⟩ := arg_Ints Tryd.underlying39 Tryd.underlying3 (by kernel_rfl) (hval 1 39 v1 rfl rfl) h1
  have k2 := h2
  have lt2 : ∀ x ∈ p2, x.block < W.heap.size := by obtain ⟨m, hm⟩ := k2; exact DataW.trod_lt m _ _ _ hm
  obtain ⟨x2, y2, rfl, w2, z2⟩ := arg_share Tryd.underlying41 (by kernel_rfl) (by kernel_rfl) Tryd.underlying3 Tryd.underlying3 (hval 2 41 v2 rfl rfl) h2
  clear hA0 hval0
  refine (walk W hg A0 c0 x0 hc0 hm0 hA0 w0 A1 c1 x1 hc1 hm1 hA1 w1 x2 y2 w2 z2).mono fun e W' ⟨he, bel⟩ => ?_
  subst he
  exact ⟨_, rfl, _, _, _, [], _, [], hW', trodAll_mk1 (shut_bool Tryd.underlying4 _), (trodAll_cons_mk (Below.trod door.laidOut (by kernel_rfl) (of_decide_eq_true (by kernel_rfl)) k0 bel lt0) (trodAll_cons_mk (Below.trod door.laidOut (by kernel_rfl) (of_decide_eq_true (by kernel_rfl)) k1 bel lt1) (trodAll_cons_mk (Below.trod door.laidOut (by kernel_rfl) (of_decide_eq_true (by kernel_rfl)) k2 bel lt2) trodAll_mk0))), rfl, bel.frame _, fun h => by cases h⟩

theorem over : Rows.ProofTellsSaid :=
  OpenClaim.holds_of_wide 5 Tryd.f5 rfl rfl rfl rfl rfl rfl rfl ⟨rfl, rfl, rfl, rfl, rfl⟩ rfl rfl rfl rfl rfl (by kernel_rfl) Tryd.func5 (by kernel_rfl)
    (of_decide_eq_true (by kernel_rfl)) (by unfold Func.isWrapper; first | (rw [if_pos (by decide +kernel)]; kernel_rfl) | (rw [if_neg (by decide +kernel)]; exact ⟨rfl, rfl⟩))
    (fun os started H enc _ => lifted os started H enc)

theorem proved : Rows.ProofTellsCardSaid :=
  Claim7.holds_tied_plain_at .later [] [.handle] true _ true over (fun _ h => by cases h) (by kernel_rfl) (fun _ h => by cases h) proofTells_row_tie rfl ⟨rfl, rfl⟩ (by kernel_rfl) rfl
    (fun f fn hf hfn => by
      obtain rfl : f = 5 := Option.some.inj ((show Tryd.prog.funcNamed Rows.proofTellsRow.func = some 5 by kernel_rfl).symm.trans hf) |>.symm
      obtain rfl : fn = Tryd.f5 := (Option.some.inj (Tryd.func5.symm.trans hfn)).symm
      exact ⟨by kernel_rfl, fun j t ht => by
        rw [Tryd.params5] at ht
        have hm : t ∈ [39, 39, 41] := by simpa using Array.mem_of_getElem? ht
        have hall : ([39, 39, 41].all fun u => !Tryd.prog.wantsStandIn u) = true := by kernel_rfl
        exact (show Tryd.prog.wantsStandIn t = false by simpa using List.all_eq_true.1 hall t hm)⟩)
    (by kernel_rfl)
#print axioms proved

end Go.Proofs.YtpmgmlmpiofnpaaDoor.proofTells
