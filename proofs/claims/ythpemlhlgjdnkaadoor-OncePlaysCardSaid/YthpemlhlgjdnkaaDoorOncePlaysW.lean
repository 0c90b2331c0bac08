/- OncePlaysCardSaid: anything that is put if none fits, changed, and moved. -/
import Derived.Test.YthpemlhlgjdnkaaDoorOnce5
import Derived.Test.YthpemlhlgjdnkaaDoorVArg
import Derived.Deep.CutBlock
import Derived.Test.YthpemlhlgjdnkaaDoorDoor
import Derived.Test.YthpemlhlgjdnkaaDoorTie
import Derived.Test.YthpemlhlgjdnkaaDoorCards
import Derived.WalkKit
import Derived.ProofKit
import Derived.OpenShut
import Derived.ShutString
import Derived.ChangeOld
import Derived.WalkLawsBesides
import Derived.WalkSpells
import Derived.RegionTactic
import Derived.ChangeAlike
import Derived.SevenTiedAt
import Derived.Deep.DeepCutAuto
import Derived.Outline
namespace Go.Proofs.YthpemlhlgjdnkaaDoor.oncePlays
open Go.ChangeShapes Go.WideShapes Go.ChangeAt Go.RowKit
set_option linter.unusedVariables false

theorem dis0 {p q : Nat} (h : p ≠ q) : Dis p none q none := fun b h1 h2 => by
  rcases h1 with h1 | h1
  · rcases h2 with h2 | h2
    · omega
    · cases h2
  · cases h1
theorem rt_len {w : World} {base p : Nat} {g : Option Nat} {L : List (List Va)} (j : RSp w base p g L) (a : List Va) : (rT a L).length ≤ 5 := by
  by_cases h : finE a L = 0
  · obtain ⟨k, hk, _, h1, _⟩ := fin_at h
    have hmem : gg L k ∈ L := by simp only [gg, List.getD_eq_getElem?_getD, List.getElem?_eq_getElem hk, Option.getD_some]; exact List.getElem_mem hk
    rw [h1]; exact (tu_len (j.ok _ hmem).2).2
  · rw [rT, if_neg h]; simp
set_option maxHeartbeats 6400000 in
set_option maxRecDepth 100000 in
theorem walk (w : World) (hg : HG w) (A : Option Addr) (c : Nat) (ds : List Int) (hdc : ds.length ≤ c) (hcm : c ≤ maxLen) (hA : Ints w A ds) (_ : ∀ i, i < ds.length → I64 (gi ds i))
    (B : Option Addr) (d : Nat) (l : List (List Va)) (hld : l.length ≤ d) (hdm : d ≤ maxLen) (hB : Many Vals w B l) (hok : ∀ i, i < l.length → okL (gg l i)) :
    Calls Tryd.prog 17 #[.slice A ds.length c, .slice B l.length d] w fun e w' => e = .returned (.bool true) ∧ Below w.heap.size w w' := by
  obtain ⟨W1, hW1⟩ : ∃ W1, W1 = w.alloc (.cells #[.slice none 0 0] 106) := ⟨_, rfl⟩
  obtain ⟨W2, hW2⟩ : ∃ W2, W2 = W1.alloc (.cells #[.slice none 0 0] 106) := ⟨_, rfl⟩
  obtain ⟨W3, hW3⟩ : ∃ W3, W3 = W2.alloc (.cells #[.slice none 0 0] 78) := ⟨_, rfl⟩
  obtain ⟨W4, hW4⟩ : ∃ W4, W4 = W3.alloc (.cells #[.slice none 0 0] 78) := ⟨_, rfl⟩
  have hb1 : Below w.heap.size w W1 := by rw [hW1]; exact bal1 _ _
  have hb2 : Below W1.heap.size W1 W2 := by rw [hW2]; exact bal1 _ _
  have hb3 : Below W2.heap.size W2 W3 := by rw [hW3]; exact bal1 _ _
  have hb4 : Below W3.heap.size W3 W4 := by rw [hW4]; exact bal1 _ _
  have hz1 : W1.heap.size = w.heap.size + 1 := by rw [hW1]; exact Array.size_push _
  have hz2 : W2.heap.size = w.heap.size + 1 + 1 := by rw [hW2, ← hz1]; exact Array.size_push _
  have hz3 : W3.heap.size = w.heap.size + 1 + 1 + 1 := by rw [hW3, ← hz2]; exact Array.size_push _
  have hs0 : Spc W1 w.heap.size w.heap.size none [] := by rw [hW1]; exact Spc.new w (Nat.le_refl _)
  have ho0 : Spc W2 w.heap.size W1.heap.size none [] := by rw [hW2]; exact Spc.new W1 hb1.size
  have hm0 : RSp W3 w.heap.size W2.heap.size none [] := by rw [hW3]; exact RSp.new W2 (bcl hb1 hb2).size
  have hk0 : RSp W4 w.heap.size W3.heap.size none [] := by rw [hW4]; exact RSp.new W3 (bcl (bcl hb1 hb2) hb3).size
  have hj0 : J4 w W4 w.heap.size none (w.heap.size + 1) none (w.heap.size + 1 + 1) none (w.heap.size + 1 + 1 + 1) none [] [] [] [] := by
    rw [hz1] at ho0
    rw [hz2] at hm0
    rw [hz3] at hk0
    exact ⟨hg, bcl (bcl (bcl hb1 hb2) hb3) hb4, ((hs0.keep hb2).keep hb3).keep hb4, (ho0.keep hb3).keep hb4, hm0.keep hb4, hk0, dis0 (by omega), dis0 (by omega), dis0 (by omega), dis0 (by omega), dis0 (by omega), dis0 (by omega)⟩
  have HJ0 := Lib.hid hj0; have HA := Lib.hid hA; have HB := Lib.hid hB; have HOK := Lib.hid hok
  clear hs0 ho0 hm0 hk0 hj0 hA hB hok hb1 hb2 hb3 hb4 hg hz1 hz2 hz3
  go_enter Tryd.func17, Tryd.ntmps17
  go_wp2_with (go_at_call 29; refine (spnew _).mono ?_; rintro e w' ⟨rfl, rfl⟩)
  rw [← hW1, ← hW2, ← hW3, ← hW4]
  clear hW1 hW2 hW3 hW4
  obtain ⟨q, hq⟩ : ∃ q, q = w.heap.size + 1 := ⟨_, rfl⟩
  rw [← hq] at HJ0 ⊢
  obtain ⟨p2, hp2⟩ : ∃ p2, p2 = q + 1 := ⟨_, rfl⟩
  rw [← hp2] at HJ0 ⊢
  obtain ⟨q2, hq2⟩ : ∃ q2, q2 = p2 + 1 := ⟨_, rfl⟩
  rw [← hq2] at HJ0 ⊢
  clear hq hp2 hq2
  go_loopw [9] (fun i wr => ∃ (k : Nat) (g h g2 h2 : Option Nat) (L K : List (List Va)), k ≤ 81 ∧ i = .int .i64 k ∧ Hid (J4 w wr w.heap.size g q h p2 g2 q2 h2 L K L K)) (fun i _ => 81 - (intOf i).toNat)
  case atStart => exact ⟨0, none, none, none, none, [], [], by omega, rfl, HJ0⟩
  case round =>
    obtain ⟨k, g, h, g2, h2, L, K, hk, rfl, HJ⟩ := hrel
    by_cases t1 : k + 1 < ds.length
    · by_cases t2 : k + 1 < l.length
      · by_cases t3 : k < 80
        · obtain ⟨bd, od, rfl, hdl, hd0⟩ := HA.out.at_ (show k < ds.length by omega)
          have i0 : (0 : Int) ≤ (k : Int) := by omega
          have i1 : (k : Int) < (l.length : Nat) := by omega
          have i2 : (0 : Int) ≤ (k : Int) + 1 := by omega
          have i3 : (k : Int) + 1 < (l.length : Nat) := by omega
          have i4 : IntKind.i64.wrap ((k : Int) + 1) = (k : Int) + 1 := by rw [IntKind.wrap_i64]; omega
          obtain ⟨bb, ob, Bk, Ck, rfl, hbl, y, hAk, hC1, hC2⟩ := HB.out.vat (show k < l.length by omega)
          obtain ⟨b9, o9, Bn, Cn, hbe, _, z, hAn, hD1, hD2⟩ := HB.out.vat t2
          injection hbe with hbe
          injection hbe with hbe1 hbe2
          subst hbe1 hbe2
          have hokk := HOK.out k (by omega)
          have hokn := HOK.out (k + 1) t2
          have x0 := (HJ.out.b.cell (p := ⟨bd, od + k, none⟩) hdl).trans hd0
          have y0 := (HJ.out.b.cell (p := ⟨bb, ob + k, none⟩) hbl).trans y
          have z0 := (HJ.out.b.cell (p := ⟨bb, ob + (k + 1), none⟩) hbl).trans z
          have hml : (gg l k).length ≤ maxLen := by omega
          have hmn : (gg l (k + 1)).length ≤ maxLen := by omega
          have crl := fun (W : World) (V : Vals W Bk (gg l k)) => rlike_any Bk Ck (gg l k) hml hokk W V
          have crt := fun (W : World) (V : Vals W Bn (gg l (k + 1))) => rtuple_any Bn Cn (gg l (k + 1)) hmn hokn W V
          generalize gi ds k = dv at *
          have HDD := Lib.hid hd0; have HY := Lib.hid y; have HZ := Lib.hid z; have HAK := Lib.hid hAk; have HAN := Lib.hid hAn; have HOKK := Lib.hid hokk; have HOKN := Lib.hid hokn; have HML := Lib.hid hml; have HMN := Lib.hid hmn
          have HK1 := Lib.hid hD1; have HK2 := Lib.hid hD2
          clear y z hAk hAn hokk hokn hml hmn hC1 hC2 hD1 hD2 hd0
          have CRL := Lib.hid crl; have CRT0 := Lib.hid crt
          clear crl crt
          go_upto_block 2 with (go_at_call 48; refine (CRL.out _ (HJ.out.vals HAK.out)).mono ?_; rintro e w1 ⟨rfl, hb1⟩; have HJ1 := Lib.hid (HJ.out.keep hb1); have x1 := (HJ1.out.b.cell (p := ⟨bd, od + k, none⟩) hdl).trans HDD.out; have y1 := (HJ1.out.b.cell (p := ⟨bb, ob + k, none⟩) hbl).trans HY.out; have z1 := (HJ1.out.b.cell (p := ⟨bb, ob + (k + 1), none⟩) hbl).trans HZ.out; have hg1 := HJ1.out.hg; have HG1 := Lib.hid hg1; clear hg1)
          go_cut [11] (fun s11 wx => s11 = .bool true ∧ ∃ (g h g2 h2 : Option Nat) (L K : List (List Va)), Hid (J4 w wx w.heap.size g q h p2 g2 q2 h2 L K L K))
          case first =>
            by_cases e1 : dv = 1
            · have hq1 : (dv == 1) = true := beq_iff_eq.2 e1
              clear e1
              by_cases u1 : liE (gg l k) = 0
              · rw [u1]
                have crt := CRT0.out
                by_cases u2 : tuE (gg l (k + 1)) = 0
                · rw [u2] at crt
                  have CRT := Lib.hid crt
                  clear crt
                  have hoc : ocE (gg l k) (gg l (k + 1)) = 0 := by rw [ocE, if_neg (by simp [u1]), u2]
                  have crg := fun (W : World) (j : J4 w W w.heap.size g q h p2 g2 q2 h2 L K L K) => j4rget j Bk Ck (gg l k) HML.out HOKK.out HAK.out
                  by_cases u3 : finE (gg l k) L = 0
                  · as_aux_lemma =>
                      have hll := rl_len u3
                      have hl20 := HJ.out.s.len
                      have hput : putE (rL (gg l k) L) (gg l (k + 1)) = 0 := by rw [putE, if_neg (by simp [u2]), if_neg (by omega)]
                      have crp := fun (W : World) (G : Option Nat) (j : J4 w W w.heap.size g q h p2 G q2 h2 L K (rL (gg l k) L) K) => j4rput j Bn Cn (gg l (k + 1)) HK1.out HK2.out HOKN.out HAN.out
                      rw [putL, hput, if_pos rfl] at crp
                      rw [u3] at crg
                      have ht5 := rt_len HJ.out.m (gg l k)
                      have hce : chE (gg l k) (gg l (k + 1)) L = 0 := by rw [chE, if_neg (by simp [hoc]), u3]
                      have hct : chT (gg l k) (gg l (k + 1)) L = rT (gg l k) L := by rw [chT, if_neg (by simp [hoc])]
                      have hcn : (chT (gg l k) (gg l (k + 1)) L).length = (rT (gg l k) L).length := by rw [hct]
                      have hcl : chL (gg l k) (gg l (k + 1)) L = rL (gg l k) L ++ [gg l (k + 1)] := by rw [chL, if_pos hce]
                      have HCE := Lib.hid hce; have HCT := Lib.hid hct; have HCN := Lib.hid hcn; have HCL := Lib.hid hcl
                      clear hce hct hcn hcl
                      generalize rT (gg l k) L = T at *
                      generalize rL (gg l k) L = M at *
                      have CRG := Lib.hid crg; have CRP := Lib.hid crp; have HT5 := Lib.hid ht5
                      clear crg crp hput u1 u2 u3 hoc hll hl20 ht5
                      go_wp2_with (first | (go_at_call 38; refine (CRT.out _ (HJ1.out.vals HAN.out)).mono ?_; rintro e w2 ⟨rfl, hb2⟩; have HJ2 := Lib.hid (HJ1.out.keep hb2); have y2 := (HJ2.out.b.cell (p := ⟨bb, ob + k, none⟩) hbl).trans HY.out; have z2 := (HJ2.out.b.cell (p := ⟨bb, ob + (k + 1), none⟩) hbl).trans HZ.out; have hg2 := HJ2.out.hg; have HG2 := Lib.hid hg2; clear hg2) | (go_at_call 50; refine (CRG.out _ HJ2.out).mono ?_; rintro e w3 ⟨BT, CT, rfl, hvt, _, G3, hj3⟩; have HJ3 := Lib.hid hj3; have HVT := Lib.hid hvt; clear hj3 hvt; have y3 := (HJ3.out.b.cell (p := ⟨bb, ob + k, none⟩) hbl).trans HY.out; have z3 := (HJ3.out.b.cell (p := ⟨bb, ob + (k + 1), none⟩) hbl).trans HZ.out; have hg3 := HJ3.out.hg; have HG3 := Lib.hid hg3; clear hg3) | (go_at_call 54; refine (CRP.out _ _ HJ3.out).mono ?_; rintro e w4 ⟨rfl, G4, hj4, hx4⟩; have hvt4 := HVT.out.chsM HJ3.out.s.hb hx4 HJ3.out.m.own; have HJ4 := Lib.hid hj4; have HVT4 := Lib.hid hvt4; clear hj4 hx4 hvt4; have y4 := (HJ4.out.b.cell (p := ⟨bb, ob + k, none⟩) hbl).trans HY.out; have z4 := (HJ4.out.b.cell (p := ⟨bb, ob + (k + 1), none⟩) hbl).trans HZ.out; have hg4 := HJ4.out.hg; have HG4 := Lib.hid hg4; clear hg4))
                      have HD := Lib.hid (HJ4.out.keep (bdr (Below.refl _ _)))
                      go_region_held3 (fun w' => w'.cell? ⟨bb, ob + k, none⟩ = some (.slice Bk (gg l k).length Ck) ∧ w'.cell? ⟨bb, ob + (k + 1), none⟩ = some (.slice Bn (gg l (k + 1)).length Cn)) (first | go_keep | exact ⟨y7, z7⟩) ((go_at_call 60; refine (j4onchange HD.out Bk Ck (gg l k) Bn Cn (gg l (k + 1)) HML.out HMN.out HOKK.out HOKN.out HAK.out HAN.out).mono ?_; rintro e w7 ⟨B7, C7, rfl, hv7, hc7, g7, hj7⟩; rw [HCE.out, HCN.out]; rw [HCT.out] at hv7; rw [HCL.out] at hj7; have HJ7 := Lib.hid hj7; have HV7 := Lib.hid hv7; have HC7 := Lib.hid hc7; clear hj7 hv7 hc7; have y7 := (HJ7.out.b.cell (p := ⟨bb, ob + k, none⟩) hbl).trans HY.out; have z7 := (HJ7.out.b.cell (p := ⟨bb, ob + (k + 1), none⟩) hbl).trans HZ.out; have hg7 := HJ7.out.hg; have HG7 := Lib.hid hg7; clear hg7))
                      have hvt7 := (HVT4.out.below (bdr (Below.refl _ _)) (Nat.le_refl _) HJ4.out.s.hb).chsM HD.out.s.hb HC7.out HD.out.s.own
                      have HVT7 := Lib.hid hvt7.1
                      clear hvt7
                      go_wp2_with (first | (go_at_call 24; refine (same_eW _ _ HG7.out).mono ?_; rintro e w8 ⟨rfl, hb8⟩; have HJ8 := Lib.hid (HJ7.out.keep hb8)) | (go_at_call 27; refine (same_tW _ _ _ _ T _ (HV7.out.below hb8 (Nat.le_refl _)) (HVT7.out.below hb8 (Nat.le_refl _)) HT5.out).mono ?_; rintro e w9 ⟨rfl, hb9⟩; have HJ9 := Lib.hid (HJ8.out.keep hb9)))
                      go_wp2_with fail
                      go_meet
                      case rel => exact ⟨rfl, _, _, _, _, _, _, HJ9⟩
                  · as_aux_lemma =>
                      have hqt : (finE (gg l k) L == 0) = false := beq_eq_false_iff_ne.2 u3
                      have hrt : rT (gg l k) L = [] := by rw [rT, if_neg u3]
                      have hrl : rL (gg l k) L = L := by rw [rL, if_neg u3]
                      rw [hrt, hrl] at crg
                      simp only [List.length_nil] at crg
                      have hce : chE (gg l k) (gg l (k + 1)) L = finE (gg l k) L := by rw [chE, if_neg (by simp [hoc])]
                      have hct : chT (gg l k) (gg l (k + 1)) L = [] := by rw [chT, if_neg (by simp [hoc]), hrt]
                      have hcn : (chT (gg l k) (gg l (k + 1)) L).length = 0 := by rw [hct]; rfl
                      have hcl : chL (gg l k) (gg l (k + 1)) L = L := by rw [chL, if_neg (by rw [hce]; exact u3)]
                      have HCE := Lib.hid hce; have HCT := Lib.hid hct; have HCN := Lib.hid hcn; have HCL := Lib.hid hcl
                      clear hce hct hcn hcl
                      generalize finE (gg l k) L = E at *
                      have CRG := Lib.hid crg
                      clear crg u1 u2 u3 hoc hrt hrl
                      go_wp2_with (first | (go_at_call 38; refine (CRT.out _ (HJ1.out.vals HAN.out)).mono ?_; rintro e w2 ⟨rfl, hb2⟩; have HJ2 := Lib.hid (HJ1.out.keep hb2); have y2 := (HJ2.out.b.cell (p := ⟨bb, ob + k, none⟩) hbl).trans HY.out; have z2 := (HJ2.out.b.cell (p := ⟨bb, ob + (k + 1), none⟩) hbl).trans HZ.out; have hg2 := HJ2.out.hg; have HG2 := Lib.hid hg2; clear hg2) | (go_at_call 50; refine (CRG.out _ HJ2.out).mono ?_; rintro e w3 ⟨BT, CT, rfl, _, _, G3, hj3⟩; have HJ3 := Lib.hid hj3; clear hj3; have y3 := (HJ3.out.b.cell (p := ⟨bb, ob + k, none⟩) hbl).trans HY.out; have z3 := (HJ3.out.b.cell (p := ⟨bb, ob + (k + 1), none⟩) hbl).trans HZ.out; have hg3 := HJ3.out.hg; have HG3 := Lib.hid hg3; clear hg3))
                      have HD := Lib.hid (HJ3.out.keep (bdr (Below.refl _ _)))
                      go_region_held3 (fun w' => w'.cell? ⟨bb, ob + k, none⟩ = some (.slice Bk (gg l k).length Ck) ∧ w'.cell? ⟨bb, ob + (k + 1), none⟩ = some (.slice Bn (gg l (k + 1)).length Cn)) (first | go_keep | exact ⟨y7, z7⟩) ((go_at_call 60; refine (j4onchange HD.out Bk Ck (gg l k) Bn Cn (gg l (k + 1)) HML.out HMN.out HOKK.out HOKN.out HAK.out HAN.out).mono ?_; rintro e w7 ⟨B7, C7, rfl, hv7, hc7, g7, hj7⟩; rw [HCE.out, HCN.out]; rw [HCT.out] at hv7; rw [HCL.out] at hj7; have HJ7 := Lib.hid hj7; have HV7 := Lib.hid hv7; have HC7 := Lib.hid hc7; clear hj7 hv7 hc7; have y7 := (HJ7.out.b.cell (p := ⟨bb, ob + k, none⟩) hbl).trans HY.out; have z7 := (HJ7.out.b.cell (p := ⟨bb, ob + (k + 1), none⟩) hbl).trans HZ.out; have hg7 := HJ7.out.hg; have HG7 := Lib.hid hg7; clear hg7))
                      go_wp2_with (first | (go_at_call 24; refine (same_eW _ _ HG7.out).mono ?_; rintro e w8 ⟨rfl, hb8⟩; have HJ8 := Lib.hid (HJ7.out.keep hb8)) | (go_at_call 27; refine (same_t0 _ _ _ _ _).mono ?_; rintro e w9 ⟨rfl, hb9⟩; have HJ9 := Lib.hid (HJ8.out.keep hb9)))
                      go_wp2_with fail
                      go_meet
                      case rel => exact ⟨rfl, _, _, _, _, _, _, HJ9⟩
                · as_aux_lemma =>
                    have hoc : ocE (gg l k) (gg l (k + 1)) = tuE (gg l (k + 1)) := by rw [ocE, if_neg (by simp [u1])]
                    have hqt : (tuE (gg l (k + 1)) == 0) = false := beq_eq_false_iff_ne.2 u2
                    have hce : chE (gg l k) (gg l (k + 1)) L = tuE (gg l (k + 1)) := by rw [chE, if_pos (by rw [hoc]; exact u2), hoc]
                    have hct : chT (gg l k) (gg l (k + 1)) L = [] := by rw [chT, if_pos (by rw [hoc]; exact u2)]
                    have hcn : (chT (gg l k) (gg l (k + 1)) L).length = 0 := by rw [hct]; rfl
                    have hcl : chL (gg l k) (gg l (k + 1)) L = L := by rw [chL, if_neg (by rw [hce]; exact u2)]
                    have HCE := Lib.hid hce; have HCT := Lib.hid hct; have HCN := Lib.hid hcn; have HCL := Lib.hid hcl
                    clear hce hct hcn hcl
                    clear u1 hoc u2
                    generalize tuE (gg l (k + 1)) = E at *
                    have CRT := Lib.hid crt
                    clear crt
                    go_wp2_with (first | (go_at_call 38; refine (CRT.out _ (HJ1.out.vals HAN.out)).mono ?_; rintro e w2 ⟨rfl, hb2⟩; have HJ2 := Lib.hid (HJ1.out.keep hb2); have y2 := (HJ2.out.b.cell (p := ⟨bb, ob + k, none⟩) hbl).trans HY.out; have z2 := (HJ2.out.b.cell (p := ⟨bb, ob + (k + 1), none⟩) hbl).trans HZ.out; have hg2 := HJ2.out.hg; have HG2 := Lib.hid hg2; clear hg2))
                    have HD := Lib.hid (HJ2.out.keep (bdr (Below.refl _ _)))
                    go_region_held3 (fun w' => w'.cell? ⟨bb, ob + k, none⟩ = some (.slice Bk (gg l k).length Ck) ∧ w'.cell? ⟨bb, ob + (k + 1), none⟩ = some (.slice Bn (gg l (k + 1)).length Cn)) (first | go_keep | exact ⟨y7, z7⟩) ((go_at_call 60; refine (j4onchange HD.out Bk Ck (gg l k) Bn Cn (gg l (k + 1)) HML.out HMN.out HOKK.out HOKN.out HAK.out HAN.out).mono ?_; rintro e w7 ⟨B7, C7, rfl, hv7, hc7, g7, hj7⟩; rw [HCE.out, HCN.out]; rw [HCT.out] at hv7; rw [HCL.out] at hj7; have HJ7 := Lib.hid hj7; have HV7 := Lib.hid hv7; have HC7 := Lib.hid hc7; clear hj7 hv7 hc7; have y7 := (HJ7.out.b.cell (p := ⟨bb, ob + k, none⟩) hbl).trans HY.out; have z7 := (HJ7.out.b.cell (p := ⟨bb, ob + (k + 1), none⟩) hbl).trans HZ.out; have hg7 := HJ7.out.hg; have HG7 := Lib.hid hg7; clear hg7))
                    go_wp2_with (first | (go_at_call 24; refine (same_eW _ _ HG7.out).mono ?_; rintro e w8 ⟨rfl, hb8⟩; have HJ8 := Lib.hid (HJ7.out.keep hb8)) | (go_at_call 27; refine (same_t0 _ _ _ _ _).mono ?_; rintro e w9 ⟨rfl, hb9⟩; have HJ9 := Lib.hid (HJ8.out.keep hb9)))
                    go_wp2_with fail
                    go_meet
                    case rel => exact ⟨rfl, _, _, _, _, _, _, HJ9⟩
              · as_aux_lemma =>
                  have hoc : ocE (gg l k) (gg l (k + 1)) = liE (gg l k) := by rw [ocE, if_pos u1]
                  have hqt : (liE (gg l k) == 0) = false := beq_eq_false_iff_ne.2 u1
                  have hce : chE (gg l k) (gg l (k + 1)) L = liE (gg l k) := by rw [chE, if_pos (by rw [hoc]; exact u1), hoc]
                  have hct : chT (gg l k) (gg l (k + 1)) L = [] := by rw [chT, if_pos (by rw [hoc]; exact u1)]
                  have hcn : (chT (gg l k) (gg l (k + 1)) L).length = 0 := by rw [hct]; rfl
                  have hcl : chL (gg l k) (gg l (k + 1)) L = L := by rw [chL, if_neg (by rw [hce]; exact u1)]
                  have HCE := Lib.hid hce; have HCT := Lib.hid hct; have HCN := Lib.hid hcn; have HCL := Lib.hid hcl
                  clear hce hct hcn hcl
                  clear u1 hoc
                  generalize liE (gg l k) = E at *
                  go_wp2_with fail
                  have HD := Lib.hid (HJ1.out.keep (bdr (Below.refl _ _)))
                  go_region_held3 (fun w' => w'.cell? ⟨bb, ob + k, none⟩ = some (.slice Bk (gg l k).length Ck) ∧ w'.cell? ⟨bb, ob + (k + 1), none⟩ = some (.slice Bn (gg l (k + 1)).length Cn)) (first | go_keep | exact ⟨y7, z7⟩) ((go_at_call 60; refine (j4onchange HD.out Bk Ck (gg l k) Bn Cn (gg l (k + 1)) HML.out HMN.out HOKK.out HOKN.out HAK.out HAN.out).mono ?_; rintro e w7 ⟨B7, C7, rfl, hv7, hc7, g7, hj7⟩; rw [HCE.out, HCN.out]; rw [HCT.out] at hv7; rw [HCL.out] at hj7; have HJ7 := Lib.hid hj7; have HV7 := Lib.hid hv7; have HC7 := Lib.hid hc7; clear hj7 hv7 hc7; have y7 := (HJ7.out.b.cell (p := ⟨bb, ob + k, none⟩) hbl).trans HY.out; have z7 := (HJ7.out.b.cell (p := ⟨bb, ob + (k + 1), none⟩) hbl).trans HZ.out; have hg7 := HJ7.out.hg; have HG7 := Lib.hid hg7; clear hg7))
                  go_wp2_with (first | (go_at_call 24; refine (same_eW _ _ HG7.out).mono ?_; rintro e w8 ⟨rfl, hb8⟩; have HJ8 := Lib.hid (HJ7.out.keep hb8)) | (go_at_call 27; refine (same_t0 _ _ _ _ _).mono ?_; rintro e w9 ⟨rfl, hb9⟩; have HJ9 := Lib.hid (HJ8.out.keep hb9)))
                  go_wp2_with fail
                  go_meet
                  case rel => exact ⟨rfl, _, _, _, _, _, _, HJ9⟩
            · by_cases e2 : dv = 2
              · have hq1 : (dv == 1) = false := beq_eq_false_iff_ne.2 e1
                have hq2 : (dv == 2) = true := beq_iff_eq.2 e2
                clear e1 e2
                by_cases u1 : liE (gg l k) = 0
                · rw [u1]
                  have HU1 := Lib.hid u1
                  clear u1 CRT0 CRL x1
                  obtain ⟨wq, rfl⟩ : ∃ wq : World, wq = wr := ⟨_, rfl⟩
                  go_wp2_with fail
                  go_loopw [15, 16, 17] (fun n _ _ wr => ∃ (j : Nat) (M1 M2 : List (List Va)) (g3 h3 : Option Nat), n = .int .i64 j ∧ Hid (Mv (gg l k) L K j M1 M2) ∧ Hid (J4 w wr w.heap.size g q h p2 g3 q2 h3 L K M1 M2)) (fun n _ _ _ => 21 - (intOf n).toNat)
                  case atStart => exact ⟨0, L, K, g2, h2, rfl, Mv.zero, HJ1⟩
                  case round =>
                    obtain ⟨j, M1, M2, g3, h3, rfl, HMV, HJ2⟩ := hrel
                    obtain ⟨E8, n8, r1, r2, r3⟩ := HJ2.out.k.there
                    have hm20 := HJ2.out.k.len
                    have hmlen := HMV.out.len.2
                    have p1 := r1.cell (i := 0) rfl
                    have y2 := (HJ2.out.b.cell (p := ⟨bb, ob + k, none⟩) hbl).trans HY.out
                    have R1 := Lib.hid r1; have R2 := Lib.hid r2; have R3 := Lib.hid r3; have HLEN := Lib.hid hmlen
                    clear r1 r2 r3 hmlen
                    by_cases f1 : M2.length = 20
                    · as_aux_lemma =>
                        have tf : decide (((M2.length : Nat) : Int) < 20) = false := by simp; omega
                        have HEND := Lib.hid (Or.inr f1 : plc (gg l k) M1 < 0 ∨ M2.length = 20)
                        clear f1
                        go_wp2_with (first | (go_at_call 61; refine (move_same w.heap.size (.bool true) Bk Ck (gg l k) HML.out HOKK.out _ (HJ6.out.vals HAK.out) HU1.out).mono ?_; rintro e w7 ⟨rfl, hb7⟩; have HJ7 := Lib.hid (HJ6.out.keep hb7); have hg7 := HJ7.out.hg; have HG7 := Lib.hid hg7; clear hg7) | (go_at_call 61; refine (j4moveD HJ2.out Bk Ck (gg l k) HML.out HOKK.out HAK.out HU1.out HMV.out HEND.out).mono ?_; rintro e w6 ⟨rfl, H6, hj6⟩; have HJ6 := Lib.hid hj6; clear hj6; have y6 := (HJ6.out.b.cell (p := ⟨bb, ob + k, none⟩) hbl).trans HY.out; have z6 := (HJ6.out.b.cell (p := ⟨bb, ob + (k + 1), none⟩) hbl).trans HZ.out; have hg6 := HJ6.out.hg; have HG6 := Lib.hid hg6; clear hg6) | (go_at_call 24; (with_reducible refine (same_nil _).mono ?_); rintro e w8 ⟨rfl, rfl⟩) | (go_at_call 24; refine (same_errW _ _ HG7.out).mono ?_; rintro e w9 ⟨rfl, hb9⟩; have HJ9 := Lib.hid (HJ7.out.keep hb9)))
                        go_wp2_with fail
                        go_meet
                        case rel => exact ⟨rfl, _, _, _, _, _, _, HJ9⟩
                    · have tf : decide (((M2.length : Nat) : Int) < 20) = true := by simp; omega
                      have crg := j4rget HJ2.out Bk Ck (gg l k) HML.out HOKK.out HAK.out
                      by_cases f2 : finE (gg l k) M1 = 0
                      · as_aux_lemma =>
                          obtain ⟨hto, ht0⟩ := rt_ok HJ2.out.m f2
                          have ht5 := rt_len HJ2.out.m (gg l k)
                          have hmv2 := mv_got HMV.out f2 f1
                          rw [f2] at crg
                          generalize rT (gg l k) M1 = T at *
                          generalize rL (gg l k) M1 = M3 at *
                          have CRG := Lib.hid crg; have HTO := Lib.hid hto; have HT0 := Lib.hid ht0; have HMV2 := Lib.hid hmv2; have HF1 := Lib.hid f1
                          have hl2 : M2.length ≤ 1000000 := by omega
                          have hj21 : j < 21 := by have := HLEN.out; omega
                          clear crg hto ht0 hmv2 f2 f1
                          go_wp2_with (first | (go_at_call 50; refine CRG.out.mono ?_; rintro e w3 ⟨BT, CT, rfl, hvt, hct, G3, hj3⟩; have HJ3 := Lib.hid hj3; have HVT := Lib.hid hvt; have HCT := Lib.hid hct; clear hj3 hvt hct; obtain ⟨E9, n9, s1, s2, s3⟩ := HJ3.out.k.there; have p3 := s1.cell (i := 0) rfl; have S1 := Lib.hid s1; have S2 := Lib.hid s2; have S3 := Lib.hid s3; have hpl := s1.lt; clear s1 s2 s3) | (at_builtin; refine wpList_append_many_at vals_stay rfl _ _ 47 29 28 rfl Tryd.underlying47 infoVals (by decide) w.heap.size E9 n9 M2 rfl (S3.out.keep vals_stay HJ3.out.s.hb (bal1 _ _)) w3.heap.size BT T CT rfl (cell_new1 _ _ _) (Sl.alloc HVT.out.1 _) HCT.out.1 HCT.out.2 ((HVT.out.2 HT0.out).stay fun x hx => (bal1 _ _).block _ ((HVT.out.2 HT0.out).lt HJ3.out.s.hb hx)) hl2 (le_al HJ3.out.s.hb _) ?_; intro b4 c4 w4 ho4 hg4 hx4; have P4 := (j4at HJ3.out S1.out S3.out hg4).2; have k4 := P4.cell (i := 0) rfl; have f4 := P4.frozen 0; have HJ5 := Lib.hid (j4push HJ3.out S1.out S2.out S3.out HF1.out HTO.out ho4 hg4 hx4); clear ho4 hg4 hx4 P4))
                          go_roundw
                          case rel => exact ⟨j + 1, M3, M2 ++ [T], _, _, by go_num, HMV2, HJ5⟩
                          case measure => simp [intOf]; omega
                      · as_aux_lemma =>
                          have hfe : finE (gg l k) M1 = 5 := by
                            have h0 := HU1.out
                            unfold finE at f2 ⊢
                            rw [if_neg (by simp [h0])] at f2 ⊢
                            by_cases hp : plc (gg l k) M1 < 0
                            · rw [if_pos hp]
                            · rw [if_neg hp] at f2; exact absurd rfl f2
                          have hpl : plc (gg l k) M1 < 0 := by
                            have h0 := HU1.out
                            unfold finE at f2
                            rw [if_neg (by simp [h0])] at f2
                            by_cases hp : plc (gg l k) M1 < 0
                            · exact hp
                            · rw [if_neg hp] at f2; exact absurd rfl f2
                          have hrl : rL (gg l k) M1 = M1 := by rw [rL, if_neg f2]
                          rw [hfe, hrl] at crg
                          have CRG := Lib.hid crg
                          have HEND := Lib.hid (Or.inl hpl : plc (gg l k) M1 < 0 ∨ M2.length = 20)
                          clear crg hfe hpl hrl f1 f2
                          go_wp2_with (go_at_call 50; refine CRG.out.mono ?_; rintro e w3 ⟨BT, CT, rfl, _, _, G3, hj3⟩; have HJ3 := Lib.hid hj3; clear hj3; have y3 := (HJ3.out.b.cell (p := ⟨bb, ob + k, none⟩) hbl).trans HY.out; have z3 := (HJ3.out.b.cell (p := ⟨bb, ob + (k + 1), none⟩) hbl).trans HZ.out; have hg3 := HJ3.out.hg; have HG3 := Lib.hid hg3; clear hg3)
                          go_wp2_with (first | (go_at_call 61; refine (move_same w.heap.size (.bool true) Bk Ck (gg l k) HML.out HOKK.out _ (HJ6.out.vals HAK.out) HU1.out).mono ?_; rintro e w7 ⟨rfl, hb7⟩; have HJ7 := Lib.hid (HJ6.out.keep hb7); have hg7 := HJ7.out.hg; have HG7 := Lib.hid hg7; clear hg7) | (go_at_call 61; refine (j4moveD HJ3.out Bk Ck (gg l k) HML.out HOKK.out HAK.out HU1.out HMV.out HEND.out).mono ?_; rintro e w6 ⟨rfl, H6, hj6⟩; have HJ6 := Lib.hid hj6; clear hj6; have y6 := (HJ6.out.b.cell (p := ⟨bb, ob + k, none⟩) hbl).trans HY.out; have z6 := (HJ6.out.b.cell (p := ⟨bb, ob + (k + 1), none⟩) hbl).trans HZ.out; have hg6 := HJ6.out.hg; have HG6 := Lib.hid hg6; clear hg6) | (go_at_call 24; (with_reducible refine (same_nil _).mono ?_); rintro e w8 ⟨rfl, rfl⟩) | (go_at_call 24; refine (same_errW _ _ HG7.out).mono ?_; rintro e w9 ⟨rfl, hb9⟩; have HJ9 := Lib.hid (HJ7.out.keep hb9)))
                          go_wp2_with fail
                          go_meet
                          case rel => exact ⟨rfl, _, _, _, _, _, _, HJ9⟩
                · as_aux_lemma =>
                    have hqt : (liE (gg l k) == 0) = false := beq_eq_false_iff_ne.2 u1
                    have cmv := fun (v1 v2 : Value) (W : World) (V : Vals W Bk (gg l k)) => move_no v1 v2 Bk Ck (gg l k) HML.out HOKK.out W V u1
                    generalize liE (gg l k) = E at *
                    have CMV := Lib.hid cmv
                    clear cmv u1 CRT0 CRL x1
                    obtain ⟨wq, rfl⟩ : ∃ wq : World, wq = wr := ⟨_, rfl⟩
                    go_wp2_with fail
                    go_loopw [15, 16, 17] (fun n _ _ wr => n = .int .i64 0 ∧ wr = w1) (fun _ _ _ _ => 0)
                    case atStart => exact ⟨rfl, rfl⟩
                    case round =>
                      obtain ⟨rfl, rfl⟩ := hrel
                      go_wp2_with (first | (go_at_call 61; refine (CMV.out _ _ _ (HJ6.out.vals HAK.out)).mono ?_; rintro e w7 ⟨rfl, hb7⟩; have HJ7 := Lib.hid (HJ6.out.keep hb7); have hg7 := HJ7.out.hg; have HG7 := Lib.hid hg7; clear hg7) | (go_at_call 61; refine (CMV.out _ _ _ (HJ1.out.vals HAK.out)).mono ?_; rintro e w6 ⟨rfl, hb6⟩; have HJ6 := Lib.hid (HJ1.out.keep hb6); have y6 := (HJ6.out.b.cell (p := ⟨bb, ob + k, none⟩) hbl).trans HY.out; have z6 := (HJ6.out.b.cell (p := ⟨bb, ob + (k + 1), none⟩) hbl).trans HZ.out; have hg6 := HJ6.out.hg; have HG6 := Lib.hid hg6; clear hg6) | (go_at_call 24; refine (same_errW _ _ HG8.out).mono ?_; rintro e w9 ⟨rfl, hb9⟩; have HJ9 := Lib.hid (HJ8.out.keep hb9)) | (go_at_call 24; refine (same_errW _ _ HG7.out).mono ?_; rintro e w8 ⟨rfl, hb8⟩; have HJ8 := Lib.hid (HJ7.out.keep hb8); have hg8 := HJ8.out.hg; have HG8 := Lib.hid hg8; clear hg8))
                      go_wp2_with fail
                      go_meet
                      case rel => exact ⟨rfl, _, _, _, _, _, _, HJ9⟩
              · have hq1 : (dv == 1) = false := beq_eq_false_iff_ne.2 e1
                have hq2 : (dv == 2) = false := beq_eq_false_iff_ne.2 e2
                by_cases u1 : liE (gg l k) = 0
                · rw [u1]
                  have crt := CRT0.out
                  by_cases u2 : tuE (gg l (k + 1)) = 0
                  · rw [u2] at crt
                    have CRT := Lib.hid crt
                    clear crt
                    have hoc : ocE (gg l k) (gg l (k + 1)) = 0 := by rw [ocE, if_neg (by simp [u1]), u2]
                    have crc := fun (W : World) (j : J4 w W w.heap.size g q h p2 g2 q2 h2 L K L K) => j4rcount j Bk Ck (gg l k) HML.out HAK.out
                    have crp := fun (W : World) (G : Option Nat) (j : J4 w W w.heap.size g q h p2 G q2 h2 L K L K) => j4rput j Bn Cn (gg l (k + 1)) HK1.out HK2.out HOKN.out HAN.out
                    by_cases u3 : cnt (gg l k) L L.length = 0
                    · rw [u3] at crc
                      by_cases u4 : L.length = 20
                      · as_aux_lemma =>
                          have hput : putE L (gg l (k + 1)) = 4 := by rw [putE, if_neg (by simp [u2]), if_pos u4]
                          rw [putL, hput, if_neg (by decide)] at crp
                          have hpb : poB (gg l k) (gg l (k + 1)) L = false := by simp [poB, u4]
                          have hpe : poE (gg l k) (gg l (k + 1)) L = 4 := by rw [poE, if_neg (by simp [hoc]), if_neg (by simp [u3]), if_pos u4]
                          have hpl : poL (gg l k) (gg l (k + 1)) L = L := by rw [poL, hpb]; rfl
                          have HPB := Lib.hid hpb; have HPE := Lib.hid hpe; have HPL := Lib.hid hpl; clear hpb hpe hpl
                          have CRC := Lib.hid crc; have CRP := Lib.hid crp
                          clear crc crp hput u1 u2 u3 u4 hoc
                          go_wp2_with (first | (go_at_call 38; refine (CRT.out _ (HJ1.out.vals HAN.out)).mono ?_; rintro e w2 ⟨rfl, hb2⟩; have HJ2 := Lib.hid (HJ1.out.keep hb2); have y2 := (HJ2.out.b.cell (p := ⟨bb, ob + k, none⟩) hbl).trans HY.out; have z2 := (HJ2.out.b.cell (p := ⟨bb, ob + (k + 1), none⟩) hbl).trans HZ.out; have hg2 := HJ2.out.hg; have HG2 := Lib.hid hg2; clear hg2) | (go_at_call 53; refine (CRC.out _ HJ2.out).mono ?_; rintro e w3 ⟨rfl, hb3⟩; have HJ3 := Lib.hid (HJ2.out.keep hb3); have y3 := (HJ3.out.b.cell (p := ⟨bb, ob + k, none⟩) hbl).trans HY.out; have z3 := (HJ3.out.b.cell (p := ⟨bb, ob + (k + 1), none⟩) hbl).trans HZ.out; have hg3 := HJ3.out.hg; have HG3 := Lib.hid hg3; clear hg3) | (go_at_call 54; refine (CRP.out _ _ HJ3.out).mono ?_; rintro e w4 ⟨rfl, g4, hj4, hx4⟩; have HJ4 := Lib.hid hj4; have HX4 := Lib.hid hx4; clear hj4 hx4; have y4 := (HJ4.out.b.cell (p := ⟨bb, ob + k, none⟩) hbl).trans HY.out; have z4 := (HJ4.out.b.cell (p := ⟨bb, ob + (k + 1), none⟩) hbl).trans HZ.out; have hg4 := HJ4.out.hg; have HG4 := Lib.hid hg4; clear hg4))
                          have HD := Lib.hid (HJ4.out.keep (bdr (Below.refl _ _)))
                          go_region_held3 (fun w' => w'.cell? ⟨bb, ob + k, none⟩ = some (.slice Bk (gg l k).length Ck) ∧ w'.cell? ⟨bb, ob + (k + 1), none⟩ = some (.slice Bn (gg l (k + 1)).length Cn)) (first | go_keep | exact ⟨y7, z7⟩) ((go_at_call 62; refine (j4onput HD.out Bk Ck (gg l k) Bn Cn (gg l (k + 1)) HML.out HMN.out HOKK.out HOKN.out HAK.out HAN.out).mono ?_; rintro e w7 ⟨rfl, g7, hj7⟩; rw [HPB.out, HPE.out]; rw [HPL.out] at hj7; have HJ7 := Lib.hid hj7; clear hj7; have y7 := (HJ7.out.b.cell (p := ⟨bb, ob + k, none⟩) hbl).trans HY.out; have z7 := (HJ7.out.b.cell (p := ⟨bb, ob + (k + 1), none⟩) hbl).trans HZ.out; have hg7 := HJ7.out.hg; have HG7 := Lib.hid hg7; clear hg7))
                          go_wp2_with (go_at_call 24; refine (same_eW _ _ HG7.out).mono ?_; rintro e w9 ⟨rfl, hb9⟩; have HJ9 := Lib.hid (HJ7.out.keep hb9))
                          go_wp2_with fail
                          go_meet
                          case rel => exact ⟨rfl, _, _, _, _, _, _, HJ9⟩
                      · as_aux_lemma =>
                          have hput : putE L (gg l (k + 1)) = 0 := by rw [putE, if_neg (by simp [u2]), if_neg u4]
                          rw [putL, hput, if_pos rfl] at crp
                          have hpb : poB (gg l k) (gg l (k + 1)) L = true := by simp [poB, hoc, u3, u4]
                          have hpe : poE (gg l k) (gg l (k + 1)) L = 0 := by rw [poE, if_neg (by simp [hoc]), if_neg (by simp [u3]), if_neg u4]
                          have hpl : poL (gg l k) (gg l (k + 1)) L = L ++ [gg l (k + 1)] := by rw [poL, hpb]; rfl
                          have HPB := Lib.hid hpb; have HPE := Lib.hid hpe; have HPL := Lib.hid hpl; clear hpb hpe hpl
                          have CRC := Lib.hid crc; have CRP := Lib.hid crp
                          clear crc crp hput u1 u2 u3 u4 hoc
                          go_wp2_with (first | (go_at_call 38; refine (CRT.out _ (HJ1.out.vals HAN.out)).mono ?_; rintro e w2 ⟨rfl, hb2⟩; have HJ2 := Lib.hid (HJ1.out.keep hb2); have y2 := (HJ2.out.b.cell (p := ⟨bb, ob + k, none⟩) hbl).trans HY.out; have z2 := (HJ2.out.b.cell (p := ⟨bb, ob + (k + 1), none⟩) hbl).trans HZ.out; have hg2 := HJ2.out.hg; have HG2 := Lib.hid hg2; clear hg2) | (go_at_call 53; refine (CRC.out _ HJ2.out).mono ?_; rintro e w3 ⟨rfl, hb3⟩; have HJ3 := Lib.hid (HJ2.out.keep hb3); have y3 := (HJ3.out.b.cell (p := ⟨bb, ob + k, none⟩) hbl).trans HY.out; have z3 := (HJ3.out.b.cell (p := ⟨bb, ob + (k + 1), none⟩) hbl).trans HZ.out; have hg3 := HJ3.out.hg; have HG3 := Lib.hid hg3; clear hg3) | (go_at_call 54; refine (CRP.out _ _ HJ3.out).mono ?_; rintro e w4 ⟨rfl, g4, hj4, hx4⟩; have HJ4 := Lib.hid hj4; have HX4 := Lib.hid hx4; clear hj4 hx4; have y4 := (HJ4.out.b.cell (p := ⟨bb, ob + k, none⟩) hbl).trans HY.out; have z4 := (HJ4.out.b.cell (p := ⟨bb, ob + (k + 1), none⟩) hbl).trans HZ.out; have hg4 := HJ4.out.hg; have HG4 := Lib.hid hg4; clear hg4))
                          have HD := Lib.hid (HJ4.out.keep (bdr (Below.refl _ _)))
                          go_region_held3 (fun w' => w'.cell? ⟨bb, ob + k, none⟩ = some (.slice Bk (gg l k).length Ck) ∧ w'.cell? ⟨bb, ob + (k + 1), none⟩ = some (.slice Bn (gg l (k + 1)).length Cn)) (first | go_keep | exact ⟨y7, z7⟩) ((go_at_call 62; refine (j4onput HD.out Bk Ck (gg l k) Bn Cn (gg l (k + 1)) HML.out HMN.out HOKK.out HOKN.out HAK.out HAN.out).mono ?_; rintro e w7 ⟨rfl, g7, hj7⟩; rw [HPB.out, HPE.out]; rw [HPL.out] at hj7; have HJ7 := Lib.hid hj7; clear hj7; have y7 := (HJ7.out.b.cell (p := ⟨bb, ob + k, none⟩) hbl).trans HY.out; have z7 := (HJ7.out.b.cell (p := ⟨bb, ob + (k + 1), none⟩) hbl).trans HZ.out; have hg7 := HJ7.out.hg; have HG7 := Lib.hid hg7; clear hg7))
                          go_wp2_with (go_at_call 24; refine (same_eW _ _ HG7.out).mono ?_; rintro e w9 ⟨rfl, hb9⟩; have HJ9 := Lib.hid (HJ7.out.keep hb9))
                          go_wp2_with fail
                          go_meet
                          case rel => exact ⟨rfl, _, _, _, _, _, _, HJ9⟩
                    · as_aux_lemma =>
                        have hqc : ((cnt (gg l k) L L.length : Int) == 0) = false := by simp; omega
                        have hpb : poB (gg l k) (gg l (k + 1)) L = false := by simp [poB, u3]
                        have hpe : poE (gg l k) (gg l (k + 1)) L = 0 := by rw [poE, if_neg (by simp [hoc]), if_pos u3]
                        have hpl : poL (gg l k) (gg l (k + 1)) L = L := by rw [poL, hpb]; rfl
                        have HPB := Lib.hid hpb; have HPE := Lib.hid hpe; have HPL := Lib.hid hpl; clear hpb hpe hpl
                        generalize cnt (gg l k) L L.length = CN at *
                        have CRC := Lib.hid crc
                        clear crc crp u1 u2 u3 hoc
                        go_wp2_with (first | (go_at_call 38; refine (CRT.out _ (HJ1.out.vals HAN.out)).mono ?_; rintro e w2 ⟨rfl, hb2⟩; have HJ2 := Lib.hid (HJ1.out.keep hb2); have y2 := (HJ2.out.b.cell (p := ⟨bb, ob + k, none⟩) hbl).trans HY.out; have z2 := (HJ2.out.b.cell (p := ⟨bb, ob + (k + 1), none⟩) hbl).trans HZ.out; have hg2 := HJ2.out.hg; have HG2 := Lib.hid hg2; clear hg2) | (go_at_call 53; refine (CRC.out _ HJ2.out).mono ?_; rintro e w3 ⟨rfl, hb3⟩; have HJ3 := Lib.hid (HJ2.out.keep hb3); have y3 := (HJ3.out.b.cell (p := ⟨bb, ob + k, none⟩) hbl).trans HY.out; have z3 := (HJ3.out.b.cell (p := ⟨bb, ob + (k + 1), none⟩) hbl).trans HZ.out; have hg3 := HJ3.out.hg; have HG3 := Lib.hid hg3; clear hg3))
                        have HD := Lib.hid (HJ3.out.keep (bdr (Below.refl _ _)))
                        go_region_held3 (fun w' => w'.cell? ⟨bb, ob + k, none⟩ = some (.slice Bk (gg l k).length Ck) ∧ w'.cell? ⟨bb, ob + (k + 1), none⟩ = some (.slice Bn (gg l (k + 1)).length Cn)) (first | go_keep | exact ⟨y7, z7⟩) ((go_at_call 62; refine (j4onput HD.out Bk Ck (gg l k) Bn Cn (gg l (k + 1)) HML.out HMN.out HOKK.out HOKN.out HAK.out HAN.out).mono ?_; rintro e w7 ⟨rfl, g7, hj7⟩; rw [HPB.out, HPE.out]; rw [HPL.out] at hj7; have HJ7 := Lib.hid hj7; clear hj7; have y7 := (HJ7.out.b.cell (p := ⟨bb, ob + k, none⟩) hbl).trans HY.out; have z7 := (HJ7.out.b.cell (p := ⟨bb, ob + (k + 1), none⟩) hbl).trans HZ.out; have hg7 := HJ7.out.hg; have HG7 := Lib.hid hg7; clear hg7))
                        go_wp2_with (go_at_call 24; refine (same_eW _ _ HG7.out).mono ?_; rintro e w9 ⟨rfl, hb9⟩; have HJ9 := Lib.hid (HJ7.out.keep hb9))
                        go_wp2_with fail
                        go_meet
                        case rel => exact ⟨rfl, _, _, _, _, _, _, HJ9⟩
                  · as_aux_lemma =>
                      have hoc : ocE (gg l k) (gg l (k + 1)) = tuE (gg l (k + 1)) := by rw [ocE, if_neg (by simp [u1])]
                      have hqt : (tuE (gg l (k + 1)) == 0) = false := beq_eq_false_iff_ne.2 u2
                      have hpb : poB (gg l k) (gg l (k + 1)) L = false := by simp [poB, hoc, u2]
                      have hpe : poE (gg l k) (gg l (k + 1)) L = tuE (gg l (k + 1)) := by rw [poE, if_pos (by rw [hoc]; exact u2), hoc]
                      have hpl : poL (gg l k) (gg l (k + 1)) L = L := by rw [poL, hpb]; rfl
                      have HPB := Lib.hid hpb; have HPE := Lib.hid hpe; have HPL := Lib.hid hpl; clear hpb hpe hpl
                      clear u1 hoc u2
                      generalize tuE (gg l (k + 1)) = E at *
                      have CRT := Lib.hid crt
                      clear crt
                      go_wp2_with (first | (go_at_call 38; refine (CRT.out _ (HJ1.out.vals HAN.out)).mono ?_; rintro e w2 ⟨rfl, hb2⟩; have HJ2 := Lib.hid (HJ1.out.keep hb2); have y2 := (HJ2.out.b.cell (p := ⟨bb, ob + k, none⟩) hbl).trans HY.out; have z2 := (HJ2.out.b.cell (p := ⟨bb, ob + (k + 1), none⟩) hbl).trans HZ.out; have hg2 := HJ2.out.hg; have HG2 := Lib.hid hg2; clear hg2))
                      have HD := Lib.hid (HJ2.out.keep (bdr (Below.refl _ _)))
                      go_region_held3 (fun w' => w'.cell? ⟨bb, ob + k, none⟩ = some (.slice Bk (gg l k).length Ck) ∧ w'.cell? ⟨bb, ob + (k + 1), none⟩ = some (.slice Bn (gg l (k + 1)).length Cn)) (first | go_keep | exact ⟨y7, z7⟩) ((go_at_call 62; refine (j4onput HD.out Bk Ck (gg l k) Bn Cn (gg l (k + 1)) HML.out HMN.out HOKK.out HOKN.out HAK.out HAN.out).mono ?_; rintro e w7 ⟨rfl, g7, hj7⟩; rw [HPB.out, HPE.out]; rw [HPL.out] at hj7; have HJ7 := Lib.hid hj7; clear hj7; have y7 := (HJ7.out.b.cell (p := ⟨bb, ob + k, none⟩) hbl).trans HY.out; have z7 := (HJ7.out.b.cell (p := ⟨bb, ob + (k + 1), none⟩) hbl).trans HZ.out; have hg7 := HJ7.out.hg; have HG7 := Lib.hid hg7; clear hg7))
                      go_wp2_with (go_at_call 24; refine (same_eW _ _ HG7.out).mono ?_; rintro e w9 ⟨rfl, hb9⟩; have HJ9 := Lib.hid (HJ7.out.keep hb9))
                      go_wp2_with fail
                      go_meet
                      case rel => exact ⟨rfl, _, _, _, _, _, _, HJ9⟩
                · as_aux_lemma =>
                    have hoc : ocE (gg l k) (gg l (k + 1)) = liE (gg l k) := by rw [ocE, if_pos u1]
                    have hqt : (liE (gg l k) == 0) = false := beq_eq_false_iff_ne.2 u1
                    have hpb : poB (gg l k) (gg l (k + 1)) L = false := by simp [poB, hoc, u1]
                    have hpe : poE (gg l k) (gg l (k + 1)) L = liE (gg l k) := by rw [poE, if_pos (by rw [hoc]; exact u1), hoc]
                    have hpl : poL (gg l k) (gg l (k + 1)) L = L := by rw [poL, hpb]; rfl
                    have HPB := Lib.hid hpb; have HPE := Lib.hid hpe; have HPL := Lib.hid hpl; clear hpb hpe hpl
                    clear u1 hoc
                    generalize liE (gg l k) = E at *
                    go_wp2_with fail
                    have HD := Lib.hid (HJ1.out.keep (bdr (Below.refl _ _)))
                    go_region_held3 (fun w' => w'.cell? ⟨bb, ob + k, none⟩ = some (.slice Bk (gg l k).length Ck) ∧ w'.cell? ⟨bb, ob + (k + 1), none⟩ = some (.slice Bn (gg l (k + 1)).length Cn)) (first | go_keep | exact ⟨y7, z7⟩) ((go_at_call 62; refine (j4onput HD.out Bk Ck (gg l k) Bn Cn (gg l (k + 1)) HML.out HMN.out HOKK.out HOKN.out HAK.out HAN.out).mono ?_; rintro e w7 ⟨rfl, g7, hj7⟩; rw [HPB.out, HPE.out]; rw [HPL.out] at hj7; have HJ7 := Lib.hid hj7; clear hj7; have y7 := (HJ7.out.b.cell (p := ⟨bb, ob + k, none⟩) hbl).trans HY.out; have z7 := (HJ7.out.b.cell (p := ⟨bb, ob + (k + 1), none⟩) hbl).trans HZ.out; have hg7 := HJ7.out.hg; have HG7 := Lib.hid hg7; clear hg7))
                    go_wp2_with (go_at_call 24; refine (same_eW _ _ HG7.out).mono ?_; rintro e w9 ⟨rfl, hb9⟩; have HJ9 := Lib.hid (HJ7.out.keep hb9))
                    go_wp2_with fail
                    go_meet
                    case rel => exact ⟨rfl, _, _, _, _, _, _, HJ9⟩
          case rest =>
            obtain ⟨rfl, g, h, g2, h2, L, K, HJ9⟩ := hcut
            as_aux_lemma =>
              have HJ10 := Lib.hid (HJ9.out.keep (bdr (Below.refl _ _)))
              obtain ⟨E9, n9, q1, q2', q3, q4⟩ := HJ9.out.m.list
              obtain ⟨E8, n8, r1, r2, r3, r4⟩ := HJ9.out.k.list
              have HQ2 := Lib.hid q2'; have HQ3 := Lib.hid q3; have HR2 := Lib.hid r2; have HR3 := Lib.hid r3
              clear q2' q3 r2 r3
              go_wp2_with fail
              go_region_held3 (fun w' => w'.cell? ⟨p2, 0, none⟩ = some (.slice E9 (L).length n9) ∧ w'.cell? ⟨q2, 0, none⟩ = some (.slice E8 (K).length n8)) (first | go_keep | exact k13 | exact k12 | exact k11 | exact k10) ((first | (go_at_call 30; refine (all_of (HJ10.out.keep hb11).o).mono ?_; rintro e w12 ⟨A12, c12, rfl, hm12, hb12⟩; have HM12 := Lib.hid hm12; clear hm12; have hb12 := bcl hb11 hb12; have k12 := And.intro ((hb12.cell (p := ⟨p2, 0, none⟩) q4).trans q1) ((hb12.cell (p := ⟨q2, 0, none⟩) r4).trans r1)) | (go_at_call 30; refine (all_of HJ10.out.s).mono ?_; rintro e w10 ⟨A10, c10, rfl, hm10, hb10⟩; have HM10 := Lib.hid hm10; clear hm10; have k10 := And.intro ((hb10.cell (p := ⟨p2, 0, none⟩) q4).trans q1) ((hb10.cell (p := ⟨q2, 0, none⟩) r4).trans r1)) | (go_at_call 55; refine (same_tsW _ _ _ _ _ _ HM12.out (many_below HR2.out (bcl (bdr (Below.refl _ _)) hb12)) HR3.out).mono ?_; rintro e w13 ⟨rfl, hb13⟩; have hb13 := bcl hb12 hb13; have k13 := And.intro ((hb13.cell (p := ⟨p2, 0, none⟩) q4).trans q1) ((hb13.cell (p := ⟨q2, 0, none⟩) r4).trans r1)) | (go_at_call 55; refine (same_tsW _ _ _ _ _ _ HM10.out (many_below HQ2.out (bcl (bdr (Below.refl _ _)) hb10)) HQ3.out).mono ?_; rintro e w11 ⟨rfl, hb11⟩; have hb11 := bcl hb10 hb11; have k11 := And.intro ((hb11.cell (p := ⟨p2, 0, none⟩) q4).trans q1) ((hb11.cell (p := ⟨q2, 0, none⟩) r4).trans r1))))
              go_wp2_with fail
              go_roundw
              case rel => exact ⟨k + 2, _, _, _, _, _, _, by omega, by go_num, Lib.hid (HJ10.out.keep hb13)⟩
              case measure => simp [intOf]; omega
        · have t4 : decide ((k : Int) < 80) = false := by simp; omega
          go_wp2_with fail
          go_ret
          exact ⟨ret_true (by first | rfl | (simp; done) | (simp; omega)), HJ.out.b⟩
      · have t4 : decide ((k : Int) + 1 < (l.length : Nat)) = false := by simp; omega
        go_wp2_with fail
        go_ret
        exact ⟨ret_true (by first | rfl | (simp; done) | (simp; omega)), HJ.out.b⟩
    · have t4 : decide ((k : Int) + 1 < (ds.length : Nat)) = false := by simp; omega
      go_wp2_with fail
      go_ret
      exact ⟨ret_true (by first | rfl | (simp; done) | (simp; omega)), HJ.out.b⟩
end Go.Proofs.YthpemlhlgjdnkaaDoor.oncePlays
