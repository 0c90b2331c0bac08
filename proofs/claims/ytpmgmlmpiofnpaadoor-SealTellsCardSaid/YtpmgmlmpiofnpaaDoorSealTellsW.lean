/- SealTellsCardSaid: any text sealed, and any opened, are the reference's. -/
import Derived.Test.YtpmgmlmpiofnpaaDoorRefSh
import Derived.Test.YtpmgmlmpiofnpaaDoorSame
import Derived.Test.YtpmgmlmpiofnpaaDoorSeal
import Derived.Test.YtpmgmlmpiofnpaaDoorAppMany
import Derived.Test.YtpmgmlmpiofnpaaDoorDoor
import Derived.Test.YtpmgmlmpiofnpaaDoorTie
import Derived.Test.YtpmgmlmpiofnpaaDoorCards
import Derived.WalkKit
import Derived.ProofKit
import Derived.OpenShut
import Derived.ShutString
import Derived.ChangeOld
import Derived.WalkLawsBesides
import Derived.WalkSpells
import Derived.RegionTactic
import Derived.ChangeAlike
import Derived.SevenTiedAt
import Derived.Deep.DeepCutAuto
import Derived.Outline
namespace Go.Proofs.YtpmgmlmpiofnpaaDoor.sealTells
open Go.ChangeShapes Go.WideShapes Go.ChangeAt Go.RowKit Go.Deep
set_option linter.unusedVariables false

theorem first_bad (f : Nat → Int) (n : Nat) : ∃ K, K ≤ n ∧ (∀ i, i < K → f i = 0) ∧ (K = n ∨ f K ≠ 0) := by
  induction n with
  | zero => exact ⟨0, Nat.le_refl _, fun i h => absurd h (by omega), .inl rfl⟩
  | succ n ih =>
    obtain ⟨K, h1, h2, h3⟩ := ih
    rcases h3 with rfl | h3
    · by_cases e : f K = 0
      · exact ⟨K + 1, Nat.le_refl _, fun i hi => by
          rcases Nat.lt_or_ge i K with h | h
          · exact h2 i h
          · obtain rfl : i = K := by omega
            exact e, .inl rfl⟩
      · exact ⟨K, by omega, h2, .inr e⟩
    · exact ⟨K, by omega, h2, .inr h3⟩
theorem open_split (l : List (List Sh)) (need : Int) : 12 < l.length ∨ ∃ K, l.length ≤ 12 ∧ K ≤ l.length ∧ (∀ i, i < K → oE l need i = 0) ∧ (K = l.length ∨ oE l need K ≠ 0) := by
  rcases Nat.lt_or_ge 12 l.length with h | h
  · exact .inl h
  · obtain ⟨K, h1, h2, h3⟩ := first_bad (oE l need) l.length
    exact .inr ⟨K, h, h1, h2, h3⟩
set_option maxHeartbeats 1600000 in
set_option maxRecDepth 100000 in
theorem walk4 (w : World) (hg : HG w) (t : ByteArray) (ht : t.size ≤ maxLen) (A : Option Addr) (c : Nat) (rest : List (List Int)) (hrc : rest.length ≤ c) (hcm : c ≤ maxLen) (hA : Many Ints w A rest)
    (m : Int) (B : Option Addr) (d : Nat) (l : List (List Sh)) (hld : l.length ≤ d) (hdm : d ≤ maxLen) (hB : Many Shares w B l) (need : Int) (h4 : 12 < t.size) :
    Calls Tryd.prog 8 #[.string t, .slice A rest.length c, .int .i64 m, .slice B l.length d, .int .i64 need] w fun e w' => e = .returned (.bool true) ∧ Below w.heap.size w w' := by
  have cs := fun (W : World) => seal_no t A c rest m _ W (.inl ⟨h4, rfl⟩) ht (by omega)
  have CS := Lib.hid cs
  clear cs
  have HA := Lib.hid hA; have HB := Lib.hid hB; have GS := Lib.hid (open_split l need); have HG0 := Lib.hid (DG.refl hg)
  clear hA hB hg
  unfold maxLen at ht hcm hdm
  go_enter Tryd.func8, Tryd.ntmps8
  go_wp2_with fail
  go_loopw [11, 12, 13] (fun e o i wr => e = .int .i64 4 ∧ o = .slice none 0 0 ∧ i = .int .i64 0 ∧ wr = w) (fun _ _ _ _ => 0)
  case atStart => exact ⟨rfl, rfl, rfl, rfl⟩
  case round =>
    obtain ⟨rfl, rfl, rfl, rfl⟩ := hrel
    obtain ⟨wq, hwq⟩ : ∃ wq : World, wq = wr := ⟨_, rfl⟩
    subst hwq
    go_wp2_with (first | (go_at_call 41; refine (CS.out _).mono ?_; rintro e w' ⟨rfl, rfl⟩) | (go_at_call 13; refine (same_err _ wq _ HG0.out).mono ?_; rintro e w3 ⟨rfl, hd3⟩; have HD3 := Lib.hid hd3; clear hd3))
    go_loopw [16, 17] (fun s16 s17 wr => s16 = .bool true ∧ s17 = .int .i64 0 ∧ wr = w3) (fun _ _ _ => 0)
    case atStart => exact ⟨rfl, rfl, rfl⟩
    case round =>
      obtain ⟨rfl, rfl, rfl⟩ := hrel
      obtain ⟨w, rfl⟩ : ∃ w : World, w = wq := ⟨_, rfl⟩
      obtain ⟨wa, rfl⟩ : ∃ wa : World, wa = wr := ⟨_, rfl⟩
      have HDA := HD3
      have hba := many_shares_below HB.out HDA.out.2
      have HBA := Lib.hid hba
      clear hba
      rcases GS.out with g4 | ⟨K2, g12, gK, gok, gend⟩
      · as_aux_lemma =>
          have c4 := fun (W : World) => open_no B d l need g4 (by unfold maxLen; omega) W
          have C4 := Lib.hid c4
          clear c4
          go_wp2_with fail
          go_loopw [11, 18, 19, 20, 21] (fun s11 s18 s19 _ _ wr => s11 = .int .i64 4 ∧ s18 = .slice none 0 0 ∧ s19 = .int .i64 0 ∧ wr = wa) (fun _ _ _ _ _ _ => 0)
          case atStart => exact ⟨rfl, rfl, rfl, rfl⟩
          case round =>
            obtain ⟨rfl, rfl, rfl, rfl⟩ := hrel
            go_wp2_with (first | (go_at_call 42; refine (C4.out _).mono ?_; rintro e w' ⟨rfl, rfl⟩) | (go_at_call 13; refine (same_err _ w _ HDA.out).mono ?_; rintro e w9 ⟨rfl, hd9⟩))
            go_ret
            exact ⟨ret_true (by first | rfl | (simp; done) | (simp; omega)), hd9.2⟩
      · have hl12 : l.length ≤ 12 := g12
        by_cases hKl : K2 = l.length
        · as_aux_lemma =>
            subst hKl
            have co := fun (W : World) (hW : Many Shares W B l) => open_any B d l need g12 l.length (Nat.le_refl _) gok (.inl rfl) W hW
            have CO := Lib.hid co; have GOK := Lib.hid gok
            clear co gok gend
            go_wp2_with fail
            go_loopw [11, 18, 19, 20, 21] (fun s11 s18 s19 _ _ wr => ∃ (k : Nat) (A' : Option Addr) (c' : Nat), k ≤ l.length ∧ s11 = .int .i64 0 ∧ s19 = .int .i64 k ∧ s18 = .slice A' (openL l need k).length c' ∧ Hid (OBytes wr wa.heap.size A' c' (openL l need k)) ∧ Hid (Below wa.heap.size wa wr)) (fun _ _ i _ _ _ => l.length - (intOf i).toNat)
            case atStart => exact ⟨0, none, 0, Nat.zero_le _, rfl, rfl, rfl, OBytes.nil, Below.refl _ _⟩
            case round =>
              obtain ⟨k, A', c', hk, rfl, rfl, rfl, HO, HBL⟩ := hrel
              have hll := openL_length l need k
              have hz := HBL.out.size
              by_cases hlt : k < l.length
              · have hM := many_shares_below HBA.out HBL.out
                obtain ⟨b, off, Bk, Ck, rfl, hbl, hcell, hq, hq1, hq2⟩ := hM.at_ (i := k) hlt
                have hoe := GOK.out k hlt
                have he : joE (gg l k) need = 0 := by
                  rcases Decidable.em (joE (gg l k) need = 0) with h | h
                  · exact h
                  · rw [oE, if_pos h] at hoe; exact absurd hoe h
                have hv5 : oV l need k ≤ 255 := by
                  rw [oE, if_neg (by rw [he]; decide)] at hoe
                  rcases Int.lt_or_le 255 (oV l need k) with h | h
                  · rw [if_pos h] at hoe; cases hoe
                  · exact h
                obtain ⟨hm, hp, hn⟩ := joE_zero he
                obtain ⟨m0, m1⟩ := manB_true.1 hm
                obtain ⟨n, hnn⟩ := Int.eq_ofNat_of_zero_le (show 0 ≤ need by omega)
                have cj := fun W (hW : Shares W Bk (gg l k)) => rjoin_ok Bk Ck (gg l k) n hq1 hq2 (by rw [← hnn]; exact hm) hp (by omega) W hW
                have hv : thrL ((gg l k).take n) 0 = oV l need k := by rw [oV, hnn]; rfl
                rw [hv, ← hnn] at cj
                obtain ⟨v0, v1⟩ := oV_range l need k
                have hbw := oB_wrap hv5
                have hs := openL_succ l need k
                generalize oB l need k = bb at *
                generalize oV l need k = V at *
                have CJ := Lib.hid cj; have HS := Lib.hid hs; have HL := Lib.hid hll; have HBW := Lib.hid hbw; have HQ := Lib.hid hq
                have hl6 : (openL l need k).length ≤ 1000000 := by omega
                clear cj hs hll hbw hp he hv hm hM hoe hnn hq
                go_wp2_with fail
                refine (CJ.out _ HQ.out).mono ?_
                rintro e w2 ⟨rfl, hb2⟩
                have hb2' := bcl HBL.out hb2
                have hz2 := hb2'.size
                have ho2 := HO.out.keep hb2
                have HO2 := Lib.hid ho2; have HB2 := Lib.hid hb2'
                clear ho2 hb2' hb2
                go_wp2_with (at_builtin; refine wpList_append_byte rfl _ _ rfl wa.heap.size A' c' _ rfl (HO2.out.keep (bal1 _ _)) w2.heap.size bb rfl (by rw [← HBW.out]; exact cell_new1 _ _ _) hl6 (le_al hz2 _) ?_; intro A3 c3 w3 ho3 hb3)
                go_roundw
                case rel => exact ⟨k + 1, A3, c3, by omega, rfl, by go_num, by rw [HS.out]; simp, Lib.hid (by rw [HS.out]; exact ho3), Lib.hid ((bal HB2.out _).trans hb3)⟩
                case measure => simp [intOf]; omega
              · obtain rfl : k = l.length := by omega
                have hcv := HO.out.conv
                rw [hll] at hcv ⊢
                clear hll
                have hd := HDA.out.below HBL.out
                have HD := Lib.hid hd; have hbb := many_shares_below HBA.out HBL.out; have HBB := Lib.hid hbb; clear hd hbb
                go_wp2_with (first | (go_at_call 42; refine (CO.out _ HBB.out).mono ?_; rintro e w4 ⟨hb4, ⟨_, rfl⟩ | ⟨h, _⟩⟩; rotate_left; exact absurd h (Nat.lt_irrefl _); have hd4 := HD.out.below hb4; have HD4 := Lib.hid hd4; clear hd4) | (go_at_call 13; (with_reducible refine (same_nil _).mono ?_); rintro e w8 ⟨rfl, rfl⟩))
                go_ret
                exact ⟨ret_true (by first | rfl | (simp; done) | (simp; omega)), HD4.out.2⟩
        · as_aux_lemma =>
            have hlt2 : K2 < l.length := by omega
            have hbad : oE l need K2 ≠ 0 := by
              rcases gend with h | h
              · exact absurd h hKl
              · exact h
            have co := fun (W : World) (hW : Many Shares W B l) => open_any B d l need g12 K2 gK gok (.inr hbad) W hW
            have GOK := Lib.hid gok
            obtain ⟨E2, hE2⟩ : ∃ E2, oE l need K2 = E2 := ⟨_, rfl⟩
            rw [hE2] at co hbad
            have CO := Lib.hid co; have HE2 := Lib.hid hE2; have HBAD := Lib.hid hbad
            have hq0 : (E2 == 0) = false := beq_eq_false_iff_ne.2 hbad
            clear co gok gend hE2 hbad hKl
            go_wp2_with fail
            go_loopw [11, 18, 19, 20, 21] (fun s11 s18 s19 _ _ wr => ∃ (k : Nat) (e : Int) (A' : Option Addr) (c' : Nat), k ≤ K2 + 1 ∧ s11 = .int .i64 e ∧ s19 = .int .i64 k ∧ s18 = .slice A' k c' ∧ Hid ((k ≤ K2 ∧ e = 0 ∧ OBytes wr wa.heap.size A' c' (openL l need k)) ∨ (k = K2 + 1 ∧ e = E2)) ∧ Hid (Below wa.heap.size wa wr)) (fun _ _ i _ _ _ => l.length - (intOf i).toNat)
            case atStart => exact ⟨0, 0, none, 0, by omega, rfl, rfl, rfl, .inl ⟨Nat.zero_le _, rfl, OBytes.nil⟩, Below.refl _ _⟩
            case round =>
              obtain ⟨k, e, A', c', hk, rfl, rfl, rfl, HX, HBL⟩ := hrel
              have hll := openL_length l need k
              have hz := HBL.out.size
              rcases HX.out with ⟨hkK, rfl, ho⟩ | ⟨rfl, rfl⟩
              · have hlt : k < l.length := by omega
                have HO := Lib.hid ho
                clear ho HX
                have hM := many_shares_below HBA.out HBL.out
                obtain ⟨b, off, Bk, Ck, rfl, hbl, hcell, hq, hq1, hq2⟩ := hM.at_ (i := k) hlt
                by_cases he : joE (gg l k) need = 0
                · obtain ⟨hm, hp, hn⟩ := joE_zero he
                  obtain ⟨m0, m1⟩ := manB_true.1 hm
                  obtain ⟨n, hnn⟩ := Int.eq_ofNat_of_zero_le (show 0 ≤ need by omega)
                  have cj := fun W (hW : Shares W Bk (gg l k)) => rjoin_ok Bk Ck (gg l k) n hq1 hq2 (by rw [← hnn]; exact hm) hp (by omega) W hW
                  have hv : thrL ((gg l k).take n) 0 = oV l need k := by rw [oV, hnn]; rfl
                  rw [hv, ← hnn] at cj
                  obtain ⟨v0, v1⟩ := oV_range l need k
                  by_cases hv5 : oV l need k ≤ 255
                  · have hoe : oE l need k = 0 := by rw [oE, if_neg (by rw [he]; decide), if_neg (by omega)]
                    have hkK2 : k < K2 := by
                      rcases Nat.lt_or_ge k K2 with h | h
                      · exact h
                      · obtain rfl : k = K2 := by omega
                        rw [HE2.out] at hoe; exact absurd hoe HBAD.out
                    have hbw := oB_wrap hv5
                    have hs := openL_succ l need k
                    generalize oB l need k = bb at *
                    generalize oV l need k = V at *
                    have CJ := Lib.hid cj; have HS := Lib.hid hs; have HL := Lib.hid hll; have HBW := Lib.hid hbw; have HQ := Lib.hid hq
                    have hl6 : (openL l need k).length ≤ 1000000 := by omega
                    have e0 : Value.slice A' k c' = Value.slice A' (openL l need k).length c' := by rw [HL.out]
                    have E0 := Lib.hid e0
                    clear cj hs hll hbw hp he hv hm hM hoe hnn hq e0
                    go_wp2_with fail
                    refine (CJ.out _ HQ.out).mono ?_
                    rintro e w2 ⟨rfl, hb2⟩
                    have hb2' := bcl HBL.out hb2
                    have hz2 := hb2'.size
                    have ho2 := HO.out.keep hb2
                    have HO2 := Lib.hid ho2; have HB2 := Lib.hid hb2'
                    clear ho2 hb2' hb2
                    go_wp2_with (at_builtin; refine wpList_append_byte rfl _ _ rfl wa.heap.size A' c' (openL l need k) E0.out (HO2.out.keep (bal1 _ _)) w2.heap.size bb rfl (by rw [← HBW.out]; exact cell_new1 _ _ _) hl6 (le_al hz2 _) ?_; rw [HL.out]; intro A3 c3 w3 ho3 hb3; have HO3 := Lib.hid ho3; have HB3 := Lib.hid hb3; clear ho3 hb3)
                    go_roundw
                    case rel => exact ⟨k + 1, 0, A3, c3, by omega, rfl, by go_num, rfl, Lib.hid (.inl ⟨by omega, rfl, by rw [HS.out]; exact HO3.out⟩), Lib.hid ((bal HB2.out _).trans HB3.out)⟩
                    case measure => simp [intOf]; omega
                  · have hoe : oE l need k = 3 := by rw [oE, if_neg (by rw [he]; decide), if_pos (by omega)]
                    obtain rfl : k = K2 := by
                      rcases Nat.lt_or_ge k K2 with h | h
                      · have := GOK.out k h; rw [hoe] at this; cases this
                      · omega
                    obtain rfl : E2 = 3 := HE2.out.symm.trans hoe
                    have hv6 : oV l need k = 256 := by omega
                    rw [hv6] at cj
                    have CJ := Lib.hid cj; have HL := Lib.hid hll; have HQ := Lib.hid hq
                    have hl6 : (openL l need k).length ≤ 1000000 := by omega
                    have e0 : Value.slice A' k c' = Value.slice A' (openL l need k).length c' := by rw [HL.out]
                    have E0 := Lib.hid e0
                    clear cj hll hp he hv hm hM hoe hnn hq e0 hv6 hv5 v0 v1
                    go_wp2_with fail
                    refine (CJ.out _ HQ.out).mono ?_
                    rintro e w2 ⟨rfl, hb2⟩
                    have hb2' := bcl HBL.out hb2
                    have hz2 := hb2'.size
                    have ho2 := HO.out.keep hb2
                    have HO2 := Lib.hid ho2; have HB2 := Lib.hid hb2'
                    clear ho2 hb2' hb2
                    go_wp2_with (at_builtin; refine wpList_append_byte rfl _ _ rfl wa.heap.size A' c' (openL l need k) E0.out (HO2.out.keep (bal1 _ _)) w2.heap.size 0 rfl (cell_new1 _ _ _) hl6 (le_al hz2 _) ?_; rw [HL.out]; intro A3 c3 w3 ho3 hb3; have HB3 := Lib.hid hb3; clear ho3 hb3)
                    go_roundw
                    case rel => exact ⟨k + 1, 3, A3, c3, by omega, rfl, by go_num, rfl, Lib.hid (.inr ⟨rfl, rfl⟩), Lib.hid ((bal HB2.out _).trans HB3.out)⟩
                    case measure => simp [intOf]; omega
                · have hoe : oE l need k = joE (gg l k) need := by rw [oE, if_pos he]
                  obtain rfl : k = K2 := by
                    rcases Nat.lt_or_ge k K2 with h | h
                    · have := GOK.out k h; rw [hoe] at this; exact absurd this he
                    · omega
                  have cj := fun W (hW : Shares W Bk (gg l k)) => rjoin_no Bk Ck (gg l k) need he W hW
                  rw [← hoe, HE2.out] at cj
                  have CJ := Lib.hid cj; have HL := Lib.hid hll; have HQ := Lib.hid hq
                  have hl6 : (openL l need k).length ≤ 1000000 := by omega
                  have e0 : Value.slice A' k c' = Value.slice A' (openL l need k).length c' := by rw [HL.out]
                  have E0 := Lib.hid e0
                  clear cj hll he hM hoe hq e0
                  go_wp2_with fail
                  refine (CJ.out _ HQ.out).mono ?_
                  rintro e w2 ⟨rfl, hb2⟩
                  have hb2' := bcl HBL.out hb2
                  have hz2 := hb2'.size
                  have ho2 := HO.out.keep hb2
                  have HO2 := Lib.hid ho2; have HB2 := Lib.hid hb2'
                  clear ho2 hb2' hb2
                  go_wp2_with (at_builtin; refine wpList_append_byte rfl _ _ rfl wa.heap.size A' c' (openL l need k) E0.out (HO2.out.keep (bal1 _ _)) w2.heap.size 0 rfl (cell_new1 _ _ _) hl6 (le_al hz2 _) ?_; rw [HL.out]; intro A3 c3 w3 ho3 hb3; have HB3 := Lib.hid hb3; clear ho3 hb3)
                  go_roundw
                  case rel => exact ⟨k + 1, E2, A3, c3, by omega, rfl, by go_num, rfl, Lib.hid (.inr ⟨rfl, rfl⟩), Lib.hid ((bal HB2.out _).trans HB3.out)⟩
                  case measure => simp [intOf]; omega
              · clear hll
                have hd := HDA.out.below HBL.out
                have HD := Lib.hid hd; have hbb := many_shares_below HBA.out HBL.out; have HBB := Lib.hid hbb; clear hd hbb HX
                go_wp2_with (first | (go_at_call 42; refine (CO.out _ HBB.out).mono ?_; rintro e w4 ⟨hb4, ⟨h, _⟩ | ⟨_, rfl⟩⟩; exact absurd h (Nat.ne_of_lt hlt2); have hd4 := HD.out.below hb4; have HD4 := Lib.hid hd4; clear hd4) | (go_at_call 13; refine (same_err _ w _ HD4.out).mono ?_; rintro e w9 ⟨rfl, hd9⟩))
                all_goals go_ret
                all_goals exact ⟨ret_true (by first | rfl | (simp; done) | (simp; omega)), hd9.2⟩
set_option maxHeartbeats 1600000 in
set_option maxRecDepth 100000 in
theorem walk3 (w : World) (hg : HG w) (t : ByteArray) (ht : t.size ≤ maxLen) (A : Option Addr) (c : Nat) (rest : List (List Int)) (hrc : rest.length ≤ c) (hcm : c ≤ maxLen) (hA : Many Ints w A rest)
    (m : Int) (B : Option Addr) (d : Nat) (l : List (List Sh)) (hld : l.length ≤ d) (hdm : d ≤ maxLen) (hB : Many Shares w B l) (need : Int) (h12 : t.size ≤ 12) (h3 : rest.length ≠ t.size) :
    Calls Tryd.prog 8 #[.string t, .slice A rest.length c, .int .i64 m, .slice B l.length d, .int .i64 need] w fun e w' => e = .returned (.bool true) ∧ Below w.heap.size w w' := by
  have cs := fun (W : World) => seal_no t A c rest m _ W (.inr ⟨h12, h3, rfl⟩) ht (by omega)
  have CS := Lib.hid cs
  have q3 : ((rest.length : Int) != t.size) = true := by rw [bne_iff_ne]; omega
  clear cs
  have HA := Lib.hid hA; have HB := Lib.hid hB; have GS := Lib.hid (open_split l need); have HG0 := Lib.hid (DG.refl hg)
  clear hA hB hg
  unfold maxLen at ht hcm hdm
  go_enter Tryd.func8, Tryd.ntmps8
  go_wp2_with fail
  go_loopw [11, 12, 13] (fun e o i wr => e = .int .i64 3 ∧ o = .slice none 0 0 ∧ i = .int .i64 0 ∧ wr = w) (fun _ _ _ _ => 0)
  case atStart => exact ⟨rfl, rfl, rfl, rfl⟩
  case round =>
    obtain ⟨rfl, rfl, rfl, rfl⟩ := hrel
    obtain ⟨wq, hwq⟩ : ∃ wq : World, wq = wr := ⟨_, rfl⟩
    subst hwq
    by_cases z : 0 < t.size
    all_goals
      go_wp2_with (first | (go_at_call 41; refine (CS.out _).mono ?_; rintro e w' ⟨rfl, rfl⟩) | (go_at_call 13; refine (same_err _ wq _ HG0.out).mono ?_; rintro e w3 ⟨rfl, hd3⟩; have HD3 := Lib.hid hd3; clear hd3))
      go_loopw [16, 17] (fun s16 s17 wr => s16 = .bool true ∧ s17 = .int .i64 0 ∧ wr = w3) (fun _ _ _ => 0)
      case atStart => exact ⟨rfl, rfl, rfl⟩
      case round =>
        obtain ⟨rfl, rfl, rfl⟩ := hrel
        obtain ⟨w, rfl⟩ : ∃ w : World, w = wq := ⟨_, rfl⟩
        obtain ⟨wa, rfl⟩ : ∃ wa : World, wa = wr := ⟨_, rfl⟩
        have HDA := HD3
        have hba := many_shares_below HB.out HDA.out.2
        have HBA := Lib.hid hba
        clear hba
        rcases GS.out with g4 | ⟨K2, g12, gK, gok, gend⟩
        · as_aux_lemma =>
            have c4 := fun (W : World) => open_no B d l need g4 (by unfold maxLen; omega) W
            have C4 := Lib.hid c4
            clear c4
            go_wp2_with fail
            go_loopw [11, 18, 19, 20, 21] (fun s11 s18 s19 _ _ wr => s11 = .int .i64 4 ∧ s18 = .slice none 0 0 ∧ s19 = .int .i64 0 ∧ wr = wa) (fun _ _ _ _ _ _ => 0)
            case atStart => exact ⟨rfl, rfl, rfl, rfl⟩
            case round =>
              obtain ⟨rfl, rfl, rfl, rfl⟩ := hrel
              go_wp2_with (first | (go_at_call 42; refine (C4.out _).mono ?_; rintro e w' ⟨rfl, rfl⟩) | (go_at_call 13; refine (same_err _ w _ HDA.out).mono ?_; rintro e w9 ⟨rfl, hd9⟩))
              go_ret
              exact ⟨ret_true (by first | rfl | (simp; done) | (simp; omega)), hd9.2⟩
        · have hl12 : l.length ≤ 12 := g12
          by_cases hKl : K2 = l.length
          · as_aux_lemma =>
              subst hKl
              have co := fun (W : World) (hW : Many Shares W B l) => open_any B d l need g12 l.length (Nat.le_refl _) gok (.inl rfl) W hW
              have CO := Lib.hid co; have GOK := Lib.hid gok
              clear co gok gend
              go_wp2_with fail
              go_loopw [11, 18, 19, 20, 21] (fun s11 s18 s19 _ _ wr => ∃ (k : Nat) (A' : Option Addr) (c' : Nat), k ≤ l.length ∧ s11 = .int .i64 0 ∧ s19 = .int .i64 k ∧ s18 = .slice A' (openL l need k).length c' ∧ Hid (OBytes wr wa.heap.size A' c' (openL l need k)) ∧ Hid (Below wa.heap.size wa wr)) (fun _ _ i _ _ _ => l.length - (intOf i).toNat)
              case atStart => exact ⟨0, none, 0, Nat.zero_le _, rfl, rfl, rfl, OBytes.nil, Below.refl _ _⟩
              case round =>
                obtain ⟨k, A', c', hk, rfl, rfl, rfl, HO, HBL⟩ := hrel
                have hll := openL_length l need k
                have hz := HBL.out.size
                by_cases hlt : k < l.length
                · have hM := many_shares_below HBA.out HBL.out
                  obtain ⟨b, off, Bk, Ck, rfl, hbl, hcell, hq, hq1, hq2⟩ := hM.at_ (i := k) hlt
                  have hoe := GOK.out k hlt
                  have he : joE (gg l k) need = 0 := by
                    rcases Decidable.em (joE (gg l k) need = 0) with h | h
                    · exact h
                    · rw [oE, if_pos h] at hoe; exact absurd hoe h
                  have hv5 : oV l need k ≤ 255 := by
                    rw [oE, if_neg (by rw [he]; decide)] at hoe
                    rcases Int.lt_or_le 255 (oV l need k) with h | h
                    · rw [if_pos h] at hoe; cases hoe
                    · exact h
                  obtain ⟨hm, hp, hn⟩ := joE_zero he
                  obtain ⟨m0, m1⟩ := manB_true.1 hm
                  obtain ⟨n, hnn⟩ := Int.eq_ofNat_of_zero_le (show 0 ≤ need by omega)
                  have cj := fun W (hW : Shares W Bk (gg l k)) => rjoin_ok Bk Ck (gg l k) n hq1 hq2 (by rw [← hnn]; exact hm) hp (by omega) W hW
                  have hv : thrL ((gg l k).take n) 0 = oV l need k := by rw [oV, hnn]; rfl
                  rw [hv, ← hnn] at cj
                  obtain ⟨v0, v1⟩ := oV_range l need k
                  have hbw := oB_wrap hv5
                  have hs := openL_succ l need k
                  generalize oB l need k = bb at *
                  generalize oV l need k = V at *
                  have CJ := Lib.hid cj; have HS := Lib.hid hs; have HL := Lib.hid hll; have HBW := Lib.hid hbw; have HQ := Lib.hid hq
                  have hl6 : (openL l need k).length ≤ 1000000 := by omega
                  clear cj hs hll hbw hp he hv hm hM hoe hnn hq
                  go_wp2_with fail
                  refine (CJ.out _ HQ.out).mono ?_
                  rintro e w2 ⟨rfl, hb2⟩
                  have hb2' := bcl HBL.out hb2
                  have hz2 := hb2'.size
                  have ho2 := HO.out.keep hb2
                  have HO2 := Lib.hid ho2; have HB2 := Lib.hid hb2'
                  clear ho2 hb2' hb2
                  go_wp2_with (at_builtin; refine wpList_append_byte rfl _ _ rfl wa.heap.size A' c' _ rfl (HO2.out.keep (bal1 _ _)) w2.heap.size bb rfl (by rw [← HBW.out]; exact cell_new1 _ _ _) hl6 (le_al hz2 _) ?_; intro A3 c3 w3 ho3 hb3)
                  go_roundw
                  case rel => exact ⟨k + 1, A3, c3, by omega, rfl, by go_num, by rw [HS.out]; simp, Lib.hid (by rw [HS.out]; exact ho3), Lib.hid ((bal HB2.out _).trans hb3)⟩
                  case measure => simp [intOf]; omega
                · obtain rfl : k = l.length := by omega
                  have hcv := HO.out.conv
                  rw [hll] at hcv ⊢
                  clear hll
                  have hd := HDA.out.below HBL.out
                  have HD := Lib.hid hd; have hbb := many_shares_below HBA.out HBL.out; have HBB := Lib.hid hbb; clear hd hbb
                  go_wp2_with (first | (go_at_call 42; refine (CO.out _ HBB.out).mono ?_; rintro e w4 ⟨hb4, ⟨_, rfl⟩ | ⟨h, _⟩⟩; rotate_left; exact absurd h (Nat.lt_irrefl _); have hd4 := HD.out.below hb4; have HD4 := Lib.hid hd4; clear hd4) | (go_at_call 13; (with_reducible refine (same_nil _).mono ?_); rintro e w8 ⟨rfl, rfl⟩))
                  go_ret
                  exact ⟨ret_true (by first | rfl | (simp; done) | (simp; omega)), HD4.out.2⟩
          · as_aux_lemma =>
              have hlt2 : K2 < l.length := by omega
              have hbad : oE l need K2 ≠ 0 := by
                rcases gend with h | h
                · exact absurd h hKl
                · exact h
              have co := fun (W : World) (hW : Many Shares W B l) => open_any B d l need g12 K2 gK gok (.inr hbad) W hW
              have GOK := Lib.hid gok
              obtain ⟨E2, hE2⟩ : ∃ E2, oE l need K2 = E2 := ⟨_, rfl⟩
              rw [hE2] at co hbad
              have CO := Lib.hid co; have HE2 := Lib.hid hE2; have HBAD := Lib.hid hbad
              have hq0 : (E2 == 0) = false := beq_eq_false_iff_ne.2 hbad
              clear co gok gend hE2 hbad hKl
              go_wp2_with fail
              go_loopw [11, 18, 19, 20, 21] (fun s11 s18 s19 _ _ wr => ∃ (k : Nat) (e : Int) (A' : Option Addr) (c' : Nat), k ≤ K2 + 1 ∧ s11 = .int .i64 e ∧ s19 = .int .i64 k ∧ s18 = .slice A' k c' ∧ Hid ((k ≤ K2 ∧ e = 0 ∧ OBytes wr wa.heap.size A' c' (openL l need k)) ∨ (k = K2 + 1 ∧ e = E2)) ∧ Hid (Below wa.heap.size wa wr)) (fun _ _ i _ _ _ => l.length - (intOf i).toNat)
              case atStart => exact ⟨0, 0, none, 0, by omega, rfl, rfl, rfl, .inl ⟨Nat.zero_le _, rfl, OBytes.nil⟩, Below.refl _ _⟩
              case round =>
                obtain ⟨k, e, A', c', hk, rfl, rfl, rfl, HX, HBL⟩ := hrel
                have hll := openL_length l need k
                have hz := HBL.out.size
                rcases HX.out with ⟨hkK, rfl, ho⟩ | ⟨rfl, rfl⟩
                · have hlt : k < l.length := by omega
                  have HO := Lib.hid ho
                  clear ho HX
                  have hM := many_shares_below HBA.out HBL.out
                  obtain ⟨b, off, Bk, Ck, rfl, hbl, hcell, hq, hq1, hq2⟩ := hM.at_ (i := k) hlt
                  by_cases he : joE (gg l k) need = 0
                  · obtain ⟨hm, hp, hn⟩ := joE_zero he
                    obtain ⟨m0, m1⟩ := manB_true.1 hm
                    obtain ⟨n, hnn⟩ := Int.eq_ofNat_of_zero_le (show 0 ≤ need by omega)
                    have cj := fun W (hW : Shares W Bk (gg l k)) => rjoin_ok Bk Ck (gg l k) n hq1 hq2 (by rw [← hnn]; exact hm) hp (by omega) W hW
                    have hv : thrL ((gg l k).take n) 0 = oV l need k := by rw [oV, hnn]; rfl
                    rw [hv, ← hnn] at cj
                    obtain ⟨v0, v1⟩ := oV_range l need k
                    by_cases hv5 : oV l need k ≤ 255
                    · have hoe : oE l need k = 0 := by rw [oE, if_neg (by rw [he]; decide), if_neg (by omega)]
                      have hkK2 : k < K2 := by
                        rcases Nat.lt_or_ge k K2 with h | h
                        · exact h
                        · obtain rfl : k = K2 := by omega
                          rw [HE2.out] at hoe; exact absurd hoe HBAD.out
                      have hbw := oB_wrap hv5
                      have hs := openL_succ l need k
                      generalize oB l need k = bb at *
                      generalize oV l need k = V at *
                      have CJ := Lib.hid cj; have HS := Lib.hid hs; have HL := Lib.hid hll; have HBW := Lib.hid hbw; have HQ := Lib.hid hq
                      have hl6 : (openL l need k).length ≤ 1000000 := by omega
                      have e0 : Value.slice A' k c' = Value.slice A' (openL l need k).length c' := by rw [HL.out]
                      have E0 := Lib.hid e0
                      clear cj hs hll hbw hp he hv hm hM hoe hnn hq e0
                      go_wp2_with fail
                      refine (CJ.out _ HQ.out).mono ?_
                      rintro e w2 ⟨rfl, hb2⟩
                      have hb2' := bcl HBL.out hb2
                      have hz2 := hb2'.size
                      have ho2 := HO.out.keep hb2
                      have HO2 := Lib.hid ho2; have HB2 := Lib.hid hb2'
                      clear ho2 hb2' hb2
                      go_wp2_with (at_builtin; refine wpList_append_byte rfl _ _ rfl wa.heap.size A' c' (openL l need k) E0.out (HO2.out.keep (bal1 _ _)) w2.heap.size bb rfl (by rw [← HBW.out]; exact cell_new1 _ _ _) hl6 (le_al hz2 _) ?_; rw [HL.out]; intro A3 c3 w3 ho3 hb3; have HO3 := Lib.hid ho3; have HB3 := Lib.hid hb3; clear ho3 hb3)
                      go_roundw
                      case rel => exact ⟨k + 1, 0, A3, c3, by omega, rfl, by go_num, rfl, Lib.hid (.inl ⟨by omega, rfl, by rw [HS.out]; exact HO3.out⟩), Lib.hid ((bal HB2.out _).trans HB3.out)⟩
                      case measure => simp [intOf]; omega
                    · have hoe : oE l need k = 3 := by rw [oE, if_neg (by rw [he]; decide), if_pos (by omega)]
                      obtain rfl : k = K2 := by
                        rcases Nat.lt_or_ge k K2 with h | h
                        · have := GOK.out k h; rw [hoe] at this; cases this
                        · omega
                      obtain rfl : E2 = 3 := HE2.out.symm.trans hoe
                      have hv6 : oV l need k = 256 := by omega
                      rw [hv6] at cj
                      have CJ := Lib.hid cj; have HL := Lib.hid hll; have HQ := Lib.hid hq
                      have hl6 : (openL l need k).length ≤ 1000000 := by omega
                      have e0 : Value.slice A' k c' = Value.slice A' (openL l need k).length c' := by rw [HL.out]
                      have E0 := Lib.hid e0
                      clear cj hll hp he hv hm hM hoe hnn hq e0 hv6 hv5 v0 v1
                      go_wp2_with fail
                      refine (CJ.out _ HQ.out).mono ?_
                      rintro e w2 ⟨rfl, hb2⟩
                      have hb2' := bcl HBL.out hb2
                      have hz2 := hb2'.size
                      have ho2 := HO.out.keep hb2
                      have HO2 := Lib.hid ho2; have HB2 := Lib.hid hb2'
                      clear ho2 hb2' hb2
                      go_wp2_with (at_builtin; refine wpList_append_byte rfl _ _ rfl wa.heap.size A' c' (openL l need k) E0.out (HO2.out.keep (bal1 _ _)) w2.heap.size 0 rfl (cell_new1 _ _ _) hl6 (le_al hz2 _) ?_; rw [HL.out]; intro A3 c3 w3 ho3 hb3; have HB3 := Lib.hid hb3; clear ho3 hb3)
                      go_roundw
                      case rel => exact ⟨k + 1, 3, A3, c3, by omega, rfl, by go_num, rfl, Lib.hid (.inr ⟨rfl, rfl⟩), Lib.hid ((bal HB2.out _).trans HB3.out)⟩
                      case measure => simp [intOf]; omega
                  · have hoe : oE l need k = joE (gg l k) need := by rw [oE, if_pos he]
                    obtain rfl : k = K2 := by
                      rcases Nat.lt_or_ge k K2 with h | h
                      · have := GOK.out k h; rw [hoe] at this; exact absurd this he
                      · omega
                    have cj := fun W (hW : Shares W Bk (gg l k)) => rjoin_no Bk Ck (gg l k) need he W hW
                    rw [← hoe, HE2.out] at cj
                    have CJ := Lib.hid cj; have HL := Lib.hid hll; have HQ := Lib.hid hq
                    have hl6 : (openL l need k).length ≤ 1000000 := by omega
                    have e0 : Value.slice A' k c' = Value.slice A' (openL l need k).length c' := by rw [HL.out]
                    have E0 := Lib.hid e0
                    clear cj hll he hM hoe hq e0
                    go_wp2_with fail
                    refine (CJ.out _ HQ.out).mono ?_
                    rintro e w2 ⟨rfl, hb2⟩
                    have hb2' := bcl HBL.out hb2
                    have hz2 := hb2'.size
                    have ho2 := HO.out.keep hb2
                    have HO2 := Lib.hid ho2; have HB2 := Lib.hid hb2'
                    clear ho2 hb2' hb2
                    go_wp2_with (at_builtin; refine wpList_append_byte rfl _ _ rfl wa.heap.size A' c' (openL l need k) E0.out (HO2.out.keep (bal1 _ _)) w2.heap.size 0 rfl (cell_new1 _ _ _) hl6 (le_al hz2 _) ?_; rw [HL.out]; intro A3 c3 w3 ho3 hb3; have HB3 := Lib.hid hb3; clear ho3 hb3)
                    go_roundw
                    case rel => exact ⟨k + 1, E2, A3, c3, by omega, rfl, by go_num, rfl, Lib.hid (.inr ⟨rfl, rfl⟩), Lib.hid ((bal HB2.out _).trans HB3.out)⟩
                    case measure => simp [intOf]; omega
                · clear hll
                  have hd := HDA.out.below HBL.out
                  have HD := Lib.hid hd; have hbb := many_shares_below HBA.out HBL.out; have HBB := Lib.hid hbb; clear hd hbb HX
                  go_wp2_with (first | (go_at_call 42; refine (CO.out _ HBB.out).mono ?_; rintro e w4 ⟨hb4, ⟨h, _⟩ | ⟨_, rfl⟩⟩; exact absurd h (Nat.ne_of_lt hlt2); have hd4 := HD.out.below hb4; have HD4 := Lib.hid hd4; clear hd4) | (go_at_call 13; refine (same_err _ w _ HD4.out).mono ?_; rintro e w9 ⟨rfl, hd9⟩))
                  all_goals go_ret
                  all_goals exact ⟨ret_true (by first | rfl | (simp; done) | (simp; omega)), hd9.2⟩
theorem sealL_at (t : ByteArray) (rest : List (List Int)) (n k i : Nat) (h : i < k) : gg (sealL t rest n k) i = dealL (gB t i :: gg rest i) n := by simp [gg, sealL, h]
theorem OMany.row {α : Type} {Q : World → Option Addr → List α → Prop} {t e : TypeId} {w : World} {base c : Nat} {A : Option Addr} {L : List (List α)} (h : OMany Q t e w base A c L) : ∃ vs, w.ownsRow base t 1 (.slice A L.length c) L.length vs := by
  obtain ⟨vs, h1, _⟩ := h; exact ⟨vs, h1⟩
theorem bgo {α : Type} {Q : World → Option Addr → List α → Prop} {t e : TypeId} {w a b : World} {c : Nat} {A : Option Addr} {L : List (List α)} (h : Below w.heap.size w a) (hg : a.grownBy b (Value.slice A L.length c).ownBlock) (ho : OMany Q t e a w.heap.size A c L) : Below w.heap.size w b := by
  obtain ⟨vs, h1⟩ := OMany.row ho; exact bgv h hg h1
set_option maxHeartbeats 1600000 in
set_option maxRecDepth 100000 in
theorem walk0 (w : World) (hg : HG w) (t : ByteArray) (ht : t.size ≤ maxLen) (A : Option Addr) (c : Nat) (rest : List (List Int)) (hrc : rest.length ≤ c) (hcm : c ≤ maxLen) (hA : Many Ints w A rest)
    (m : Int) (B : Option Addr) (d : Nat) (l : List (List Sh)) (hld : l.length ≤ d) (hdm : d ≤ maxLen) (hB : Many Shares w B l) (need : Int) (h12 : t.size ≤ 12) (hr : rest.length = t.size) (hok : ∀ i, i < t.size → shE (gB t i) (gg rest i) m = 0) :
    Calls Tryd.prog 8 #[.string t, .slice A rest.length c, .int .i64 m, .slice B l.length d, .int .i64 need] w fun e w' => e = .returned (.bool true) ∧ Below w.heap.size w w' := by
  have cs := fun (W : World) (hW : Many Ints W A rest) => seal_any t A c rest m h12 hr t.size (Nat.le_refl _) hok (.inl rfl) W hW
  obtain ⟨N, hN⟩ : ∃ N, N = m.toNat := ⟨_, rfl⟩
  rw [← hN] at cs
  have HN := Lib.hid hN
  clear hN
  have CS := Lib.hid cs; have HR := Lib.hid hr; have HOK := Lib.hid hok
  have q3 : ((rest.length : Int) != t.size) = false := by rw [hr]; simp
  clear cs hr hok
  have HA := Lib.hid hA; have HB := Lib.hid hB; have GS := Lib.hid (open_split l need); have HG0 := Lib.hid (DG.refl hg)
  clear hA hB hg
  unfold maxLen at ht hcm hdm
  go_enter Tryd.func8, Tryd.ntmps8
  go_wp2_with fail
  go_loopw [11, 12, 13] (fun e o i wr => ∃ (k : Nat) (A' : Option Addr) (c' : Nat), k ≤ t.size ∧ e = .int .i64 0 ∧ i = .int .i64 k ∧ o = .slice A' (sealL t rest N k).length c' ∧ Hid (OSharess wr w.heap.size A' c' (sealL t rest N k)) ∧ Hid (Below w.heap.size w wr)) (fun _ _ i _ => t.size - (intOf i).toNat)
  case atStart => exact ⟨0, none, 0, Nat.zero_le _, rfl, rfl, rfl, OMany.nil, Below.refl _ _⟩
  case round =>
    obtain ⟨k, A', c', hk, rfl, rfl, rfl, HO, HBL⟩ := hrel
    have hll := sealL_length t rest N k
    by_cases hlt : k < t.size
    · have he := HOK.out k hlt
      have hM := many_ints_below HA.out HBL.out
      obtain ⟨b, off, Bk, Ck, rfl, hbl, hcell, hq, hq1, hq2⟩ := hM.at_ (i := k) (by rw [HR.out]; exact hlt)
      have i0 : (0 : Int) ≤ (k : Int) := by omega
      have i1 : (k : Int) < (t.size : Int) := by omega
      have i2 : (k : Int) < (rest.length : Int) := by rw [HR.out]; exact i1
      have hgb := gB_wrap hlt
      obtain ⟨m0, m1⟩ := manB_true.1 (shE_zero he).2.2.2.1
      have hnn : m = (N : Int) := by have := HN.out; omega
      have cd := fun W (hW : Ints W Bk (gg rest k)) => rdealt_any (gB t k) Bk Ck (gg rest k) m W hW
      have crd := fun W (hW : Ints W Bk (gg rest k)) => rdeal_any (gB t k) Bk Ck (gg rest k) N (by rw [← hnn]; exact he) W hW
      rw [he] at cd
      rw [← hnn] at crd
      have hs := sealL_succ t rest N k
      have hdl := dealL_length (gB t k :: gg rest k) N
      generalize dealL (gB t k :: gg rest k) N = D at *
      rw [← hdl] at crd
      rw [hgb] at cd crd
      have CD := Lib.hid cd; have CRD := Lib.hid crd; have HL := Lib.hid hll; have HS := Lib.hid hs
      have HQ := Lib.hid (show Ints wr.drew Bk (gg rest k) from Sl.drew hq)
      have HQ2 := Lib.hid (show Ints wr.drew.drew Bk (gg rest k) from Sl.drew (Sl.drew hq))
      have HCC := Lib.hid hcell
      have hl6 : (sealL t rest N k).length ≤ 1000000 := by rw [sealL_length]; omega
      have hzz : w.heap.size ≤ wr.heap.size := HBL.out.size
      clear cd crd hs hll he hgb hq hM hdl hnn
      go_wp2_with fail
      go_region_held3 (fun w' => w'.cell? ⟨b, off + k, none⟩ = some (.slice Bk (gg rest k).length Ck)) (go_keep) ((go_at_call 35; refine (CD.out _ HQ.out).mono ?_; rintro e w' ⟨rfl, rfl⟩))
      go_wp2_with fail
      go_region_law (first
        | (refine step_app_many shares_stay rfl _ _ 68 51 41 rfl Tryd.underlying68 infoShs (by decide) w.heap.size A' c' (sealL t rest N k) rfl (HO.out.keep shares_stay hzz (bal HB2.out _)) w2.heap.size A2 D c2 rfl (cell_new1 _ _ _) (Sl.alloc HSD.out _) HCP.out.1 HCP.out.2 (HIN.out.stay fun a ha => Below.heap_alloc _ _ _ (HIN.out.lt HZ2.out ha)) hl6 (le_al HZ2.out _) ?_; intro b4 c4 w4 ho4 hg4 hx4 hl4; have hb4 : Below w.heap.size w w4 := bgo (bal (bcl HBL.out HB2.out) _) hg4 (HO.out.keep shares_stay hzz (bal HB2.out _)); have HO4 := Lib.hid ho4; have HB4 := Lib.hid hb4; clear ho4 hg4 hx4 hb4)
        | (go_simp; go_at_call 36; refine (CRD.out _ HQ2.out).mono ?_; rintro e w2 ⟨A2, c2, rfl, ho2, hb2⟩; have HB2 := Lib.hid (show Below wr.heap.size wr w2 from bcl (bdr (bdr (Below.refl _ _))) hb2); have k2 := (HB2.out.cell (p := ⟨b, off + k, none⟩) hbl).trans HCC.out; have HZ2 := Lib.hid (show w.heap.size ≤ w2.heap.size from Nat.le_trans hzz HB2.out.size); have HCP := Lib.hid ho2.cap; have HIN := Lib.hid (show Inn w2 w.heap.size 41 A2 from Inn.own ho2); have HSD := Lib.hid ho2.shares; clear ho2 hb2; try dsimp only))
      all_goals
        go_wp2_with fail
        go_roundw
        case rel => exact ⟨k + 1, some ⟨b4, 0, none⟩, c4, by omega, rfl, by go_num, by rw [HS.out]; simp, Lib.hid (by rw [HS.out]; exact HO4.out), HB4⟩
        case measure => simp [intOf]; omega
    · obtain rfl : k = t.size := by omega
      as_aux_lemma =>
        have hia := many_ints_below HA.out HBL.out
        have HIA := Lib.hid hia
        have HSL := Lib.hid hll
        rw [hll]
        obtain ⟨wq, hwq⟩ : ∃ wq : World, wq = wr := ⟨_, rfl⟩
        subst hwq
        clear hia hll
        go_wp2_with (first | (go_at_call 41; refine (CS.out _ HIA.out).mono ?_; rintro e w2 ⟨hb2, ⟨_, A2, c2, rfl, ho2⟩ | ⟨h, _⟩⟩; rotate_left; exact absurd h (Nat.lt_irrefl _); have HO2 := Lib.hid ho2; have HB2 := Lib.hid hb2; clear ho2 hb2) | (go_at_call 13; (with_reducible refine (same_nil _).mono ?_); rintro e w8 ⟨rfl, rfl⟩))
        have HX := Lib.hid HO2.out.many
        have HW := Lib.hid (many_shares_below HO.out.many HB2.out)
        have HD0 := Lib.hid (HG0.out.below (bcl HBL.out HB2.out))
        go_loopw [16, 17] (fun s16 s17 wr => ∃ k : Nat, k ≤ t.size ∧ s16 = .bool true ∧ s17 = .int .i64 k ∧ Hid (Below w2.heap.size w2 wr)) (fun _ i _ => t.size - (intOf i).toNat)
        case atStart => exact ⟨0, Nat.zero_le _, rfl, rfl, Below.refl _ _⟩
        case round =>
          obtain ⟨k, hk, rfl, rfl, HBL2⟩ := hrel
          by_cases hlt : k < t.size
          · have hlk := hlt
            have hM1 := many_shares_below HX.out HBL2.out
            have hM2 := many_shares_below HW.out HBL2.out
            obtain ⟨b1, o1, B1, C1, rfl, hl1, hc1, hq1, _, _⟩ := hM1.at_ (i := k) (by rw [HSL.out]; exact hlt)
            obtain ⟨b2, o2, B2, C2, rfl, hl2, hc2, hq2, _, _⟩ := hM2.at_ (i := k) (by rw [HSL.out]; exact hlt)
            have hgl : (gg (sealL t rest N t.size) k).length ≤ maxLen := by rw [sealL_at _ _ _ _ _ hlt, dealL_length]; have := (manB_true.1 (shE_zero (HOK.out k hlt)).2.2.2.1); have := HN.out; unfold maxLen; omega
            have cs := fun (W : World) (h1 : Shares W B1 (gg (sealL t rest N t.size) k)) (h2 : Shares W B2 (gg (sealL t rest N t.size) k)) => (same_shares B1 B2 C1 C2 _ _ W h1 h2 hgl).mono (R' := fun e w' => e = .returned (.bool true) ∧ Below W.heap.size W w') fun e w' ⟨h3, h4⟩ => ⟨by rw [h3]; simp, h4⟩
            have i0 : (0 : Int) ≤ (k : Int) := by omega
            have i1 : (k : Int) < (t.size : Int) := by omega
            generalize gg (sealL t rest N t.size) k = Y at *
            have CS2 := Lib.hid cs; have HQ1 := Lib.hid (show Shares wr.drew B1 Y from Sl.drew hq1); have HQ2 := Lib.hid (show Shares wr.drew B2 Y from Sl.drew hq2); have H1 := Lib.hid hc1; have H2 := Lib.hid hc2
            clear cs hq1 hq2 hM1 hM2 hgl
            go_wp2_with fail
            go_region_held3 (fun w' => w'.cell? ⟨b1, o1 + k, none⟩ = some (.slice B1 Y.length C1) ∧ w'.cell? ⟨b2, o2 + k, none⟩ = some (.slice B2 Y.length C2)) (first | go_keep | exact ⟨(hb4.cell (p := ⟨b1, o1 + k, none⟩) hl1).trans H1.out, (hb4.cell (p := ⟨b2, o2 + k, none⟩) hl2).trans H2.out⟩) ((go_at_call 38; refine (CS2.out _ HQ1.out HQ2.out).mono ?_; rintro e w4 ⟨rfl, hb4⟩))
            go_wp2_with fail
            go_roundw
            case rel => exact ⟨k + 1, by omega, rfl, by go_num, Lib.hid (bcl (bcl HBL2.out (bdr (Below.refl _ _))) hb4)⟩
            case measure => simp [intOf]; omega
          · obtain rfl : k = t.size := by omega
            obtain ⟨wa, hwa⟩ : ∃ wa : World, wa = wr := ⟨_, rfl⟩
            subst hwa
            have HDA := Lib.hid (HD0.out.below HBL2.out)
            have hba := many_shares_below HB.out HDA.out.2
            have HBA := Lib.hid hba
            clear hba
            rcases GS.out with g4 | ⟨K2, g12, gK, gok, gend⟩
            · as_aux_lemma =>
                have c4 := fun (W : World) => open_no B d l need g4 (by unfold maxLen; omega) W
                have C4 := Lib.hid c4
                clear c4
                go_wp2_with fail
                go_loopw [11, 18, 19, 20, 21] (fun s11 s18 s19 _ _ wr => s11 = .int .i64 4 ∧ s18 = .slice none 0 0 ∧ s19 = .int .i64 0 ∧ wr = wa) (fun _ _ _ _ _ _ => 0)
                case atStart => exact ⟨rfl, rfl, rfl, rfl⟩
                case round =>
                  obtain ⟨rfl, rfl, rfl, rfl⟩ := hrel
                  go_wp2_with (first | (go_at_call 42; refine (C4.out _).mono ?_; rintro e w' ⟨rfl, rfl⟩) | (go_at_call 13; refine (same_err _ w _ HDA.out).mono ?_; rintro e w9 ⟨rfl, hd9⟩))
                  go_ret
                  exact ⟨ret_true (by first | rfl | (simp; done) | (simp; omega)), hd9.2⟩
            · have hl12 : l.length ≤ 12 := g12
              by_cases hKl : K2 = l.length
              · as_aux_lemma =>
                  subst hKl
                  have co := fun (W : World) (hW : Many Shares W B l) => open_any B d l need g12 l.length (Nat.le_refl _) gok (.inl rfl) W hW
                  have CO := Lib.hid co; have GOK := Lib.hid gok
                  clear co gok gend
                  go_wp2_with fail
                  go_loopw [11, 18, 19, 20, 21] (fun s11 s18 s19 _ _ wr => ∃ (k : Nat) (A' : Option Addr) (c' : Nat), k ≤ l.length ∧ s11 = .int .i64 0 ∧ s19 = .int .i64 k ∧ s18 = .slice A' (openL l need k).length c' ∧ Hid (OBytes wr wa.heap.size A' c' (openL l need k)) ∧ Hid (Below wa.heap.size wa wr)) (fun _ _ i _ _ _ => l.length - (intOf i).toNat)
                  case atStart => exact ⟨0, none, 0, Nat.zero_le _, rfl, rfl, rfl, OBytes.nil, Below.refl _ _⟩
                  case round =>
                    obtain ⟨k, A', c', hk, rfl, rfl, rfl, HO, HBL⟩ := hrel
                    have hll := openL_length l need k
                    have hz := HBL.out.size
                    by_cases hlt : k < l.length
                    · have hM := many_shares_below HBA.out HBL.out
                      obtain ⟨b, off, Bk, Ck, rfl, hbl, hcell, hq, hq1, hq2⟩ := hM.at_ (i := k) hlt
                      have hoe := GOK.out k hlt
                      have he : joE (gg l k) need = 0 := by
                        rcases Decidable.em (joE (gg l k) need = 0) with h | h
                        · exact h
                        · rw [oE, if_pos h] at hoe; exact absurd hoe h
                      have hv5 : oV l need k ≤ 255 := by
                        rw [oE, if_neg (by rw [he]; decide)] at hoe
                        rcases Int.lt_or_le 255 (oV l need k) with h | h
                        · rw [if_pos h] at hoe; cases hoe
                        · exact h
                      obtain ⟨hm, hp, hn⟩ := joE_zero he
                      obtain ⟨m0, m1⟩ := manB_true.1 hm
                      obtain ⟨n, hnn⟩ := Int.eq_ofNat_of_zero_le (show 0 ≤ need by omega)
                      have cj := fun W (hW : Shares W Bk (gg l k)) => rjoin_ok Bk Ck (gg l k) n hq1 hq2 (by rw [← hnn]; exact hm) hp (by omega) W hW
                      have hv : thrL ((gg l k).take n) 0 = oV l need k := by rw [oV, hnn]; rfl
                      rw [hv, ← hnn] at cj
                      obtain ⟨v0, v1⟩ := oV_range l need k
                      have hbw := oB_wrap hv5
                      have hs := openL_succ l need k
                      generalize oB l need k = bb at *
                      generalize oV l need k = V at *
                      have CJ := Lib.hid cj; have HS := Lib.hid hs; have HL := Lib.hid hll; have HBW := Lib.hid hbw; have HQ := Lib.hid hq
                      have hl6 : (openL l need k).length ≤ 1000000 := by omega
                      clear cj hs hll hbw hp he hv hm hM hoe hnn hq
                      go_wp2_with fail
                      refine (CJ.out _ HQ.out).mono ?_
                      rintro e w2 ⟨rfl, hb2⟩
                      have hb2' := bcl HBL.out hb2
                      have hz2 := hb2'.size
                      have ho2 := HO.out.keep hb2
                      have HO2 := Lib.hid ho2; have HB2 := Lib.hid hb2'
                      clear ho2 hb2' hb2
                      go_wp2_with (at_builtin; refine wpList_append_byte rfl _ _ rfl wa.heap.size A' c' _ rfl (HO2.out.keep (bal1 _ _)) w2.heap.size bb rfl (by rw [← HBW.out]; exact cell_new1 _ _ _) hl6 (le_al hz2 _) ?_; intro A3 c3 w3 ho3 hb3)
                      go_roundw
                      case rel => exact ⟨k + 1, A3, c3, by omega, rfl, by go_num, by rw [HS.out]; simp, Lib.hid (by rw [HS.out]; exact ho3), Lib.hid ((bal HB2.out _).trans hb3)⟩
                      case measure => simp [intOf]; omega
                    · obtain rfl : k = l.length := by omega
                      have hcv := HO.out.conv
                      rw [hll] at hcv ⊢
                      clear hll
                      have hd := HDA.out.below HBL.out
                      have HD := Lib.hid hd; have hbb := many_shares_below HBA.out HBL.out; have HBB := Lib.hid hbb; clear hd hbb
                      go_wp2_with (first | (go_at_call 42; refine (CO.out _ HBB.out).mono ?_; rintro e w4 ⟨hb4, ⟨_, rfl⟩ | ⟨h, _⟩⟩; rotate_left; exact absurd h (Nat.lt_irrefl _); have hd4 := HD.out.below hb4; have HD4 := Lib.hid hd4; clear hd4) | (go_at_call 13; (with_reducible refine (same_nil _).mono ?_); rintro e w8 ⟨rfl, rfl⟩))
                      go_ret
                      exact ⟨ret_true (by first | rfl | (simp; done) | (simp; omega)), HD4.out.2⟩
              · as_aux_lemma =>
                  have hlt2 : K2 < l.length := by omega
                  have hbad : oE l need K2 ≠ 0 := by
                    rcases gend with h | h
                    · exact absurd h hKl
                    · exact h
                  have co := fun (W : World) (hW : Many Shares W B l) => open_any B d l need g12 K2 gK gok (.inr hbad) W hW
                  have GOK := Lib.hid gok
                  obtain ⟨E2, hE2⟩ : ∃ E2, oE l need K2 = E2 := ⟨_, rfl⟩
                  rw [hE2] at co hbad
                  have CO := Lib.hid co; have HE2 := Lib.hid hE2; have HBAD := Lib.hid hbad
                  have hq0 : (E2 == 0) = false := beq_eq_false_iff_ne.2 hbad
                  clear co gok gend hE2 hbad hKl
                  go_wp2_with fail
                  go_loopw [11, 18, 19, 20, 21] (fun s11 s18 s19 _ _ wr => ∃ (k : Nat) (e : Int) (A' : Option Addr) (c' : Nat), k ≤ K2 + 1 ∧ s11 = .int .i64 e ∧ s19 = .int .i64 k ∧ s18 = .slice A' k c' ∧ Hid ((k ≤ K2 ∧ e = 0 ∧ OBytes wr wa.heap.size A' c' (openL l need k)) ∨ (k = K2 + 1 ∧ e = E2)) ∧ Hid (Below wa.heap.size wa wr)) (fun _ _ i _ _ _ => l.length - (intOf i).toNat)
                  case atStart => exact ⟨0, 0, none, 0, by omega, rfl, rfl, rfl, .inl ⟨Nat.zero_le _, rfl, OBytes.nil⟩, Below.refl _ _⟩
                  case round =>
                    obtain ⟨k, e, A', c', hk, rfl, rfl, rfl, HX, HBL⟩ := hrel
                    have hll := openL_length l need k
                    have hz := HBL.out.size
                    rcases HX.out with ⟨hkK, rfl, ho⟩ | ⟨rfl, rfl⟩
                    · have hlt : k < l.length := by omega
                      have HO := Lib.hid ho
                      clear ho HX
                      have hM := many_shares_below HBA.out HBL.out
                      obtain ⟨b, off, Bk, Ck, rfl, hbl, hcell, hq, hq1, hq2⟩ := hM.at_ (i := k) hlt
                      by_cases he : joE (gg l k) need = 0
                      · obtain ⟨hm, hp, hn⟩ := joE_zero he
                        obtain ⟨m0, m1⟩ := manB_true.1 hm
                        obtain ⟨n, hnn⟩ := Int.eq_ofNat_of_zero_le (show 0 ≤ need by omega)
                        have cj := fun W (hW : Shares W Bk (gg l k)) => rjoin_ok Bk Ck (gg l k) n hq1 hq2 (by rw [← hnn]; exact hm) hp (by omega) W hW
                        have hv : thrL ((gg l k).take n) 0 = oV l need k := by rw [oV, hnn]; rfl
                        rw [hv, ← hnn] at cj
                        obtain ⟨v0, v1⟩ := oV_range l need k
                        by_cases hv5 : oV l need k ≤ 255
                        · have hoe : oE l need k = 0 := by rw [oE, if_neg (by rw [he]; decide), if_neg (by omega)]
                          have hkK2 : k < K2 := by
                            rcases Nat.lt_or_ge k K2 with h | h
                            · exact h
                            · obtain rfl : k = K2 := by omega
                              rw [HE2.out] at hoe; exact absurd hoe HBAD.out
                          have hbw := oB_wrap hv5
                          have hs := openL_succ l need k
                          generalize oB l need k = bb at *
                          generalize oV l need k = V at *
                          have CJ := Lib.hid cj; have HS := Lib.hid hs; have HL := Lib.hid hll; have HBW := Lib.hid hbw; have HQ := Lib.hid hq
                          have hl6 : (openL l need k).length ≤ 1000000 := by omega
                          have e0 : Value.slice A' k c' = Value.slice A' (openL l need k).length c' := by rw [HL.out]
                          have E0 := Lib.hid e0
                          clear cj hs hll hbw hp he hv hm hM hoe hnn hq e0
                          go_wp2_with fail
                          refine (CJ.out _ HQ.out).mono ?_
                          rintro e w2 ⟨rfl, hb2⟩
                          have hb2' := bcl HBL.out hb2
                          have hz2 := hb2'.size
                          have ho2 := HO.out.keep hb2
                          have HO2 := Lib.hid ho2; have HB2 := Lib.hid hb2'
                          clear ho2 hb2' hb2
                          go_wp2_with (at_builtin; refine wpList_append_byte rfl _ _ rfl wa.heap.size A' c' (openL l need k) E0.out (HO2.out.keep (bal1 _ _)) w2.heap.size bb rfl (by rw [← HBW.out]; exact cell_new1 _ _ _) hl6 (le_al hz2 _) ?_; rw [HL.out]; intro A3 c3 w3 ho3 hb3; have HO3 := Lib.hid ho3; have HB3 := Lib.hid hb3; clear ho3 hb3)
                          go_roundw
                          case rel => exact ⟨k + 1, 0, A3, c3, by omega, rfl, by go_num, rfl, Lib.hid (.inl ⟨by omega, rfl, by rw [HS.out]; exact HO3.out⟩), Lib.hid ((bal HB2.out _).trans HB3.out)⟩
                          case measure => simp [intOf]; omega
                        · have hoe : oE l need k = 3 := by rw [oE, if_neg (by rw [he]; decide), if_pos (by omega)]
                          obtain rfl : k = K2 := by
                            rcases Nat.lt_or_ge k K2 with h | h
                            · have := GOK.out k h; rw [hoe] at this; cases this
                            · omega
                          obtain rfl : E2 = 3 := HE2.out.symm.trans hoe
                          have hv6 : oV l need k = 256 := by omega
                          rw [hv6] at cj
                          have CJ := Lib.hid cj; have HL := Lib.hid hll; have HQ := Lib.hid hq
                          have hl6 : (openL l need k).length ≤ 1000000 := by omega
                          have e0 : Value.slice A' k c' = Value.slice A' (openL l need k).length c' := by rw [HL.out]
                          have E0 := Lib.hid e0
                          clear cj hll hp he hv hm hM hoe hnn hq e0 hv6 hv5 v0 v1
                          go_wp2_with fail
                          refine (CJ.out _ HQ.out).mono ?_
                          rintro e w2 ⟨rfl, hb2⟩
                          have hb2' := bcl HBL.out hb2
                          have hz2 := hb2'.size
                          have ho2 := HO.out.keep hb2
                          have HO2 := Lib.hid ho2; have HB2 := Lib.hid hb2'
                          clear ho2 hb2' hb2
                          go_wp2_with (at_builtin; refine wpList_append_byte rfl _ _ rfl wa.heap.size A' c' (openL l need k) E0.out (HO2.out.keep (bal1 _ _)) w2.heap.size 0 rfl (cell_new1 _ _ _) hl6 (le_al hz2 _) ?_; rw [HL.out]; intro A3 c3 w3 ho3 hb3; have HB3 := Lib.hid hb3; clear ho3 hb3)
                          go_roundw
                          case rel => exact ⟨k + 1, 3, A3, c3, by omega, rfl, by go_num, rfl, Lib.hid (.inr ⟨rfl, rfl⟩), Lib.hid ((bal HB2.out _).trans HB3.out)⟩
                          case measure => simp [intOf]; omega
                      · have hoe : oE l need k = joE (gg l k) need := by rw [oE, if_pos he]
                        obtain rfl : k = K2 := by
                          rcases Nat.lt_or_ge k K2 with h | h
                          · have := GOK.out k h; rw [hoe] at this; exact absurd this he
                          · omega
                        have cj := fun W (hW : Shares W Bk (gg l k)) => rjoin_no Bk Ck (gg l k) need he W hW
                        rw [← hoe, HE2.out] at cj
                        have CJ := Lib.hid cj; have HL := Lib.hid hll; have HQ := Lib.hid hq
                        have hl6 : (openL l need k).length ≤ 1000000 := by omega
                        have e0 : Value.slice A' k c' = Value.slice A' (openL l need k).length c' := by rw [HL.out]
                        have E0 := Lib.hid e0
                        clear cj hll he hM hoe hq e0
                        go_wp2_with fail
                        refine (CJ.out _ HQ.out).mono ?_
                        rintro e w2 ⟨rfl, hb2⟩
                        have hb2' := bcl HBL.out hb2
                        have hz2 := hb2'.size
                        have ho2 := HO.out.keep hb2
                        have HO2 := Lib.hid ho2; have HB2 := Lib.hid hb2'
                        clear ho2 hb2' hb2
                        go_wp2_with (at_builtin; refine wpList_append_byte rfl _ _ rfl wa.heap.size A' c' (openL l need k) E0.out (HO2.out.keep (bal1 _ _)) w2.heap.size 0 rfl (cell_new1 _ _ _) hl6 (le_al hz2 _) ?_; rw [HL.out]; intro A3 c3 w3 ho3 hb3; have HB3 := Lib.hid hb3; clear ho3 hb3)
                        go_roundw
                        case rel => exact ⟨k + 1, E2, A3, c3, by omega, rfl, by go_num, rfl, Lib.hid (.inr ⟨rfl, rfl⟩), Lib.hid ((bal HB2.out _).trans HB3.out)⟩
                        case measure => simp [intOf]; omega
                    · clear hll
                      have hd := HDA.out.below HBL.out
                      have HD := Lib.hid hd; have hbb := many_shares_below HBA.out HBL.out; have HBB := Lib.hid hbb; clear hd hbb HX
                      go_wp2_with (first | (go_at_call 42; refine (CO.out _ HBB.out).mono ?_; rintro e w4 ⟨hb4, ⟨h, _⟩ | ⟨_, rfl⟩⟩; exact absurd h (Nat.ne_of_lt hlt2); have hd4 := HD.out.below hb4; have HD4 := Lib.hid hd4; clear hd4) | (go_at_call 13; refine (same_err _ w _ HD4.out).mono ?_; rintro e w9 ⟨rfl, hd9⟩))
                      all_goals go_ret
                      all_goals exact ⟨ret_true (by first | rfl | (simp; done) | (simp; omega)), hd9.2⟩
set_option maxHeartbeats 3200000 in
set_option maxRecDepth 100000 in
theorem walkK (w : World) (hg : HG w) (t : ByteArray) (ht : t.size ≤ maxLen) (A : Option Addr) (c : Nat) (rest : List (List Int)) (hrc : rest.length ≤ c) (hcm : c ≤ maxLen) (hA : Many Ints w A rest)
    (m : Int) (B : Option Addr) (d : Nat) (l : List (List Sh)) (hld : l.length ≤ d) (hdm : d ≤ maxLen) (hB : Many Shares w B l) (need : Int) (h12 : t.size ≤ 12) (hr : rest.length = t.size) (K : Nat) (hK : K < t.size) (hok : ∀ i, i < K → shE (gB t i) (gg rest i) m = 0) (hbad : shE (gB t K) (gg rest K) m ≠ 0) :
    Calls Tryd.prog 8 #[.string t, .slice A rest.length c, .int .i64 m, .slice B l.length d, .int .i64 need] w fun e w' => e = .returned (.bool true) ∧ Below w.heap.size w w' := by
  have cs := fun (W : World) (hW : Many Ints W A rest) => seal_any t A c rest m h12 hr K (Nat.le_of_lt hK) hok (.inr hbad) W hW
  obtain ⟨E, hE⟩ : ∃ E, shE (gB t K) (gg rest K) m = E := ⟨_, rfl⟩
  rw [hE] at cs
  have hbe : E ≠ 0 := by rw [← hE]; exact hbad
  have q0 : (E == 0) = false := beq_eq_false_iff_ne.2 hbe
  have q1 : (E != 0) = true := by rw [bne_iff_ne]; exact hbe
  have HE := Lib.hid hE; have HBE := Lib.hid hbe
  clear hE hbe hbad
  obtain ⟨N, hN⟩ : ∃ N, N = m.toNat := ⟨_, rfl⟩
  rw [← hN] at cs
  have HN := Lib.hid hN
  clear hN
  have CS := Lib.hid cs; have HR := Lib.hid hr; have HOK := Lib.hid hok
  have q3 : ((rest.length : Int) != t.size) = false := by rw [hr]; simp
  clear cs hr hok
  have HA := Lib.hid hA; have HB := Lib.hid hB; have GS := Lib.hid (open_split l need); have HG0 := Lib.hid (DG.refl hg)
  clear hA hB hg
  unfold maxLen at ht hcm hdm
  go_enter Tryd.func8, Tryd.ntmps8
  go_wp2_with fail
  go_loopw [11, 12, 13] (fun e o i wr => ∃ (k : Nat) (ee : Int) (A' : Option Addr) (c' n' : Nat), k ≤ K + 1 ∧ e = .int .i64 ee ∧ i = .int .i64 k ∧ o = .slice A' n' c' ∧ Hid ((k ≤ K ∧ ee = 0 ∧ n' = (sealL t rest N k).length ∧ OSharess wr w.heap.size A' c' (sealL t rest N k)) ∨ (k = K + 1 ∧ ee = E)) ∧ Hid (Below w.heap.size w wr)) (fun _ _ i _ => t.size - (intOf i).toNat)
  case atStart => exact ⟨0, 0, none, 0, 0, by omega, rfl, rfl, rfl, .inl ⟨Nat.zero_le _, rfl, rfl, OMany.nil⟩, Below.refl _ _⟩
  case round =>
    obtain ⟨k, ee, A', c', n', hk, rfl, rfl, rfl, HX, HBL⟩ := hrel
    rcases HX.out with ⟨hkK, rfl, rfl, ho⟩ | ⟨rfl, rfl⟩
    · have hlt : k < t.size := by omega
      have hll := sealL_length t rest N k
      have HO := Lib.hid ho
      clear ho HX
      by_cases he : shE (gB t k) (gg rest k) m = 0
      · have hkK2 : k < K := by
          rcases Nat.lt_or_ge k K with h | h
          · exact h
          · obtain rfl : k = K := by omega
            rw [HE.out] at he; exact absurd he HBE.out
        have hM := many_ints_below HA.out HBL.out
        obtain ⟨b, off, Bk, Ck, rfl, hbl, hcell, hq, hq1, hq2⟩ := hM.at_ (i := k) (by rw [HR.out]; exact hlt)
        have i0 : (0 : Int) ≤ (k : Int) := by omega
        have i1 : (k : Int) < (t.size : Int) := by omega
        have i2 : (k : Int) < (rest.length : Int) := by rw [HR.out]; exact i1
        have hgb := gB_wrap hlt
        obtain ⟨m0, m1⟩ := manB_true.1 (shE_zero he).2.2.2.1
        have hnn : m = (N : Int) := by have := HN.out; omega
        have cd := fun W (hW : Ints W Bk (gg rest k)) => rdealt_any (gB t k) Bk Ck (gg rest k) m W hW
        have crd := fun W (hW : Ints W Bk (gg rest k)) => rdeal_any (gB t k) Bk Ck (gg rest k) N (by rw [← hnn]; exact he) W hW
        rw [he] at cd
        rw [← hnn] at crd
        have hs := sealL_succ t rest N k
        have hdl := dealL_length (gB t k :: gg rest k) N
        generalize dealL (gB t k :: gg rest k) N = D at *
        rw [← hdl] at crd
        rw [hgb] at cd crd
        have CD := Lib.hid cd; have CRD := Lib.hid crd; have HL := Lib.hid hll; have HS := Lib.hid hs
        have HQ := Lib.hid (show Ints wr.drew Bk (gg rest k) from Sl.drew hq)
        have HQ2 := Lib.hid (show Ints wr.drew.drew Bk (gg rest k) from Sl.drew (Sl.drew hq))
        have HCC := Lib.hid hcell
        have hl6 : (sealL t rest N k).length ≤ 1000000 := by rw [sealL_length]; omega
        have hzz : w.heap.size ≤ wr.heap.size := HBL.out.size
        clear cd crd hs hll he hgb hq hM hdl hnn
        go_wp2_with fail
        go_region_held3 (fun w' => w'.cell? ⟨b, off + k, none⟩ = some (.slice Bk (gg rest k).length Ck)) (go_keep) ((go_at_call 35; refine (CD.out _ HQ.out).mono ?_; rintro e w' ⟨rfl, rfl⟩))
        go_wp2_with fail
        go_region_law (first
          | (refine step_app_many shares_stay rfl _ _ 68 51 41 rfl Tryd.underlying68 infoShs (by decide) w.heap.size A' c' (sealL t rest N k) rfl (HO.out.keep shares_stay hzz (bal HB2.out _)) w2.heap.size A2 D c2 rfl (cell_new1 _ _ _) (Sl.alloc HSD.out _) HCP.out.1 HCP.out.2 (HIN.out.stay fun a ha => Below.heap_alloc _ _ _ (HIN.out.lt HZ2.out ha)) hl6 (le_al HZ2.out _) ?_; intro b4 c4 w4 ho4 hg4 hx4 hl4; have hb4 : Below w.heap.size w w4 := bgo (bal (bcl HBL.out HB2.out) _) hg4 (HO.out.keep shares_stay hzz (bal HB2.out _)); have HO4 := Lib.hid ho4; have HB4 := Lib.hid hb4; clear ho4 hg4 hx4 hb4)
          | (go_simp; go_at_call 36; refine (CRD.out _ HQ2.out).mono ?_; rintro e w2 ⟨A2, c2, rfl, ho2, hb2⟩; have HB2 := Lib.hid (show Below wr.heap.size wr w2 from bcl (bdr (bdr (Below.refl _ _))) hb2); have k2 := (HB2.out.cell (p := ⟨b, off + k, none⟩) hbl).trans HCC.out; have HZ2 := Lib.hid (show w.heap.size ≤ w2.heap.size from Nat.le_trans hzz HB2.out.size); have HCP := Lib.hid ho2.cap; have HIN := Lib.hid (show Inn w2 w.heap.size 41 A2 from Inn.own ho2); have HSD := Lib.hid ho2.shares; clear ho2 hb2; try dsimp only))
        all_goals
          go_wp2_with fail
          go_roundw
          case rel => exact ⟨k + 1, 0, some ⟨b4, 0, none⟩, c4, _, by omega, rfl, by go_num, rfl, Lib.hid (.inl ⟨by omega, rfl, by rw [HS.out]; simp, by rw [HS.out]; exact HO4.out⟩), HB4⟩
          case measure => simp [intOf]; omega
      · obtain rfl : k = K := by
          rcases Nat.lt_or_ge k K with h | h
          · exact absurd (HOK.out k h) he
          · omega
        have hM := many_ints_below HA.out HBL.out
        obtain ⟨b, off, Bk, Ck, rfl, hbl, hcell, hq, hq1, hq2⟩ := hM.at_ (i := k) (by rw [HR.out]; exact hlt)
        have i0 : (0 : Int) ≤ (k : Int) := by omega
        have i1 : (k : Int) < (t.size : Int) := by omega
        have i2 : (k : Int) < (rest.length : Int) := by rw [HR.out]; exact i1
        have hgb := gB_wrap hlt
        have cd := fun W (hW : Ints W Bk (gg rest k)) => rdealt_any (gB t k) Bk Ck (gg rest k) m W hW
        rw [HE.out, hgb] at cd
        have CD := Lib.hid cd; have HL := Lib.hid hll
        have HQ := Lib.hid (show Ints wr.drew Bk (gg rest k) from Sl.drew hq)
        clear cd hll he hgb hq hM
        go_wp2_with fail
        go_region_held3 (fun w' => w'.cell? ⟨b, off + k, none⟩ = some (.slice Bk (gg rest k).length Ck)) (go_keep) ((go_at_call 35; refine (CD.out _ HQ.out).mono ?_; rintro e w' ⟨rfl, rfl⟩))
        go_wp2_with fail
        go_roundw
        case rel => exact ⟨k + 1, E, A', c', _, by omega, rfl, by go_num, rfl, Lib.hid (.inr ⟨rfl, rfl⟩), Lib.hid (bdr HBL.out)⟩
        case measure => simp [intOf]; omega
    · have hia := many_ints_below HA.out HBL.out
      have HIA := Lib.hid hia
      have HD0 := Lib.hid (HG0.out.below HBL.out)
      obtain ⟨wq, hwq⟩ : ∃ wq : World, wq = wr := ⟨_, rfl⟩
      subst hwq
      clear hia HX
      by_cases z : K + 1 < t.size
      all_goals
        go_wp2_with (first | (go_at_call 41; refine (CS.out _ HIA.out).mono ?_; rintro e w2 ⟨hb2, ⟨h, _⟩ | ⟨_, rfl⟩⟩; exact absurd h (Nat.ne_of_lt hK); have HD2 := Lib.hid (HD0.out.below hb2)) | (go_at_call 13; refine (same_err _ w _ HD2.out).mono ?_; rintro e w3 ⟨rfl, hd3⟩; have HD3 := Lib.hid hd3; clear hd3))
        go_loopw [16, 17] (fun s16 s17 wr => s16 = .bool true ∧ s17 = .int .i64 0 ∧ wr = w3) (fun _ _ _ => 0)
        case atStart => exact ⟨rfl, rfl, rfl⟩
        case round =>
          obtain ⟨rfl, rfl, rfl⟩ := hrel
          skip
          obtain ⟨wa, rfl⟩ : ∃ wa : World, wa = wr := ⟨_, rfl⟩
          have HDA := HD3
          have hba := many_shares_below HB.out HDA.out.2
          have HBA := Lib.hid hba
          clear hba
          rcases GS.out with g4 | ⟨K2, g12, gK, gok, gend⟩
          · as_aux_lemma =>
              have c4 := fun (W : World) => open_no B d l need g4 (by unfold maxLen; omega) W
              have C4 := Lib.hid c4
              clear c4
              go_wp2_with fail
              go_loopw [11, 18, 19, 20, 21] (fun s11 s18 s19 _ _ wr => s11 = .int .i64 4 ∧ s18 = .slice none 0 0 ∧ s19 = .int .i64 0 ∧ wr = wa) (fun _ _ _ _ _ _ => 0)
              case atStart => exact ⟨rfl, rfl, rfl, rfl⟩
              case round =>
                obtain ⟨rfl, rfl, rfl, rfl⟩ := hrel
                go_wp2_with (first | (go_at_call 42; refine (C4.out _).mono ?_; rintro e w' ⟨rfl, rfl⟩) | (go_at_call 13; refine (same_err _ w _ HDA.out).mono ?_; rintro e w9 ⟨rfl, hd9⟩))
                go_ret
                exact ⟨ret_true (by first | rfl | (simp; done) | (simp; omega)), hd9.2⟩
          · have hl12 : l.length ≤ 12 := g12
            by_cases hKl : K2 = l.length
            · as_aux_lemma =>
                subst hKl
                have co := fun (W : World) (hW : Many Shares W B l) => open_any B d l need g12 l.length (Nat.le_refl _) gok (.inl rfl) W hW
                have CO := Lib.hid co; have GOK := Lib.hid gok
                clear co gok gend
                go_wp2_with fail
                go_loopw [11, 18, 19, 20, 21] (fun s11 s18 s19 _ _ wr => ∃ (k : Nat) (A' : Option Addr) (c' : Nat), k ≤ l.length ∧ s11 = .int .i64 0 ∧ s19 = .int .i64 k ∧ s18 = .slice A' (openL l need k).length c' ∧ Hid (OBytes wr wa.heap.size A' c' (openL l need k)) ∧ Hid (Below wa.heap.size wa wr)) (fun _ _ i _ _ _ => l.length - (intOf i).toNat)
                case atStart => exact ⟨0, none, 0, Nat.zero_le _, rfl, rfl, rfl, OBytes.nil, Below.refl _ _⟩
                case round =>
                  obtain ⟨k, A', c', hk, rfl, rfl, rfl, HO, HBL⟩ := hrel
                  have hll := openL_length l need k
                  have hz := HBL.out.size
                  by_cases hlt : k < l.length
                  · have hM := many_shares_below HBA.out HBL.out
                    obtain ⟨b, off, Bk, Ck, rfl, hbl, hcell, hq, hq1, hq2⟩ := hM.at_ (i := k) hlt
                    have hoe := GOK.out k hlt
                    have he : joE (gg l k) need = 0 := by
                      rcases Decidable.em (joE (gg l k) need = 0) with h | h
                      · exact h
                      · rw [oE, if_pos h] at hoe; exact absurd hoe h
                    have hv5 : oV l need k ≤ 255 := by
                      rw [oE, if_neg (by rw [he]; decide)] at hoe
                      rcases Int.lt_or_le 255 (oV l need k) with h | h
                      · rw [if_pos h] at hoe; cases hoe
                      · exact h
                    obtain ⟨hm, hp, hn⟩ := joE_zero he
                    obtain ⟨m0, m1⟩ := manB_true.1 hm
                    obtain ⟨n, hnn⟩ := Int.eq_ofNat_of_zero_le (show 0 ≤ need by omega)
                    have cj := fun W (hW : Shares W Bk (gg l k)) => rjoin_ok Bk Ck (gg l k) n hq1 hq2 (by rw [← hnn]; exact hm) hp (by omega) W hW
                    have hv : thrL ((gg l k).take n) 0 = oV l need k := by rw [oV, hnn]; rfl
                    rw [hv, ← hnn] at cj
                    obtain ⟨v0, v1⟩ := oV_range l need k
                    have hbw := oB_wrap hv5
                    have hs := openL_succ l need k
                    generalize oB l need k = bb at *
                    generalize oV l need k = V at *
                    have CJ := Lib.hid cj; have HS := Lib.hid hs; have HL := Lib.hid hll; have HBW := Lib.hid hbw; have HQ := Lib.hid hq
                    have hl6 : (openL l need k).length ≤ 1000000 := by omega
                    clear cj hs hll hbw hp he hv hm hM hoe hnn hq
                    go_wp2_with fail
                    refine (CJ.out _ HQ.out).mono ?_
                    rintro e w2 ⟨rfl, hb2⟩
                    have hb2' := bcl HBL.out hb2
                    have hz2 := hb2'.size
                    have ho2 := HO.out.keep hb2
                    have HO2 := Lib.hid ho2; have HB2 := Lib.hid hb2'
                    clear ho2 hb2' hb2
                    go_wp2_with (at_builtin; refine wpList_append_byte rfl _ _ rfl wa.heap.size A' c' _ rfl (HO2.out.keep (bal1 _ _)) w2.heap.size bb rfl (by rw [← HBW.out]; exact cell_new1 _ _ _) hl6 (le_al hz2 _) ?_; intro A3 c3 w3 ho3 hb3)
                    go_roundw
                    case rel => exact ⟨k + 1, A3, c3, by omega, rfl, by go_num, by rw [HS.out]; simp, Lib.hid (by rw [HS.out]; exact ho3), Lib.hid ((bal HB2.out _).trans hb3)⟩
                    case measure => simp [intOf]; omega
                  · obtain rfl : k = l.length := by omega
                    have hcv := HO.out.conv
                    rw [hll] at hcv ⊢
                    clear hll
                    have hd := HDA.out.below HBL.out
                    have HD := Lib.hid hd; have hbb := many_shares_below HBA.out HBL.out; have HBB := Lib.hid hbb; clear hd hbb
                    go_wp2_with (first | (go_at_call 42; refine (CO.out _ HBB.out).mono ?_; rintro e w4 ⟨hb4, ⟨_, rfl⟩ | ⟨h, _⟩⟩; rotate_left; exact absurd h (Nat.lt_irrefl _); have hd4 := HD.out.below hb4; have HD4 := Lib.hid hd4; clear hd4) | (go_at_call 13; (with_reducible refine (same_nil _).mono ?_); rintro e w8 ⟨rfl, rfl⟩))
                    go_ret
                    exact ⟨ret_true (by first | rfl | (simp; done) | (simp; omega)), HD4.out.2⟩
            · as_aux_lemma =>
                have hlt2 : K2 < l.length := by omega
                have hbad : oE l need K2 ≠ 0 := by
                  rcases gend with h | h
                  · exact absurd h hKl
                  · exact h
                have co := fun (W : World) (hW : Many Shares W B l) => open_any B d l need g12 K2 gK gok (.inr hbad) W hW
                have GOK := Lib.hid gok
                obtain ⟨E2, hE2⟩ : ∃ E2, oE l need K2 = E2 := ⟨_, rfl⟩
                rw [hE2] at co hbad
                have CO := Lib.hid co; have HE2 := Lib.hid hE2; have HBAD := Lib.hid hbad
                have hq0 : (E2 == 0) = false := beq_eq_false_iff_ne.2 hbad
                clear co gok gend hE2 hbad hKl
                go_wp2_with fail
                go_loopw [11, 18, 19, 20, 21] (fun s11 s18 s19 _ _ wr => ∃ (k : Nat) (e : Int) (A' : Option Addr) (c' : Nat), k ≤ K2 + 1 ∧ s11 = .int .i64 e ∧ s19 = .int .i64 k ∧ s18 = .slice A' k c' ∧ Hid ((k ≤ K2 ∧ e = 0 ∧ OBytes wr wa.heap.size A' c' (openL l need k)) ∨ (k = K2 + 1 ∧ e = E2)) ∧ Hid (Below wa.heap.size wa wr)) (fun _ _ i _ _ _ => l.length - (intOf i).toNat)
                case atStart => exact ⟨0, 0, none, 0, by omega, rfl, rfl, rfl, .inl ⟨Nat.zero_le _, rfl, OBytes.nil⟩, Below.refl _ _⟩
                case round =>
                  obtain ⟨k, e, A', c', hk, rfl, rfl, rfl, HX, HBL⟩ := hrel
                  have hll := openL_length l need k
                  have hz := HBL.out.size
                  rcases HX.out with ⟨hkK, rfl, ho⟩ | ⟨rfl, rfl⟩
                  · have hlt : k < l.length := by omega
                    have HO := Lib.hid ho
                    clear ho HX
                    have hM := many_shares_below HBA.out HBL.out
                    obtain ⟨b, off, Bk, Ck, rfl, hbl, hcell, hq, hq1, hq2⟩ := hM.at_ (i := k) hlt
                    by_cases he : joE (gg l k) need = 0
                    · obtain ⟨hm, hp, hn⟩ := joE_zero he
                      obtain ⟨m0, m1⟩ := manB_true.1 hm
                      obtain ⟨n, hnn⟩ := Int.eq_ofNat_of_zero_le (show 0 ≤ need by omega)
                      have cj := fun W (hW : Shares W Bk (gg l k)) => rjoin_ok Bk Ck (gg l k) n hq1 hq2 (by rw [← hnn]; exact hm) hp (by omega) W hW
                      have hv : thrL ((gg l k).take n) 0 = oV l need k := by rw [oV, hnn]; rfl
                      rw [hv, ← hnn] at cj
                      obtain ⟨v0, v1⟩ := oV_range l need k
                      by_cases hv5 : oV l need k ≤ 255
                      · have hoe : oE l need k = 0 := by rw [oE, if_neg (by rw [he]; decide), if_neg (by omega)]
                        have hkK2 : k < K2 := by
                          rcases Nat.lt_or_ge k K2 with h | h
                          · exact h
                          · obtain rfl : k = K2 := by omega
                            rw [HE2.out] at hoe; exact absurd hoe HBAD.out
                        have hbw := oB_wrap hv5
                        have hs := openL_succ l need k
                        generalize oB l need k = bb at *
                        generalize oV l need k = V at *
                        have CJ := Lib.hid cj; have HS := Lib.hid hs; have HL := Lib.hid hll; have HBW := Lib.hid hbw; have HQ := Lib.hid hq
                        have hl6 : (openL l need k).length ≤ 1000000 := by omega
                        have e0 : Value.slice A' k c' = Value.slice A' (openL l need k).length c' := by rw [HL.out]
                        have E0 := Lib.hid e0
                        clear cj hs hll hbw hp he hv hm hM hoe hnn hq e0
                        go_wp2_with fail
                        refine (CJ.out _ HQ.out).mono ?_
                        rintro e w2 ⟨rfl, hb2⟩
                        have hb2' := bcl HBL.out hb2
                        have hz2 := hb2'.size
                        have ho2 := HO.out.keep hb2
                        have HO2 := Lib.hid ho2; have HB2 := Lib.hid hb2'
                        clear ho2 hb2' hb2
                        go_wp2_with (at_builtin; refine wpList_append_byte rfl _ _ rfl wa.heap.size A' c' (openL l need k) E0.out (HO2.out.keep (bal1 _ _)) w2.heap.size bb rfl (by rw [← HBW.out]; exact cell_new1 _ _ _) hl6 (le_al hz2 _) ?_; rw [HL.out]; intro A3 c3 w3 ho3 hb3; have HO3 := Lib.hid ho3; have HB3 := Lib.hid hb3; clear ho3 hb3)
                        go_roundw
                        case rel => exact ⟨k + 1, 0, A3, c3, by omega, rfl, by go_num, rfl, Lib.hid (.inl ⟨by omega, rfl, by rw [HS.out]; exact HO3.out⟩), Lib.hid ((bal HB2.out _).trans HB3.out)⟩
                        case measure => simp [intOf]; omega
                      · have hoe : oE l need k = 3 := by rw [oE, if_neg (by rw [he]; decide), if_pos (by omega)]
                        obtain rfl : k = K2 := by
                          rcases Nat.lt_or_ge k K2 with h | h
                          · have := GOK.out k h; rw [hoe] at this; cases this
                          · omega
                        obtain rfl : E2 = 3 := HE2.out.symm.trans hoe
                        have hv6 : oV l need k = 256 := by omega
                        rw [hv6] at cj
                        have CJ := Lib.hid cj; have HL := Lib.hid hll; have HQ := Lib.hid hq
                        have hl6 : (openL l need k).length ≤ 1000000 := by omega
                        have e0 : Value.slice A' k c' = Value.slice A' (openL l need k).length c' := by rw [HL.out]
                        have E0 := Lib.hid e0
                        clear cj hll hp he hv hm hM hoe hnn hq e0 hv6 hv5 v0 v1
                        go_wp2_with fail
                        refine (CJ.out _ HQ.out).mono ?_
                        rintro e w2 ⟨rfl, hb2⟩
                        have hb2' := bcl HBL.out hb2
                        have hz2 := hb2'.size
                        have ho2 := HO.out.keep hb2
                        have HO2 := Lib.hid ho2; have HB2 := Lib.hid hb2'
                        clear ho2 hb2' hb2
                        go_wp2_with (at_builtin; refine wpList_append_byte rfl _ _ rfl wa.heap.size A' c' (openL l need k) E0.out (HO2.out.keep (bal1 _ _)) w2.heap.size 0 rfl (cell_new1 _ _ _) hl6 (le_al hz2 _) ?_; rw [HL.out]; intro A3 c3 w3 ho3 hb3; have HB3 := Lib.hid hb3; clear ho3 hb3)
                        go_roundw
                        case rel => exact ⟨k + 1, 3, A3, c3, by omega, rfl, by go_num, rfl, Lib.hid (.inr ⟨rfl, rfl⟩), Lib.hid ((bal HB2.out _).trans HB3.out)⟩
                        case measure => simp [intOf]; omega
                    · have hoe : oE l need k = joE (gg l k) need := by rw [oE, if_pos he]
                      obtain rfl : k = K2 := by
                        rcases Nat.lt_or_ge k K2 with h | h
                        · have := GOK.out k h; rw [hoe] at this; exact absurd this he
                        · omega
                      have cj := fun W (hW : Shares W Bk (gg l k)) => rjoin_no Bk Ck (gg l k) need he W hW
                      rw [← hoe, HE2.out] at cj
                      have CJ := Lib.hid cj; have HL := Lib.hid hll; have HQ := Lib.hid hq
                      have hl6 : (openL l need k).length ≤ 1000000 := by omega
                      have e0 : Value.slice A' k c' = Value.slice A' (openL l need k).length c' := by rw [HL.out]
                      have E0 := Lib.hid e0
                      clear cj hll he hM hoe hq e0
                      go_wp2_with fail
                      refine (CJ.out _ HQ.out).mono ?_
                      rintro e w2 ⟨rfl, hb2⟩
                      have hb2' := bcl HBL.out hb2
                      have hz2 := hb2'.size
                      have ho2 := HO.out.keep hb2
                      have HO2 := Lib.hid ho2; have HB2 := Lib.hid hb2'
                      clear ho2 hb2' hb2
                      go_wp2_with (at_builtin; refine wpList_append_byte rfl _ _ rfl wa.heap.size A' c' (openL l need k) E0.out (HO2.out.keep (bal1 _ _)) w2.heap.size 0 rfl (cell_new1 _ _ _) hl6 (le_al hz2 _) ?_; rw [HL.out]; intro A3 c3 w3 ho3 hb3; have HB3 := Lib.hid hb3; clear ho3 hb3)
                      go_roundw
                      case rel => exact ⟨k + 1, E2, A3, c3, by omega, rfl, by go_num, rfl, Lib.hid (.inr ⟨rfl, rfl⟩), Lib.hid ((bal HB2.out _).trans HB3.out)⟩
                      case measure => simp [intOf]; omega
                  · clear hll
                    have hd := HDA.out.below HBL.out
                    have HD := Lib.hid hd; have hbb := many_shares_below HBA.out HBL.out; have HBB := Lib.hid hbb; clear hd hbb HX
                    go_wp2_with (first | (go_at_call 42; refine (CO.out _ HBB.out).mono ?_; rintro e w4 ⟨hb4, ⟨h, _⟩ | ⟨_, rfl⟩⟩; exact absurd h (Nat.ne_of_lt hlt2); have hd4 := HD.out.below hb4; have HD4 := Lib.hid hd4; clear hd4) | (go_at_call 13; refine (same_err _ w _ HD4.out).mono ?_; rintro e w9 ⟨rfl, hd9⟩))
                    all_goals go_ret
                    all_goals exact ⟨ret_true (by first | rfl | (simp; done) | (simp; omega)), hd9.2⟩
theorem walk (w : World) (hg : HG w) (t : ByteArray) (ht : t.size ≤ maxLen) (A : Option Addr) (c : Nat) (rest : List (List Int)) (hrc : rest.length ≤ c) (hcm : c ≤ maxLen) (hA : Many Ints w A rest) (_ : ∀ i, i < rest.length → ∀ j, j < (gg rest i).length → I64 (gi (gg rest i) j))
    (m : Int) (_ : I64 m) (B : Option Addr) (d : Nat) (l : List (List Sh)) (hld : l.length ≤ d) (hdm : d ≤ maxLen) (hB : Many Shares w B l) (_ : ∀ i, i < l.length → ∀ j, j < (gg l i).length → I64 (ga (gg l i) j) ∧ I64 (gb (gg l i) j)) (need : Int) (_ : I64 need) :
    Calls Tryd.prog 8 #[.string t, .slice A rest.length c, .int .i64 m, .slice B l.length d, .int .i64 need] w fun e w' => e = .returned (.bool true) ∧ Below w.heap.size w w' := by
  by_cases h12 : 12 < t.size
  · exact walk4 w hg t ht A c rest hrc hcm hA m B d l hld hdm hB need h12
  · by_cases hr : rest.length = t.size
    · obtain ⟨K, h1, h2, h3⟩ := first_bad (fun i => shE (gB t i) (gg rest i) m) t.size
      by_cases hK : K = t.size
      · subst hK
        exact walk0 w hg t ht A c rest hrc hcm hA m B d l hld hdm hB need (by omega) hr h2
      · exact walkK w hg t ht A c rest hrc hcm hA m B d l hld hdm hB need (by omega) hr K (by omega) h2 (h3.resolve_left hK)
    · exact walk3 w hg t ht A c rest hrc hcm hA m B d l hld hdm hB need (by omega) hr
end Go.Proofs.YtpmgmlmpiofnpaaDoor.sealTells
