/- SpaceKeepsCardSaid: what is taken was put, and once. -/
import Derived.Test.YthpemlhlgjdnkaaDoorSpKeep
import Derived.Test.YthpemlhlgjdnkaaDoorVArg
import Derived.Test.YthpemlhlgjdnkaaDoorDoor
import Derived.Test.YthpemlhlgjdnkaaDoorTie
import Derived.Test.YthpemlhlgjdnkaaDoorCards
import Derived.WalkKit
import Derived.ProofKit
import Derived.OpenShut
import Derived.ShutString
import Derived.ChangeOld
import Derived.WalkLawsBesides
import Derived.WalkSpells
import Derived.RegionTactic
import Derived.ChangeAlike
import Derived.SevenTiedAt
import Derived.Deep.DeepCutAuto
import Derived.Outline
namespace Go.Proofs.YthpemlhlgjdnkaaDoor.spaceKeeps
open Go.ChangeShapes Go.WideShapes Go.ChangeAt Go.RowKit
set_option linter.unusedVariables false

theorem same_e (n : Int) (W : World) (h : HG W) : Calls Tryd.prog 24 #[eV n, .int .i64 n] W fun e w' => e = .returned (.bool true) ∧ Below W.heap.size W w' :=
  (same_eV n W W (DG.refl h)).mono fun e w' ⟨h1, h2⟩ => ⟨h1, h2.2⟩
theorem same_t (A B : Option Addr) (c d : Nat) (a : List Va) (W : World) (hA : Vals W A a) (hB : Vals W B a) (hm : a.length ≤ 5) :
    Calls Tryd.prog 27 #[.slice A a.length c, .slice B a.length d] W fun e w' => e = .returned (.bool true) ∧ Below W.heap.size W w' :=
  (same_tuple A B c d a a W hA hB (by unfold maxLen; omega)).mono fun e w' ⟨h1, h2⟩ => ⟨by rw [h1]; simp, h2⟩
theorem same_ts (A B : Option Addr) (c d : Nat) (a : List (List Va)) (W : World) (hA : Many Vals W A a) (hB : Many Vals W B a) (hm : a.length ≤ 20) :
    Calls Tryd.prog 55 #[.slice A a.length c, .slice B a.length d] W fun e w' => e = .returned (.bool true) ∧ Below W.heap.size W w' :=
  (same_tuples A B c d a a W hA hB (by unfold maxLen; omega)).mono fun e w' ⟨h1, h2⟩ => ⟨by rw [h1]; simp, h2⟩
theorem put_zero {L : List (List Va)} {t : List Va} (h : putE L t = 0) : tuE t = 0 := by
  unfold putE at h
  split at h
  · exact absurd h (by assumption)
  · rename_i h1; exact Classical.not_not.1 h1
def v1 : Va := ⟨0, 1, ⟨#[]⟩⟩
def v2 : Va := ⟨0, 2, ⟨#[]⟩⟩
def star : Va := ⟨2, 0, ⟨#[]⟩⟩
theorem ok1 {v : Va} (h : v.s.size ≤ maxLen) : okL [v] := fun i hi => by
  obtain rfl : i = 0 := by simpa using hi
  exact h
theorem lit1 (W : World) (v : Va) {g : Nat} (hg : g = W.heap.size) : Vals (W.alloc (.cells #[.int .i64 v.k, .int .i64 v.n, .string v.s] 28)) (some ⟨g, 0, none⟩) [v] := lit_vals W [v] 28 hg
theorem put_one (base p : Nat) (W : World) (gx : Nat) (hgx : gx = W.heap.size) (hS : Spc W base p none []) : Calls Tryd.prog 31 #[.pointer (some ⟨p, 0, none⟩), .slice (some ⟨gx, 0, none⟩) 1 1] (W.alloc (.cells #[.int .i64 0, .int .i64 1, .string ⟨#[]⟩] 28)) fun e w' => e = .returned .nilIface ∧ ∃ g', Spc w' base p g' [[v1]] ∧ Below base W w' := by
  have c := spput_any base p none [] (some ⟨gx, 0, none⟩) 1 [v1] (by decide) (ok1 (by decide)) _ (hS.keep (bal1 _ (.cells #[.int .i64 0, .int .i64 1, .string ⟨#[]⟩] 28))) (lit1 W v1 hgx)
  rw [putL, show putE [] [v1] = 0 by decide, if_pos rfl, eV_zero] at c
  exact c.mono fun e w' ⟨h1, g', h2, h3, _⟩ => ⟨h1, g', h2, ((bal1 _ _).mono hS.hb).trans ((hS.keep (bal1 _ _)).below h3)⟩
theorem put_two (base p : Nat) (g : Option Nat) (W : World) (hS : Spc W base p g [[v1]]) : Calls Tryd.prog 31 #[.pointer (some ⟨p, 0, none⟩), .slice (some ⟨W.heap.size, 0, none⟩) 1 1] (W.alloc (.cells #[.int .i64 0, .int .i64 2, .string ⟨#[]⟩] 28)) fun e w' => e = .returned .nilIface ∧ ∃ g', Spc w' base p g' [[v1], [v2]] ∧ Below base W w' := by
  have c := spput_any base p g [[v1]] (some ⟨W.heap.size, 0, none⟩) 1 [v2] (by decide) (ok1 (by decide)) _ (hS.keep (bal1 _ (.cells #[.int .i64 0, .int .i64 2, .string ⟨#[]⟩] 28))) (lit1 W v2 rfl)
  rw [putL, show putE [[v1]] [v2] = 0 by decide, if_pos rfl, eV_zero] at c
  exact c.mono fun e w' ⟨h1, g', h2, h3, _⟩ => ⟨h1, g', h2, ((bal1 _ _).mono hS.hb).trans ((hS.keep (bal1 _ _)).below h3)⟩
theorem take_one' (base p : Nat) (g : Option Nat) (W : World) (hS : Spc W base p g [[v1], [v2]]) : Calls Tryd.prog 52 #[.pointer (some ⟨p, 0, none⟩), .slice (some ⟨W.heap.size, 0, none⟩) 1 1] (W.alloc (.cells #[.int .i64 2, .int .i64 0, .string ⟨#[]⟩] 28)) fun e w' => ∃ b off C, e = .returned (.tuple #[.slice (some ⟨b, off, none⟩) 1 C, .nilIface]) ∧ w'.cell? ⟨b, off + 1, none⟩ = some (.int .i64 1) ∧ Spc w' base p g [[v2]] ∧ Below base W w' := by
  obtain ⟨k, hk, hp, _, _, c⟩ := sptake_ok base p g [[v1], [v2]] (some ⟨W.heap.size, 0, none⟩) 1 [star] (by decide) (ok1 (by decide)) _ (hS.keep (bal1 _ (.cells #[.int .i64 2, .int .i64 0, .string ⟨#[]⟩] 28))) (lit1 W star rfl) (by decide)
  have h0 : plc [star] [[v1], [v2]] = 0 := by decide
  obtain rfl : k = 0 := by omega
  refine c.mono fun e w' ⟨B, C, h1, h2, _, _, _, h3, h4⟩ => ?_
  obtain ⟨b, off, rfl, _, _, h5, _⟩ := h2.at_ (i := 0) (by decide)
  exact ⟨b, off, C, h1, by simpa [va, v1, gg] using h5, h3, ((bal1 _ _).mono hS.hb).trans ((hS.keep (bal1 _ _)).below h4)⟩
set_option maxHeartbeats 3200000 in
set_option maxRecDepth 100000 in
theorem walk (w : World) (hg : HG w) (B : Option Addr) (d : Nat) (l : List (List Va)) (_ : l.length ≤ d) (hdm : d ≤ maxLen) (hB : Many Vals w B l) (hok : ∀ i, i < l.length → okL (gg l i))
    (A : Option Addr) (c : Nat) (a : List Va) (hac : a.length ≤ c) (hcm : c ≤ maxLen) (hA : Vals w A a) (hoka : okL a) :
    Calls Tryd.prog 14 #[.slice B l.length d, .slice A a.length c] w fun e w' => e = .returned (.bool true) ∧ Below w.heap.size w w' := by
  have hs0 : Spc (w.alloc (.cells #[.slice none 0 0] 106)) w.heap.size w.heap.size none [] := Spc.new w (Nat.le_refl _)
  have cp1 := put_one w.heap.size w.heap.size _ (w.heap.size + 1) (Array.size_push _).symm hs0
  have hma : a.length ≤ maxLen := by omega
  have HC1 := Lib.hid cp1; have HA := Lib.hid hA; have HB := Lib.hid hB; have HOK := Lib.hid hok; have HOA := Lib.hid hoka; have HMA := Lib.hid hma
  have HG0 := Lib.hid hg
  clear hs0 cp1 hA hB hok hg hoka hma
  go_enter Tryd.func14, Tryd.ntmps14
  go_wp2_with (go_at_call 29; refine (spnew _).mono ?_; rintro e w' ⟨rfl, rfl⟩)
  refine HC1.out.mono ?_
  rintro e w1 ⟨rfl, g1, hs1, hb1⟩
  have HS1 := Lib.hid hs1; have hb01 : Below w.heap.size w w1 := (bal1 _ _).trans hb1
  clear hs1
  go_wp2_with fail
  refine (put_two _ _ _ _ HS1.out).mono ?_
  rintro e w2 ⟨rfl, g2, hs2, hb2⟩
  have HS2 := Lib.hid hs2; clear hs2
  go_wp2_with fail
  refine (take_one' _ _ _ _ HS2.out).mono ?_
  rintro e w3 ⟨b3, o3, C3, rfl, hc3, hs3, hb3⟩
  have HS3 := Lib.hid hs3; clear hs3
  go_wp2_with (first | (go_at_call 30; refine (spall_any _ _ _ _ _ HS3.out).mono ?_; rintro e w4 ⟨A4, c4, rfl, _, hb4⟩) | (go_at_call 29; refine (spnew _).mono ?_; rintro e w' ⟨rfl, rfl⟩))
  have hb04 : Below w.heap.size w w4 := ((hb01.trans hb2).trans hb3).trans (hb4.mono HS3.out.hb)
  have hj0 : SK w (w4.alloc (.cells #[.slice none 0 0] 106)) w4.heap.size none [] none 0 [] none 0 [] := ⟨HG0.out, Spc.new w4 hb04.size, OMany.nil, OMany.nil, hb04.trans ((bal1 _ _).mono hb04.size), fun b hb => (by cases hb), fun b hb => (by cases hb)⟩
  have HJ0 := Lib.hid hj0
  clear hj0 hb04 hb4 hc3 hb3 hb2 hb1 hb01 HS3 HS2 HS1 HC1
  generalize w4.heap.size = p at *
  go_loopw [11, 12] (fun pv i wr => ∃ (k : Nat) (g : Option Nat) (P : List (List Va)) (A1 : Option Addr) (c1 : Nat), k ≤ 30 ∧ i = .int .i64 k ∧ pv = .slice A1 P.length c1 ∧ Hid (SK w wr p g P A1 c1 P none 0 [])) (fun _ i _ => 30 - (intOf i).toNat)
  case atStart => exact ⟨0, none, [], none, 0, by omega, rfl, rfl, HJ0⟩
  case round =>
    obtain ⟨k, g, P, A1, c1, hk, rfl, rfl, HJ⟩ := hrel
    have hPl := HJ.out.s.len
    have hend : (k < l.length ∧ k < 30) ∨ (¬ k < l.length ∧ decide ((k : Int) < (l.length : Nat)) = false) ∨ (k < l.length ∧ ¬ k < 30 ∧ decide ((k : Int) < 30) = false) := by
      by_cases h1 : k < l.length
      · by_cases h2 : k < 30
        · exact .inl ⟨h1, h2⟩
        · exact .inr (.inr ⟨h1, h2, by simp; omega⟩)
      · exact .inr (.inl ⟨h1, by simp; omega⟩)
    rcases hend with ⟨t1, t2⟩ | hend
    · obtain ⟨bb, ob, Bk, Ck, rfl, hbl, y, hAk, hK1, hK2⟩ := HB.out.vat t1
      have y0 := (HJ.out.b.cell (p := ⟨bb, ob + k, none⟩) hbl).trans y
      have cp := sk_put HJ.out Bk Ck (gg l k) (by omega) (HOK.out k t1) hAk
      have HY := Lib.hid y; have HAK := Lib.hid hAk; have HK1 := Lib.hid hK1; have HK2 := Lib.hid hK2
      clear y hAk hK1 hK2
      by_cases h : putE P (gg l k) = 0
      · rw [putL, if_pos h, h, eV_zero] at cp
        have t0 := (tu_len (put_zero h)).1
        have HT0 := Lib.hid t0; have CP := Lib.hid cp
        clear t0 cp h
        go_wp2_with (first | (go_at_call 31; refine CP.out.mono ?_; rintro e w3 ⟨rfl, g3, hj3⟩; have HJ3 := Lib.hid hj3; clear hj3; have y3 := (HJ3.out.b.cell (p := ⟨bb, ob + k, none⟩) hbl).trans HY.out) | (at_builtin; refine wpList_append_many_at vals_stay rfl _ _ 47 29 28 rfl Tryd.underlying47 infoVals (by decide) w.heap.size A1 c1 P rfl (HJ3.out.o1.keep vals_stay HJ3.out.s.hb (bal1 _ _)) _ Bk (gg l k) Ck rfl (cell_new1 _ _ _) (Sl.alloc (HJ3.out.vals HAK.out) _) HK1.out HK2.out (Inn.alloc ((HJ3.out.vin HAK.out).2 HT0.out) HJ3.out.s.hb _) (by omega) (le_al HJ3.out.s.hb _) ?_; intro b4 c4 w4 ho4 hg4 hx4; have HJ4 := Lib.hid ((HJ3.out.keep (bal1 _ _)).app1 hg4 ho4 hx4); clear ho4 hg4 hx4))
        go_roundw
        case rel => exact ⟨k + 1, g3, P ++ [gg l k], _, c4, by omega, by go_num, by simp, HJ4⟩
        case measure => simp [intOf]; omega
      · rw [putL, if_neg h, eV_of h] at cp
        generalize putE P (gg l k) = E at *
        have CP := Lib.hid cp
        clear cp h
        go_wp2_with (first | (go_at_call 31; refine CP.out.mono ?_; rintro e w3 ⟨rfl, g3, hj3⟩; have HJ3 := Lib.hid hj3; clear hj3))
        go_roundw
        case rel => exact ⟨k + 1, g3, P, A1, c1, by omega, by go_num, rfl, HJ3⟩
        case measure => simp [intOf]; omega
    · have hPok := HJ.out.s.ok
      have HPOK := Lib.hid hPok
      have cc := sk_count HJ.out A c a HMA.out HOA.out HA.out
      have clk := fun (W : World) (V : Vals W A a) => tlike_any A c a HMA.out HOA.out W V
      clear hPok
      obtain ⟨wA, rfl⟩ : ∃ wA : World, wA = wr := ⟨_, rfl⟩
      by_cases hl : liE a = 0
      · simp only [hl, if_true, eV_zero] at cc
        have HL := Lib.hid hl; have CC := Lib.hid cc
        clear cc hl clk
        rcases hend with ⟨t1, hend⟩ | ⟨t1, t2, hend⟩
        all_goals
          go_wp2_with (first | (go_at_call 32; refine CC.out.mono ?_; rintro e w5 ⟨rfl, hb5⟩; have HJ5 := Lib.hid (HJ.out.keep hb5)))
          clear hb5 CC hend HJ
          go_loopw [13, 15, 16] (fun nv lv i wr => ∃ (k : Nat) (g : Option Nat) (A2 : Option Addr) (c2 : Nat), k ≤ P.length ∧ i = .int .i64 k ∧ lv = .slice A2 (lf a P k).length c2 ∧ nv = .int .i64 (nf a (P.drop k) : Nat) ∧ Hid (SK w wr p g (lf a P k ++ P.drop k) A1 c1 P A2 c2 (lf a P k))) (fun _ _ i _ => P.length - (intOf i).toNat)
          case atStart => exact ⟨0, g, none, 0, Nat.zero_le _, rfl, rfl, rfl, HJ5⟩
          case round =>
            obtain ⟨k, g, A2, c2, hk, rfl, rfl, rfl, HJ⟩ := hrel
            have hql : (lf a P k).length ≤ 20 := by
              have h1 : (lf a P k).length ≤ (P.take k).length := List.length_filter_le _ _
              have h2 : (P.take k).length ≤ P.length := by rw [List.length_take]; omega
              omega
            have hnl : nf a (P.drop (k + 1)) ≤ 20 := by
              have h1 : nf a (P.drop (k + 1)) ≤ (P.drop (k + 1)).length := List.length_filter_le _ _
              have h2 : (P.drop (k + 1)).length ≤ P.length := by rw [List.length_drop]; omega
              omega
            by_cases hlt : k < P.length
            · obtain ⟨b1, B1, C1, rfl, z0, hv, hK1, hK2, hin⟩ := HJ.out.o1.vat hlt
              obtain ⟨tok, tt⟩ := HPOK.out _ (gg_mem hlt)
              obtain ⟨t0, t5⟩ := tu_len tt
              have hlb := lt_of_cell z0
              have cf := tfits_any A c a B1 C1 (gg P k) HMA.out (by unfold maxLen; omega) HOA.out tok wr (HJ.out.vals HA.out) hv
              have htf : tfE a (gg P k) = 0 := by rw [tfE, if_neg (by rw [HL.out]; decide), tt]
              rw [htf, eV_zero] at cf
              cases hf : fitB a (gg P k) with
              | false =>
                rw [hf] at cf
                have e1 := lf_no hlt hf
                have e2 := nf_no hlt hf
                have e3 : lf a P k ++ P.drop k = lf a P (k + 1) ++ P.drop (k + 1) := by rw [e1, drop_one hlt, List.append_assoc]; rfl
                rw [e3] at HJ
                rw [e2]
                have CF := Lib.hid cf; have E1 := Lib.hid e1; have HV := Lib.hid hv; have HK1 := Lib.hid hK1; have HK2 := Lib.hid hK2; have HIN := Lib.hid hin
                clear cf e1 e2 e3 hv hin hf htf tt tok hK1 hK2
                go_wp2_with (first | (go_at_call 57; refine CF.out.mono ?_; rintro e w5 ⟨rfl, hb5⟩; have HJ5 := Lib.hid (HJ.out.keep hb5); have z5 := (hb5.cell (p := ⟨b1, k, none⟩) hlb).trans z0; have HV5 := Lib.hid (HV.out.below hb5 (Nat.le_refl _)); have HI5 := Lib.hid (HIN.out.stay fun x hx => hb5.block _ (HIN.out.lt HJ.out.s.hb hx))) | (at_builtin; refine wpList_append_many_at vals_stay rfl _ _ 47 29 28 rfl Tryd.underlying47 infoVals (by decide) w.heap.size A2 c2 (lf a P k) rfl (HJ5.out.o2.keep vals_stay HJ5.out.s.hb (bal1 _ _)) _ B1 (gg P k) C1 rfl (cell_new1 _ _ _) (Sl.alloc HV5.out _) HK1.out HK2.out (Inn.alloc HI5.out HJ5.out.s.hb _) (by omega) (le_al HJ5.out.s.hb _) ?_; intro b4 c4 w4 ho4 hg4 hx4; have HJ4 := Lib.hid ((HJ5.out.keep (bal1 _ _)).app2 hg4 ho4 hx4); clear ho4 hg4 hx4))
                go_roundw
                case rel => exact ⟨k + 1, g, some ⟨b4, 0, none⟩, c4, by omega, by go_num, by rw [E1.out]; simp, rfl, by rw [← E1.out] at HJ4; exact HJ4⟩
                case measure => simp [intOf]; omega
              | true =>
                rw [hf] at cf
                have e1 := lf_yes hlt hf
                have e2 := nf_yes hlt hf
                have e3 : lf a P k ++ P.drop k = lf a P k ++ gg P k :: P.drop (k + 1) := by rw [drop_one hlt]
                rw [e3] at HJ
                rw [e2]
                have hfin := fin_mid (Y := P.drop (k + 1)) HL.out (lf_mem (a := a) (P := P) (i := k)) hf
                have hplc : (plc a (lf a P k ++ gg P k :: P.drop (k + 1))).toNat = (lf a P k).length := by rw [plc_mid lf_mem hf]; rfl
                have hrt : rT a (lf a P k ++ gg P k :: P.drop (k + 1)) = gg P k := by rw [rT, if_pos hfin, hplc, gg_mid]
                have hrl : rL a (lf a P k ++ gg P k :: P.drop (k + 1)) = lf a P (k + 1) ++ P.drop (k + 1) := by rw [rL, if_pos hfin, hplc, erase_mid, e1]
                have cr := fun (W : World) (hS : Spc W w.heap.size p g (lf a P k ++ gg P k :: P.drop (k + 1))) (V : Vals W A a) => spread_any _ p g _ A c a HMA.out HOA.out W hS V hfin
                have ct := fun (W : World) (j : SK w W p g (lf a P k ++ gg P k :: P.drop (k + 1)) (some ⟨b1, 0, none⟩) c1 P A2 c2 (lf a P k)) => sk_take j A c a HMA.out HOA.out HA.out
                rw [hrt] at cr
                rw [hrt, hfin, hrl, eV_zero] at ct
                have CF := Lib.hid cf; have E1 := Lib.hid e1; have HV := Lib.hid hv; have HT5 := Lib.hid t5
                have CR := Lib.hid cr; have CT := Lib.hid ct
                clear cf e2 e1 e3 hv hin hf htf tt tok hK1 hK2 hfin hplc hrt hrl cr ct t5 t0
                obtain ⟨m, hm⟩ : ∃ m, nf a (P.drop (k + 1)) = m := ⟨_, rfl⟩
                rw [hm] at hnl ⊢
                have HM := Lib.hid hm
                clear hm
                go_wp2_with (first | (go_at_call 57; refine CF.out.mono ?_; rintro e w5 ⟨rfl, hb5⟩; have HJ5 := Lib.hid (HJ.out.keep hb5)) | (go_at_call 51; refine (CR.out _ HJ5.out.s (HJ5.out.vals HA.out)).mono ?_; rintro e w6 ⟨B6, C6, rfl, hv6, hb6⟩; have HV6 := Lib.hid hv6; have HJ6 := Lib.hid (HJ5.out.keep hb6); clear hv6) | (go_at_call 52; refine (CT.out _ HJ6.out).mono ?_; rintro e w7 ⟨B7, C7, rfl, hv7, hx7, hj7⟩; have HV7 := Lib.hid hv7; have HR7 := Lib.hid (HV6.out.chg HJ6.out.s hx7); have HJ7 := Lib.hid hj7; obtain ⟨b8, B8, C8, hbb, z7, hv8, _, _, _⟩ := HJ7.out.o1.vat hlt; injection hbb with hbb; injection hbb with hbb; subst hbb; have hl7 := lt_of_cell z7; have HV8 := Lib.hid hv8; clear hv7 hx7 hj7 hv8))
                refine (same_t _ _ _ _ _ _ HR7.out.1 HV7.out HT5.out).mono ?_
                rintro e w8 ⟨rfl, hb8⟩
                have z8 := (hb8.cell (p := ⟨b1, k, none⟩) hl7).trans z7
                go_wp2_with fail
                refine (same_t _ _ _ _ _ _ (HV7.out.below hb8 (Nat.le_refl _)) (HV8.out.below hb8 (Nat.le_refl _)) HT5.out).mono ?_
                rintro e w9 ⟨rfl, hb9⟩
                have HJ9 := Lib.hid ((HJ7.out.keep hb8).keep hb9)
                go_wp2_with fail
                go_roundw
                case rel => exact ⟨k + 1, g, A2, c2, by omega, by go_num, by rw [E1.out], by rw [HM.out], by rw [E1.out]; rw [E1.out] at HJ9; exact HJ9⟩
                case measure => simp [intOf]; omega
            · obtain rfl : k = P.length := by omega
              rw [List.drop_length, List.append_nil] at HJ
              rw [List.drop_length]
              have hfin := fin_five HL.out (lf_mem (a := a) (P := P) (i := P.length))
              have ct := sk_take HJ.out A c a HMA.out HOA.out HA.out
              rw [rT, rL, hfin, if_neg (by decide), if_neg (by decide)] at ct
              have hn0 : ((nf a [] : Nat) : Int) = 0 := rfl
              rw [hn0]
              have CT := Lib.hid ct; have HQL := Lib.hid hql
              clear ct hfin hn0 hql hnl
              go_wp2_with (first | (go_at_call 52; refine CT.out.mono ?_; rintro e w7 ⟨B7, C7, rfl, _, _, hj7⟩; have HJ7 := Lib.hid hj7; have hg7 := hj7.h0.below hj7.b; have HG7 := Lib.hid hg7; clear hj7 hg7) | (go_at_call 24; refine (same_e _ _ HG7.out).mono ?_; rintro e w8 ⟨rfl, hb8⟩; have HJ8 := Lib.hid (HJ7.out.keep hb8)) | (go_at_call 30; refine (sk_all HJ8.out).mono ?_; rintro e w9 ⟨A9, C9, rfl, hm9, hb9⟩; have HM9 := Lib.hid hm9; clear hm9) | (go_at_call 55; refine (same_ts _ _ _ _ _ _ HM9.out (many_below HJ8.out.o2.many hb9) HQL.out).mono ?_; rintro e w10 ⟨rfl, hb10⟩))
              go_ret
              exact ⟨ret_true (by first | rfl | (simp; done) | (simp; omega)), bcl (bcl HJ8.out.b hb9) hb10⟩
      · rw [eV_of hl] at cc clk
        rw [if_neg hl] at cc
        generalize liE a = E at *
        have CC := Lib.hid cc; have CLK := Lib.hid clk
        clear cc hl clk
        rcases hend with ⟨t1, hend⟩ | ⟨t1, t2, hend⟩
        all_goals
          go_wp2_with (first | (go_at_call 32; refine CC.out.mono ?_; rintro e w5 ⟨rfl, hb5⟩; have HJ5 := Lib.hid (HJ.out.keep hb5)) | (go_at_call 56; refine (CLK.out _ (HJ5.out.vals HA.out)).mono ?_; rintro e w6 ⟨rfl, hb6⟩))
          go_ret
          exact ⟨ret_true (by first | rfl | (simp; done) | (simp; omega)), bcl HJ5.out.b hb6⟩

/-! ### the card's frame -/
set_option maxRecDepth 100000 in
theorem lifted (os : Os) (started : os.Started) (H : Type) (enc : TypeId × Value → H) :
    ReturnsInHanded {} Tryd.checked os 14 .any (fun w args => (Rows.spaceKeepsSpec.pre enc Tryd.prog Tryd.f14 [] false w args ∧ laidMetH Tryd.prog laidL w) ∧ sizedMet enc Tryd.prog Tryd.f14 (OpenSpec.ofChange Rows.spaceKeepsSpec) false w args) (Rows.spaceKeepsSpec.post enc Tryd.prog Tryd.f14 false true false false) := by
  refine returnsInHanded_of_change_and (C := Tryd.checked) (X := fun w _ => laidMetH Tryd.prog laidL w) (fun _ _ _ hh h => h.of_heap hh) door.own started (by kernel_rfl) Tryd.func14
    (ChangeSpec.witness_at (enc := enc) (C := Tryd.checked) (os := os) (X := fun w _ => laidMetH Tryd.prog laidL w) false (laidWorld os) #[.slice none 0 0, .slice none 0 0] 8 rfl (by kernel_rfl) (by kernel_rfl) (by kernel_rfl) (by kernel_rfl) (by kernel_rfl) (laidWorld_met os _)) ?_
  intro W base args ds gs before hval0 hW _ hsz hL _
  have hg := handle_of_laid hL
  have hval : ∀ (j : Nat) t v, Tryd.f14.params[j]? = some t → args[j]? = some v → Value.okWide Tryd.prog W .any base t v := hval0
  have hW' := hW
  obtain ⟨p, q, hT0, hV, rfl, hfz, hnd⟩ := hW
  have hA : DataW.TrodAll enc Tryd.prog W 0 (fun _ => true) true Tryd.f14.params.toList args.toList ds p := hT0
  rw [Tryd.params14] at hA hval
  obtain ⟨v0, vs0, d0, ds0, p0, q0, hargs, rfl, rfl, h0, r0⟩ := trodAll_cons hA
  obtain ⟨v1, vs1, d1, ds1, p1, q1, rfl, rfl, rfl, h1, r1⟩ := trodAll_cons r0
  obtain ⟨rfl, rfl, rfl⟩ := trodAll_nil r1
  obtain rfl : args = #[v0, v1] := by cases args; simp_all
  obtain ⟨rfl, rfl⟩ := trodVars_none hV
  have k0 := h0
  have lt0 : ∀ x ∈ p0, x.block < W.heap.size := by obtain ⟨m, hm⟩ := k0; exact DataW.trod_lt m _ _ _ hm
  obtain ⟨A0, c0, x0, rfl, hc0, hm0, hA0, w0⟩ := arg_Many (Q := Vals) (R := okL) Tryd.underlying47 (by kernel_rfl) (fun _ _ _ h => open_Vals Tryd.underlying29 Tryd.underlying28 (by kernel_rfl) (by kernel_rfl) Tryd.underlying3 Tryd.underlying3 Tryd.underlying9 h) (hval 0 47 v0 rfl rfl) h0
  have k1 := h1
  have lt1 : ∀ x ∈ p1, x.block < W.heap.size := by obtain ⟨m, hm⟩ := k1; exact DataW.trod_lt m _ _ _ hm
  obtain ⟨A1, c1, x1, rfl, hc1, hm1, hA1, w1⟩ := arg_Vals Tryd.underlying29 Tryd.underlying28 (by kernel_rfl) (by kernel_rfl) Tryd.underlying3 Tryd.underlying3 Tryd.underlying9 (hval 1 29 v1 rfl rfl) h1
  clear hT0 hval0
  refine (walk W hg A0 c0 x0 hc0 hm0 hA0 w0 A1 c1 x1 hc1 hm1 hA1 w1).mono fun e W' ⟨he, bel⟩ => ?_
  subst he
  exact ⟨_, rfl, _, _, _, [], _, [], hW', trodAll_mk1 (shut_bool Tryd.underlying4 _), (trodAll_cons_mk (Below.trod door.laidOut (by kernel_rfl) (of_decide_eq_true (by kernel_rfl)) k0 bel lt0) (trodAll_cons_mk (Below.trod door.laidOut (by kernel_rfl) (of_decide_eq_true (by kernel_rfl)) k1 bel lt1) trodAll_mk0)), rfl, bel.frame _, fun h => by cases h⟩

theorem fr.fn : Tryd.prog.funcNamed Rows.spaceKeepsRow.func = some 14 := by kernel_rfl
theorem fr.cl : joinedFacts Tryd.prog 14 Tryd.f14 Rows.spaceKeepsSpec Rows.spaceKeepsRow = true := by kernel_rfl
theorem fr.is : Tryd.f14.isInstance Tryd.prog Rows.spaceKeepsRow.origin Rows.spaceKeepsRow.targs := of_decide_eq_true (by kernel_rfl)
theorem fr.wr : Tryd.f14.isWrapper Tryd.prog Rows.spaceKeepsRow.wrapper Rows.spaceKeepsRow.mainSum := by
  unfold Func.isWrapper; first | (rw [if_pos (by decide +kernel)]; kernel_rfl) | (rw [if_neg (by decide +kernel)]; exact ⟨rfl, rfl⟩)
theorem over : Rows.SpaceKeepsSaid :=
  OpenClaim.holds_of_wide 14 Tryd.f14 rfl rfl rfl rfl rfl rfl rfl ⟨rfl, rfl, rfl, rfl, rfl⟩ rfl rfl rfl rfl rfl fr.fn Tryd.func14 fr.cl fr.is fr.wr
    (fun os started H enc _ => lifted os started H enc)

theorem fr.hw : Rows.spaceKeepsRow.wfByText (OpenSpec.ofChange Rows.spaceKeepsSpec) = true := by kernel_rfl
theorem fr.hm : Tryd.pinned.checked.prog.mainIs = some (Rows.spaceKeepsCard.stood.harness.1, Rows.spaceKeepsCard.stood.harness.2.toList) := by kernel_rfl
theorem fr.lk : true = Tryd.prog.looks [] := by kernel_rfl
theorem fr.ws : ([47, 29].all fun u => !Tryd.prog.wantsStandIn u) = true := by kernel_rfl
theorem fr.go : false = Rows.spaceKeepsRow.goesBy Tryd.pinned.checked.prog := by kernel_rfl
theorem proved : Rows.SpaceKeepsCardSaid :=
  Claim7.holds_tied_plain_at .later [] [.handle] true Rows.spaceKeepsCard.stood.harness true over (fun _ h => by cases h) fr.hw (fun _ h => by cases h) spaceKeeps_row_tie rfl ⟨rfl, rfl⟩ fr.hm rfl
    (fun f fn hf hfn => by
      obtain rfl : f = 14 := Option.some.inj (fr.fn.symm.trans hf) |>.symm
      obtain rfl : fn = Tryd.f14 := (Option.some.inj (Tryd.func14.symm.trans hfn)).symm
      exact ⟨fr.lk, fun j t ht => by
        rw [Tryd.params14] at ht
        have hm : t ∈ [47, 29] := by simpa using Array.mem_of_getElem? ht
        exact (show Tryd.prog.wantsStandIn t = false by simpa using List.all_eq_true.1 fr.ws t hm)⟩)
    fr.go
#print axioms proved

end Go.Proofs.YthpemlhlgjdnkaaDoor.spaceKeeps
