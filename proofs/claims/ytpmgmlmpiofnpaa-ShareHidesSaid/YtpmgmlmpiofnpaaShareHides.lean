/- ShareHidesSaid: SO MANY TELL IT, ONE FEWER NOTHING (Shamir): for every secret, rest, number of shares, one that is skipped, and another secret. -/
import Derived.Test.YtpmgmlmpiofnpaaRows
import Derived.Test.YtpmgmlmpiofnpaaHidesPlain
import Derived.WalkKit
import Derived.ProofKit
import Derived.OpenShut
import Derived.ShutString
import Derived.ChangeOld
import Derived.WalkLawsBesides
import Derived.WalkSpells
import Derived.RegionTactic
import Derived.ChangeAlike
namespace Go.Proofs.Ytpmgmlmpiofnpaa.shareHides
open Go.ChangeShapes Go.WideShapes Go.ChangeAt Go.RowKit
set_option linter.unusedVariables false

theorem f1 : shE 5 [2] (3 : Nat) = 0 := by decide
theorem f2 : gb (dealL (5 :: [2]) 3) 0 = 7 := by decide
theorem f3 : gb (dealL (5 :: [2]) 3) 2 = 11 := by decide

set_option maxHeartbeats 8000000 in
set_option maxRecDepth 100000 in
theorem walk (w : World) (s : Int) (_ : I64 s) (A : Option Addr) (c : Nat) (r : List Int) (hrc : r.length ≤ c) (hcm : c ≤ maxLen) (hA : Ints w A r) (_ : ∀ i, i < r.length → I64 (gi r i))
    (m : Int) (_ : I64 m) (skip : Int) (_ : I64 skip) (other : Int) (_ : I64 other) :
    Calls Try.prog 13 #[.int .i64 s, .slice A r.length c, .int .i64 m, .int .i64 skip, .int .i64 other] w fun e w' => e = .returned (.bool true) ∧ Below w.heap.size w w' := by
  have cf := fun W A cap (hW : Ints W A [2]) => deal_ok 5 A cap [2] 3 f1 W hW
  have CF := Lib.hid cf; clear cf
  by_cases he : shE s r m = 0
  · obtain ⟨hs, h6, _, hm, hlt⟩ := shE_zero he
    obtain ⟨m0, m1⟩ := manB_true.1 hm
    obtain ⟨s0, s1⟩ := inB_true.1 hs
    obtain ⟨n, rfl⟩ := Int.eq_ofNat_of_zero_le (show 0 ≤ m by omega)
    have hn7 : n ≤ 7 := by omega
    have hrn : r.length < n := by omega
    have cd := fun W (hW : Ints W A r) => deal_ok s A c r n he W hW
    have CD := Lib.hid cd
    have hP0 : PM.hor (s :: r) 0 = s := by
      simp only [PM.hor]; rw [Int.mul_zero, Int.zero_add]; exact Int.emod_eq_of_lt s0 s1
    have HP0 := Lib.hid hP0
    have hda : ∀ i, i < n → ga (dealL (s :: r) n) i = ((i : Int) + 1) := fun i hi => by rw [deal_ga _ _ _ hi]; rfl
    have hdb := deal_gb (s :: r) n
    have HDA := Lib.hid hda; have HDB := Lib.hid hdb
    obtain ⟨P, hPd⟩ : ∃ P, s :: r = P := ⟨_, rfl⟩
    have hPl : P.length = r.length + 1 := by rw [← hPd]; rfl
    rw [hPd] at CD HP0 HDA HDB
    have HPL := Lib.hid hPl
    clear cd he hm hs hP0 hda hdb hPd hPl hcm
    obtain ⟨al, hal⟩ : ∃ al : Bool, al = ((n : Int) == (r.length : Int) + 1) := ⟨_, rfl⟩
    have HAL := Lib.hid hal.symm
    have hal2 : ((n : Int) == (r.length : Int) + 1) = al := hal.symm
    clear hal
    go_enter Try.func13, Try.ntmps13
    go_wp2_with fail
    refine (CF.out _ _ _ (one_ints _ _ _ (by simp))).mono ?_
    rintro e w1 ⟨A1, c1, rfl, ho1, hb1⟩
    have hS1 := ho1.shares
    obtain ⟨b1, o1, rfl, hl1, _, k0⟩ := hS1.at_ (i := 0) (by decide)
    obtain ⟨b1', o1', e1, _, _, k2⟩ := hS1.at_ (i := 2) (by decide)
    simp only [Option.some.injEq, Addr.mk.injEq, and_true] at e1
    obtain ⟨rfl, rfl⟩ := e1
    rw [f2] at k0
    rw [f3] at k2
    simp only [Nat.zero_mul, Nat.add_zero] at k0
    have hb1' : Below w.heap.size w w1 := bcl (bal1 _ _) hb1
    clear hb1 ho1 hS1
    have k2' : w1.cell? ⟨b1, o1 + 4 + 1, none⟩ = some (.int .i64 11) := k2
    go_wp2_with fail
    refine (CD.out _ (hA.below hb1' (Nat.le_refl _))).mono ?_
    rintro e w2 ⟨A2, c2, rfl, ho2, hb2⟩
    have hS2 := ho2.shares
    have hb2' := bcl hb1' hb2
    have hlen2 := dealL_length P n
    generalize dealL P n = l at *
    clear k0 k2 k2' ho2 hb2 hb1'
    have HL2 := Lib.hid hlen2; clear hlen2
    go_wp2_with fail
    go_loopw [16, 17] (fun o i wr => ∃ (k : Nat) (As : Option Addr) (cs : Nat), k ≤ n ∧ i = .int .i64 k ∧ o = .slice As (smL P skip al k).length cs ∧ OShares wr w2.heap.size As cs (smL P skip al k) ∧ Below w2.heap.size w2 wr) (fun _ i _ => n - (intOf i).toNat)
    case atStart => exact ⟨0, none, 0, Nat.zero_le _, rfl, rfl, OShares.nil, Below.refl _ _⟩
    case round =>
      obtain ⟨k, As, cs, hk, rfl, rfl, ho, hb⟩ := hrel
      have hz := hb.size
      by_cases hlt : k < n
      · obtain ⟨b, off, rfl, hbl, k1, k2⟩ := (hS2.below hb (Nat.le_refl _)).at_ (i := k) (by rw [HL2.out]; exact hlt)
        have hg1 := HDA.out k hlt
        have hg2 := HDB.out k hlt
        rw [hg1] at k1
        rw [hg2] at k2
        have hl6 : (smL P skip al k).length ≤ 1000000 := by have := (ch_length skip al k).1; simp [smL]; omega
        have hsh : shr P k = ((k : Int) + 1, PM.hor P ((k + 1 : Nat) : Int)) := rfl
        have HSH := Lib.hid hsh
        clear hg1 hg2 hsh
        cases hsk : ((k : Int) != skip || al) with
        | true =>
          have hs := smL_yes (P := P) hsk
          rw [HSH.out] at hs
          have HS := Lib.hid hs; clear hs
          have hsk2 : ((k : Int) != skip) = true ∨ (((k : Int) != skip) = false ∧ al = true) := by
            cases h : ((k : Int) != skip)
            · rw [h, Bool.false_or] at hsk; exact .inr ⟨rfl, hsk⟩
            · exact .inl rfl
          clear hsk
          rcases hsk2 with h1 | ⟨h1, rfl⟩
          all_goals
            go_wp2_with (at_builtin; refine wpList_append_share rfl _ _ rfl w2.heap.size As cs _ rfl (ho.keep (bal1 _ _)) wr.heap.size _ _ rfl (cell_new2a _ _ _ _) (cell_new2b _ _ _ _) hl6 (le_al hz _) ?_; intro A3 c3 w3 ho3 hb3)
            go_roundw
          case rel => exact ⟨k + 1, A3, c3, by omega, by go_num, by rw [HS.out]; simp, by rw [HS.out]; exact ho3, (bal hb _).trans hb3⟩
          case measure => simp [intOf]; omega
          case rel => exact ⟨k + 1, A3, c3, by omega, by go_num, by rw [HS.out]; simp, by rw [HS.out]; exact ho3, (bal hb _).trans hb3⟩
          case measure => simp [intOf]; omega
        | false =>
          have hs := smL_no (P := P) hsk
          have HS := Lib.hid hs; clear hs
          rw [Bool.or_eq_false_iff] at hsk
          obtain ⟨h1, rfl⟩ := hsk
          go_wp2_with fail
          go_roundw
          case rel => exact ⟨k + 1, As, cs, by omega, by go_num, by rw [HS.out], by rw [HS.out]; exact ho, hb⟩
          case measure => simp [intOf]; omega
      · obtain rfl : k = n := by omega
        have hle : P.length ≤ (smL P skip al k).length := by
          have hc := ch_length skip al k
          have hpl := HPL.out
          have e : (smL P skip al k).length = (ch skip al k).length := by simp [smL]
          rw [e]
          cases al with
          | true => rw [hc.2.2.1 rfl]; omega
          | false =>
            have := ne_of_beq_false hal2
            omega
        have hPpos : 0 < P.length := by rw [HPL.out]; omega
        obtain ⟨hpoi, hthr⟩ := so_many P skip al k hn7 hPpos hle
        obtain ⟨hpts, hpg⟩ := smL_pts P skip al k hn7
        have hslen : (smL P skip al k).length ≤ 7 := by have := (ch_length skip al k).1; simp [smL]; omega
        have hcap := ho.cap
        have hSs := ho.shares
        rw [HP0.out] at hthr
        rw [HPL.out] at hle hthr
        have hb3 : Below w.heap.size w wr := hb2'.trans (hb.mono hb2'.size)
        generalize smL P skip al k = S at *
        have cj := fun W (hW : Shares W As S) => join_ok As cs S (r.length + 1) hcap.1 hcap.2 (manB_true.2 ⟨by omega, by omega⟩) hpoi hle W hW
        rw [hthr, show ((r.length + 1 : Nat) : Int) = (r.length : Int) + 1 from rfl] at cj
        have CJ := Lib.hid cj
        have HPT := Lib.hid hpts; have HPG := Lib.hid hpg
        clear cj hpts hpg hthr hpoi ho hS2 hPpos
        obtain ⟨hcap1, hcap2⟩ := hcap
        unfold maxLen at hcap2
        by_cases hr0 : r.length = 0
        · have hn1 : ((r.length : Int) + 1 == 1) = true := by simp [hr0]
          clear hr0
          go_wp2_with fail
          refine (CJ.out _ hSs).mono ?_
          rintro e w4 ⟨rfl, hb4⟩
          go_wp2_with fail
          all_goals go_ret
          all_goals exact ⟨ret_true (by first | rfl | (simp; done) | (simp; omega)), bcl hb3 hb4⟩
        · have hn1 : ((r.length : Int) + 1 == 1) = false := beq_eq_false_iff_ne.2 (by omega)
          have hoth : (other < 0 ∨ 257 ≤ other) ∨ (0 ≤ other ∧ other < 257) := by omega
          rcases hoth with hoth | ⟨ot0, ot1⟩
          · clear hr0
            rcases hoth with hoth | hoth
            all_goals
              go_wp2_with fail
              refine (CJ.out _ hSs).mono ?_
              rintro e w4 ⟨rfl, hb4⟩
              go_wp2_with fail
              all_goals go_ret
              all_goals exact ⟨ret_true (by first | rfl | (simp; done) | (simp; omega)), bcl hb3 hb4⟩
          · have hrs : r.length ≤ S.length := by omega
            have hptk := pts_take HPT.out r.length hrs
            have hlt4 : (S.take r.length).length = r.length := by rw [List.length_take]; omega
            have hfp := few_pts ⟨ot0, ot1⟩ hptk (fun i hi => by rw [hlt4] at hi; rw [ga_take _ _ i hi]; exact (HPG.out i (by omega)).2)
            have hfl : (fewL other (S.take r.length)).length = r.length + 1 := by simp [fewL, hlt4]
            have hfpoi := poi_of (by omega) (by omega) hfp
            have hsame := anew_same _ hfp (by omega)
            have hap := anew_pts (fewL other (S.take r.length)) (r.length + 1) (by omega)
            rw [hfl] at hsame
            have hal3 := anew_length (fewL other (S.take r.length)) (r.length + 1)
            have hapoi := poi_of (by omega) (by omega) hap
            have hoz : thrL (fewL other (S.take r.length)) 0 = other := PM.thr_each hfp (i := 0) (by omega)
            have heach : ∀ i, i < r.length → thrL (fewL other (S.take r.length)) (ga S i) = gb S i := fun i hi => by
              have h1 := PM.thr_each hfp (i := i + 1) (by omega)
              have e1 : ga (fewL other (S.take r.length)) (i + 1) = ga S i := by rw [← ga_take S r.length i hi]; simp [ga, fewL]
              have e2 : gb (fewL other (S.take r.length)) (i + 1) = gb S i := by rw [← gb_take S r.length i hi]; simp [gb, fewL]
              rw [e1, e2] at h1; exact h1
            have hgr : ∀ i, i < r.length → 0 ≤ ga S i ∧ ga S i < 257 := fun i hi => HPT.out.xr i (by omega)
            have hfe : fewL other (S.take r.length) = [(0, other)] ++ S.take r.length := rfl
            have HFE := Lib.hid hfe
            generalize fewL other (S.take r.length) = Fw at *
            have HX := Lib.hid (And.intro hfpoi (And.intro hsame (And.intro hapoi (And.intro hoz (And.intro heach hgr)))))
            have HFL := Lib.hid hfl; have HAN := Lib.hid hal3; have HLT := Lib.hid hlt4
            clear hfpoi hsame hapoi hoz heach hgr hfl hal3 hlt4 hfp hap hptk hfe hr0
            have hl2 : [((0 : Int), other)].length + (S.take r.length).length ≤ 1000000 := by rw [HLT.out]; simp; omega
            go_wp2_with fail
            refine (CJ.out _ hSs).mono ?_
            rintro e w4 ⟨rfl, hb4⟩
            have hb4' := bcl hb3 hb4
            have hS4 := hSs.below hb4 (Nat.le_refl _)
            have hS4a : Shares (w4.alloc (.cells #[.int .i64 0, .int .i64 other] 45)) As (S.take r.length) := Sl.alloc (hS4.take hrs) _
            go_wp2_with (at_builtin; refine wpList_append_shares rfl _ _ rfl w4.heap.size _ 1 [((0 : Int), other)] rfl (own_lit_share w4 0 other rfl (Nat.le_refl _)) As cs (S.take r.length) (by rw [HLT.out]; rfl) hS4a hl2 (le_al (Nat.le_refl _) _) ?_; intro A5 c5 w5 ho5 hb5)
            rw [← HFE.out] at ho5
            have hF5 := ho5.shares
            have hcf := ho5.cap
            obtain ⟨x1, x2, x3, x4, x5, x6⟩ := HX.out
            have cn := fun (z : Int) (z0 : 0 ≤ z) (z1 : z < 257) W (hW : Shares W A5 Fw) => next_ok A5 c5 Fw z hcf.1 hcf.2 x1 (inB_true.2 ⟨z0, z1⟩) W hW
            have ethr : ∀ z, PM.thr (ga Fw) (gb Fw) Fw.length z Fw.length = thrL Fw z := fun _ => rfl
            simp only [ethr] at cn
            rw [HFL.out, Nat.add_comm r.length 1] at cn
            have CN := Lib.hid cn
            have HNL := Lib.hid (anew_length Fw)
            have HNS := Lib.hid (anew_succ Fw)
            clear cn ethr hcf ho5 x1 x2 x3 x4 x5 x6 hS4a hl2
            have hb5' : Below w.heap.size w w5 := (bal hb4' _).trans (hb5.mono hb4'.size)
            have hS5 : Shares w5 As S := hS4.below ((bal1 w4 _).trans hb5) (Nat.le_refl _)
            go_loopw [21, 22, 23, 24] (fun o i _ _ wx => ∃ (j : Nat) (Aq : Option Addr) (cq : Nat), j ≤ r.length + 1 ∧ i = .int .i64 ((j : Int) + 1) ∧ o = .slice Aq (anew Fw j).length cq ∧ OShares wx w5.heap.size Aq cq (anew Fw j) ∧ Below w5.heap.size w5 wx) (fun _ i _ _ _ => (r.length + 2) - (intOf i).toNat)
            case atStart => exact ⟨0, none, 0, Nat.zero_le _, rfl, rfl, OShares.nil, Below.refl _ _⟩
            case round =>
              obtain ⟨j, Aq, cq, hj, rfl, rfl, ho, hbx⟩ := hrel
              have hjl := HNL.out j
              by_cases hjr : j < r.length + 1
              · have c1 := CN.out ((j : Int) + 1) (by omega) (by omega) wr (hF5.below hbx (Nat.le_refl _))
                have C1 := Lib.hid c1
                have hs := HNS.out j
                have HS := Lib.hid hs
                have hl6 : (anew Fw j).length ≤ 1000000 := by omega
                have HJL := Lib.hid hjl
                clear c1 hs hjl
                go_wp2_with fail
                refine C1.out.mono ?_
                rintro e w6 ⟨rfl, hb6⟩
                have ho6 := ho.keep hb6
                have hb6' := bcl hbx hb6
                have hz6 := hb6'.size
                go_wp2_with (at_builtin; refine wpList_append_share rfl _ _ rfl w5.heap.size Aq cq _ rfl (ho6.keep (bal1 _ _)) w6.heap.size _ _ rfl (cell_new2a _ _ _ _) (cell_new2b _ _ _ _) hl6 (le_al hz6 _) ?_; intro A7 c7 w7 ho7 hb7)
                go_roundw
                case rel => exact ⟨j + 1, A7, c7, by omega, by go_num, by rw [HS.out]; simp, by rw [HS.out]; exact ho7, (bal hb6' _).trans hb7⟩
                case measure => simp [intOf]; omega
              · obtain rfl : j = r.length + 1 := by omega
                have hcq := ho.cap
                have hSq := ho.shares
                obtain ⟨x1, x2, x3, x4, x5, x6⟩ := HX.out
                have cj := fun W (hW : Shares W Aq (anew Fw (r.length + 1))) => join_ok Aq cq (anew Fw (r.length + 1)) (r.length + 1) hcq.1 hcq.2 (manB_true.2 ⟨by omega, by omega⟩) x3 (by omega) W hW
                have htk : (anew Fw (r.length + 1)).take (r.length + 1) = anew Fw (r.length + 1) := List.take_of_length_le (by omega)
                rw [htk, x2, x4, show ((r.length + 1 : Nat) : Int) = (r.length : Int) + 1 from rfl] at cj
                have cn3 := fun (z : Int) (z0 : 0 ≤ z) (z1 : z < 257) W (hW : Shares W Aq (anew Fw (r.length + 1))) => next_ok Aq cq (anew Fw (r.length + 1)) z hcq.1 hcq.2 x3 (inB_true.2 ⟨z0, z1⟩) W hW
                have ethr : ∀ z, PM.thr (ga (anew Fw (r.length + 1))) (gb (anew Fw (r.length + 1))) (anew Fw (r.length + 1)).length z (anew Fw (r.length + 1)).length = thrL Fw z := fun z => x2 z
                simp only [ethr] at cn3
                rw [hjl] at cn3 cj
                have CJ2 := Lib.hid cj; have CN3 := Lib.hid cn3
                have HE := Lib.hid x5; have HG := Lib.hid x6
                have HJL := Lib.hid hjl
                rw [hjl]
                have hbw : Below w.heap.size w wr := hb5'.trans (hbx.mono hb5'.size)
                have hSx := hS5.below hbx (Nat.le_refl _)
                clear cj cn3 ethr x1 x2 x3 x4 x5 x6 htk hcq ho hjl
                generalize anew Fw (r.length + 1) = Q at *
                go_wp2_with fail
                refine (CJ2.out _ hSq).mono ?_
                rintro e w8 ⟨rfl, hb8⟩
                have hb8' := bcl hbw hb8
                have hS8 := hSx.below hb8 (Nat.le_refl _)
                have hQ8 := hSq.below hb8 (Nat.le_refl _)
                clear hSx hSq
                go_wp2_with fail
                go_loopw [26, 27, 28] (fun i _ _ wy => ∃ j : Nat, j ≤ r.length ∧ i = .int .i64 j ∧ Below w8.heap.size w8 wy) (fun i _ _ _ => r.length - (intOf i).toNat)
                case atStart => exact ⟨0, Nat.zero_le _, rfl, Below.refl _ _⟩
                case round =>
                  obtain ⟨j, hj, rfl, hby⟩ := hrel
                  by_cases hjr2 : j < r.length
                  · obtain ⟨b9, o9, rfl, hl9, k1, k2⟩ := (hS8.below hby (Nat.le_refl _)).at_ (i := j) (by omega)
                    have hg := HG.out j hjr2
                    have c1 := CN3.out (ga S j) hg.1 hg.2 wr (hQ8.below hby (Nat.le_refl _))
                    rw [HE.out j hjr2] at c1
                    have C1 := Lib.hid c1
                    clear c1
                    go_wp2_with fail
                    refine C1.out.mono ?_
                    rintro e w9 ⟨rfl, hb9⟩
                    have q2 := (hb9.cell (p := ⟨b9, o9 + j * 2 + 1, none⟩) hl9).trans k2
                    clear k1 k2
                    go_wp2_with fail
                    go_roundw
                    case rel => exact ⟨j + 1, by omega, by go_num, bcl hby hb9⟩
                    case measure => simp [intOf]; omega
                  · obtain rfl : j = r.length := by omega
                    go_wp2_with fail
                    go_ret
                    exact ⟨rfl, bcl hb8' hby⟩
  · have cd := fun W (hW : Ints W A r) => deal_no s A c r m he W hW
    have CD := Lib.hid cd; clear cd he
    go_enter Try.func13, Try.ntmps13
    go_wp2_with fail
    refine (CF.out _ _ _ (one_ints _ _ _ (by simp))).mono ?_
    rintro e w1 ⟨A1, c1, rfl, ho1, hb1⟩
    have hS1 := ho1.shares
    obtain ⟨b1, o1, rfl, hl1, _, k0⟩ := hS1.at_ (i := 0) (by decide)
    obtain ⟨b1', o1', e1, _, _, k2⟩ := hS1.at_ (i := 2) (by decide)
    simp only [Option.some.injEq, Addr.mk.injEq, and_true] at e1
    obtain ⟨rfl, rfl⟩ := e1
    rw [f2] at k0
    rw [f3] at k2
    simp only [Nat.zero_mul, Nat.add_zero] at k0
    have hb1' : Below w.heap.size w w1 := bcl (bal1 _ _) hb1
    clear hb1 ho1 hS1
    have k2' : w1.cell? ⟨b1, o1 + 4 + 1, none⟩ = some (.int .i64 11) := k2
    go_wp2_with fail
    refine (CD.out _ (hA.below hb1' (Nat.le_refl _))).mono ?_
    rintro e w2 ⟨rfl, rfl⟩
    go_wp2_with fail
    all_goals go_ret
    all_goals exact ⟨rfl, hb1'⟩

/-! ### the row's frame -/
theorem own : ownKnob Try.prog.godebug = none := by kernel_rfl
theorem laidOut : laidOutB Try.prog = true := by kernel_rfl

set_option maxRecDepth 100000 in
theorem lifted (os : Os) (started : os.Started) (H : Type) (enc : TypeId × Value → H) :
    ReturnsInHanded {} Try.checked os 13 .any (Rows.shareHidesSpec.pre6 enc Try.prog Try.f13 Rows.shareHidesRow.domain false) (Rows.shareHidesSpec.post enc Try.prog Try.f13 false true false false) := by
  refine returnsInHanded_of_change (C := Try.checked) own started (by kernel_rfl) Try.func13
    (ChangeSpec.witness6 (enc := enc) (C := Try.checked) false ⟨#[], #[.int .i64 0, .slice none 0 0, .int .i64 0, .int .i64 0, .int .i64 0], []⟩ 8 (by kernel_rfl) (by kernel_rfl) (by kernel_rfl) (by kernel_rfl)) ?_
  intro W base args ds gs before hval0 hW hcnd _
  have hval : ∀ (j : Nat) t v, Try.f13.params[j]? = some t → args[j]? = some v → Value.okWide Try.prog W .any base t v := hval0
  have hW' := hW
  obtain ⟨p, q, hA0, hV, rfl, hfz, hnd⟩ := hW
  have hA : DataW.TrodAll enc Try.prog W 0 (fun _ => true) true Try.f13.params.toList args.toList ds p := hA0
  rw [Try.params13] at hA hval
  obtain ⟨v0, vs0, d0, ds0, p0, q0, hargs, rfl, rfl, h0, r0⟩ := trodAll_cons hA
  obtain ⟨v1, vs1, d1, ds1, p1, q1, rfl, rfl, rfl, h1, r1⟩ := trodAll_cons r0
  obtain ⟨v2, vs2, d2, ds2, p2, q2, rfl, rfl, rfl, h2, r2⟩ := trodAll_cons r1
  obtain ⟨v3, vs3, d3, ds3, p3, q3, rfl, rfl, rfl, h3, r3⟩ := trodAll_cons r2
  obtain ⟨v4, vs4, d4, ds4, p4, q4, rfl, rfl, rfl, h4, r4⟩ := trodAll_cons r3
  obtain ⟨rfl, rfl, rfl⟩ := trodAll_nil r4
  obtain rfl : args = #[v0, v1, v2, v3, v4] := by cases args; simp_all
  obtain ⟨rfl, rfl⟩ := trodVars_none hV
  have k0 := h0
  have lt0 : ∀ x ∈ p0, x.block < W.heap.size := by obtain ⟨m, hm⟩ := k0; exact DataW.trod_lt m _ _ _ hm
  obtain ⟨x0, rfl, w0⟩ := arg_int Try.underlying3 (hval 0 3 v0 rfl rfl) h0
  have k1 := h1
  have lt1 : ∀ x ∈ p1, x.block < W.heap.size := by obtain ⟨m, hm⟩ := k1; exact DataW.trod_lt m _ _ _ hm
  obtain ⟨A1, c1, x1, rfl, hc1, hm1, hA1, w1⟩ := arg_Ints Try.underlying36 Try.underlying3 (by kernel_rfl) (hval 1 36 v1 rfl rfl) h1
  have k2 := h2
  have lt2 : ∀ x ∈ p2, x.block < W.heap.size := by obtain ⟨m, hm⟩ := k2; exact DataW.trod_lt m _ _ _ hm
  obtain ⟨x2, rfl, w2⟩ := arg_int Try.underlying3 (hval 2 3 v2 rfl rfl) h2
  have k3 := h3
  have lt3 : ∀ x ∈ p3, x.block < W.heap.size := by obtain ⟨m, hm⟩ := k3; exact DataW.trod_lt m _ _ _ hm
  obtain ⟨x3, rfl, w3⟩ := arg_int Try.underlying3 (hval 3 3 v3 rfl rfl) h3
  have k4 := h4
  have lt4 : ∀ x ∈ p4, x.block < W.heap.size := by obtain ⟨m, hm⟩ := k4; exact DataW.trod_lt m _ _ _ hm
  obtain ⟨x4, rfl, w4⟩ := arg_int Try.underlying3 (hval 4 3 v4 rfl rfl) h4
  clear hA0 hval0
  refine (walk W x0 w0 A1 c1 x1 hc1 hm1 hA1 w1 x2 w2 x3 w3 x4 w4).mono fun e W' ⟨he, bel⟩ => ?_
  subst he
  exact ⟨_, rfl, _, _, _, [], _, [], hW', trodAll_mk1 (shut_bool Try.underlying4 _), (trodAll_cons_mk (Below.trod laidOut (by kernel_rfl) (of_decide_eq_true (by kernel_rfl)) k0 bel lt0) (trodAll_cons_mk (Below.trod laidOut (by kernel_rfl) (of_decide_eq_true (by kernel_rfl)) k1 bel lt1) (trodAll_cons_mk (Below.trod laidOut (by kernel_rfl) (of_decide_eq_true (by kernel_rfl)) k2 bel lt2) (trodAll_cons_mk (Below.trod laidOut (by kernel_rfl) (of_decide_eq_true (by kernel_rfl)) k3 bel lt3) (trodAll_cons_mk (Below.trod laidOut (by kernel_rfl) (of_decide_eq_true (by kernel_rfl)) k4 bel lt4) trodAll_mk0))))), rfl, bel.frame _, fun h => by cases h⟩

theorem over : Rows.shareHidesRow.holds Try.pinned (OpenSpec.ofChange Rows.shareHidesSpec) :=
  OpenClaim.holds_of_wide 13 Try.f13 rfl rfl rfl rfl rfl rfl rfl ⟨rfl, rfl, rfl, rfl, rfl⟩ rfl rfl rfl rfl rfl (by kernel_rfl) Try.func13 (by kernel_rfl)
    (of_decide_eq_true (by kernel_rfl)) (by unfold Func.isWrapper; first | (rw [if_pos (by decide +kernel)]; kernel_rfl) | (rw [if_neg (by decide +kernel)]; exact ⟨rfl, rfl⟩))
    (fun os started H enc _ => lifted os started H enc)

theorem proved : Rows.ShareHidesSaid := over
#print axioms proved

end Go.Proofs.Ytpmgmlmpiofnpaa.shareHides
