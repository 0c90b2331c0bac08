/- TopVault: the walk. -/
import Derived.Test.YthkaaheeblehhaaGreatDoorTvLaw
import Derived.Test.YthkaaheeblehhaaGreatDoorTopOne
import Derived.Test.YthkaaheeblehhaaGreatDoorDigTup
import Derived.WalkKit
import Derived.WalkLawsBesides
import Derived.WalkSpells
import Derived.RegionTactic
import Derived.Deep.RegionHeld3
import Derived.Deep.QuietTactic
import Derived.BigQuiet
import Derived.Deep.CutBlock
import Derived.Deep.DeepCutAuto
import Derived.Outline
namespace Go.Proofs.YthkaaheeblehhaaGreatDoor.topVault
open Go.ChangeShapes Go.WideShapes Go.ChangeAt Go.RowKit Go.Joins Go.Deep
set_option linter.unusedVariables false

theorem same_errW (n : Int) (W : World) (h : HG W) : Calls Tryz.prog 8 #[errV n, .int .i64 n] W fun e w' => e = .returned (.bool true) ∧ Below W.heap.size W w' :=
  (same_err n W W (DG.refl h)).mono fun e w' ⟨h1, h2⟩ => ⟨h1, h2.2⟩
set_option maxHeartbeats 12800000 in
set_option maxRecDepth 100000 in
theorem walk (w : World) (hgt : HG w ∧ TT w) (A : Option Addr) (c : Nat) (l : List (List Va)) (hn1 : l.length ≤ c) (hm1 : c ≤ maxLen) (hA : Many Vals w A l) (hokl : ∀ i, i < l.length → okL (gg l i))
    (B : Option Addr) (d : Nat) (secs : List Int) (hn2 : secs.length ≤ d) (hm2 : d ≤ maxLen) (hB : Ints w B secs) (_ : ∀ i, i < secs.length → I64 (gi secs i)) (hr2 : secs.length * 8 ≤ reachBytes)
    (C : Option Addr) (f : Nat) (r : List Int) (hn3 : r.length ≤ f) (hm3 : f ≤ maxLen) (hC : Ints w C r) (_ : ∀ i, i < r.length → I64 (gi r i)) (hr3 : r.length * 8 ≤ reachBytes) (N0 : Int) (hN0 : I64 N0) :
    Calls Tryz.prog 5 #[.slice A l.length c, .slice B secs.length d, .slice C r.length f, .int .i64 N0] w fun e w' => e = .returned (.bool true) ∧ Below w.heap.size w w' := by
  obtain ⟨hg, ht⟩ := hgt
  have htt : ∀ W, Below w.heap.size w W → TT W := fun W h => tab_stays (g := 2) (by kernel_rfl) ht h (Nat.le_refl _)
  have hmr : r.length ≤ maxLen := Nat.le_trans hn3 hm3
  have hr63 : r.length ≤ 1000000000000000 := by unfold reachBytes at hr3; omega
  have HA := Lib.hid hA; have HOKL := Lib.hid hokl; have HB := Lib.hid hB; have HC := Lib.hid hC; have HG0 := Lib.hid hg; have HTT := Lib.hid htt; have HMR := Lib.hid hmr
  clear hA hokl hB hC hg htt ht hr2 hr3 hmr
  by_cases hval : 1 ≤ N0 ∧ N0 ≤ 7 ∧ 1 ≤ (r.length : Int) + 1 ∧ (r.length : Int) + 1 ≤ N0
  · obtain ⟨v1, v2, v3, v4⟩ := hval
    obtain ⟨mm, rfl⟩ := Int.eq_ofNat_of_zero_le (show 0 ≤ N0 by omega)
    have hr6 : r.length ≤ 6 := by omega
    have hrm : r.length + 1 ≤ mm := by omega
    have hm7 : mm ≤ 7 := by omega
    have cn := fun (W : World) (hW : Below w.heap.size w W) => vtnew_okX (X := fun b => (Value.slice none 0 0).ownBlock = some b) mm (r.length + 1) (by omega) (by omega) (by omega) W (base := w.heap.size) hW.size
    simp only [Int.natCast_add, Int.natCast_one] at cn
    have CN := Lib.hid cn
    clear cn v1 v2 v3 v4
    go_enter Tryz.func5, Tryz.ntmps5
    go_upto_block 0 with (first
      | (go_at_call 21; refine (topOne.one_any _).mono ?_; rintro e w1 ⟨rfl, hb1⟩; have HB1 := Lib.hid hb1; clear hb1)
      | (go_at_call 22; refine (CN.out _ HB1.out).mono ?_; rintro e w2 ⟨p, M, rfl, hv2, hb2⟩; have HJ0 : Hid (TM w w2 p M 0 mm (r.length + 1) (fun _ => none) none 0 [] none 0 []) := Lib.hid ⟨HG0.out, bcl HB1.out hb2, hv2, OStrs.nil, Win.nil⟩; clear hv2 hb2))
    clear HB1 CN
    go_cut [12, 13, 14, 15, 16, 17, 18] (fun s12 s13 _ _ _ _ _ wx => ∃ (n : Nat) (K : ByteArray → Option (List Int)) (A1 : Option Addr) (c1 : Nat) (N : List ByteArray) (A2 : Option Addr) (c2 : Nat) (Ks : List Int), N.length ≤ 15 ∧ s12 = .slice A1 N.length c1 ∧ s13 = .slice A2 Ks.length c2 ∧ Hid (TM w wx p M n mm (r.length + 1) K A1 c1 N A2 c2 Ks) ∧ Hid (RelT n K N Ks r) ∧ Hid (∀ i, i < N.length → (gs N i).size ≤ 5))
    case first =>
      go_wp2_with fail
      go_loopw [12, 13, 14, 15, 16, 17, 18] (fun s12 s13 s14 _ _ _ _ wr => ∃ (k n : Nat) (K : ByteArray → Option (List Int)) (A1 : Option Addr) (c1 : Nat) (N : List ByteArray) (A2 : Option Addr) (c2 : Nat) (Ks : List Int), k ≤ l.length ∧ k ≤ 15 ∧ N.length ≤ k ∧ s14 = .int .i64 k ∧ s12 = .slice A1 N.length c1 ∧ s13 = .slice A2 Ks.length c2 ∧ Hid (TM w wr p M n mm (r.length + 1) K A1 c1 N A2 c2 Ks) ∧ Hid (RelT n K N Ks r) ∧ Hid (∀ i, i < N.length → (gs N i).size ≤ 5)) (fun _ _ s14 _ _ _ _ _ => 16 - (intOf s14).toNat)
      case atStart => exact ⟨0, 0, _, none, 0, [], none, 0, [], Nat.zero_le _, by omega, Nat.le_refl _, rfl, rfl, rfl, HJ0, RelT.nil r, Lib.hid (fun i hi => by simp at hi)⟩
      case round =>
        clear HJ0
        obtain ⟨k, n, K, A1, c1, N, A2, c2, Ks, hkl, hk15, hNk, rfl, rfl, rfl, HJ, HREL, HNS⟩ := hrel
        by_cases t3 : k < l.length ∧ k < secs.length ∧ k < 15
        · obtain ⟨ta, tb, tc⟩ := t3
          obtain ⟨wo, hwo⟩ : ∃ wo : World, wo = wr := ⟨_, rfl⟩
          subst hwo
          obtain ⟨ba, oa, T, cT, rfl, hbl, c0, hq1, hq2, hq3⟩ := HA.out.vat ta
          obtain ⟨bb, ob, rfl, hbl2, cx⟩ := HB.out.at_ tb
          have hok := HOKL.out k ta
          have i0 : (0 : Int) ≤ (k : Int) := by omega
          have i1 : (k : Int) < (l.length : Nat) := by omega
          have i2 : (k : Int) < (secs.length : Nat) := by omega
          have i3 : (k : Int) < 15 := by omega
          have d0 := (HJ.out.b.cell (p := ⟨ba, oa + k, none⟩) hbl).trans c0
          have cd := digtuple_any T cT (gg l k) (Nat.le_trans hq2 hq3) hok wo (hq1.below HJ.out.b (Nat.le_refl _)) (HTT.out wo HJ.out.b)
          have cxs := fun (W : World) (hW : Below w.heap.size w W) => (hW.cell (p := ⟨bb, ob + k, none⟩) hbl2).trans cx
          have hrg := hs_range (lin (gg l k)) (lin (gg l k)).size
          have HCX := Lib.hid cxs
          have hn20 : N.length ≤ 1000000 := by omega
          have hk20 : Ks.length ≤ 1000000 := by have := HREL.out.len.1; omega
          generalize gi secs k = x at *
          clear cxs cx c0 hq1 hq2 hq3 hok
          by_cases e0 : liE (gg l k) = 0
          · rw [e0, if_pos rfl, eV_zero] at cd
            obtain ⟨v, hv⟩ : ∃ v : Nat, dgt (gg l k) = (v : Int) := ⟨(dgt (gg l k)).toNat, by unfold dgt; omega⟩
            have hv2 : v ≤ 10006 := by have : dgt (gg l k) ≤ 10006 := hrg.2; omega
            rw [hv] at cd
            have CD := Lib.hid cd
            clear cd hv hrg e0
            go_wp2_with (go_at_call 23; refine CD.out.mono ?_; rintro e w5 ⟨rfl, hb5⟩; have HJ5 := Lib.hid (HJ.out.keep hb5); clear hb5)
            clear HJ CD
            go_loopw [15, 17, 18] (fun s15 s17 _ wx => ∃ (v : Nat) (nm : ByteArray), s15 = .int .i64 v ∧ s17 = .string nm ∧ Hid (nmB v nm.size) ∧ wx = w5) (fun s15 _ _ _ => (intOf s15).toNat)
            case atStart => exact ⟨v, ⟨#[]⟩, rfl, rfl, Lib.hid (.inl ⟨rfl, hv2⟩), rfl⟩
            case round =>
              obtain ⟨v, nm, rfl, rfl, HNB, rfl⟩ := hrel
              obtain ⟨z1, z2⟩ := HNB.out.le
              by_cases hv0 : 0 < v
              · have v0 : (0 : Int) < (v : Int) := by omega
                have v1 : (v : Int) ≤ 10006 := by omega
                have q0 : (0 : Int) ≤ (v : Int) % 10 := by omega
                have q1 : (v : Int) % 10 < 10 := by omega
                have hst := HNB.out.step hv0
                have hsz : (({ data := #[48, 49, 50, 51, 52, 53, 54, 55, 56, 57] } : ByteArray).extract (v % 10) (v % 10 + 1) ++ nm).size = nm.size + 1 := by
                  rw [ByteArray.size_append, ByteArray.size_extract]
                  show min (v % 10 + 1) 10 - v % 10 + nm.size = nm.size + 1
                  omega
                have HST := Lib.hid hst; have HSZ := Lib.hid hsz
                clear hst hsz
                go_wp2_with fail
                refine ⟨⟨v / 10, _, by go_num, rfl, Lib.hid ?_, by trivial⟩, ?_⟩
                · rw [HSZ.out]; exact HST.out
                · simp [intOf]; omega
              · obtain rfl : v = 0 := by omega
                have z3 : nm.size ≤ maxLen := Nat.le_trans z1 (by decide)
                have sx := HCX.out wr HJ5.out.b
                have hC5 := HC.out.below HJ5.out.b (Nat.le_refl _)
                by_cases hp : vpE n mm (r.length + 1) K nm x r = 0
                · have cp := vtput_okX (w := wr) HJ5.out.xlt HJ5.out.v nm x C f r hC5 hp
                  have hKn := vpE_zero hp
                  have CP := Lib.hid cp; have HKN := Lib.hid hKn.2.1
                  clear cp hp hC5 hKn
                  go_wp2_with (first
                    | (go_at_call 24; refine CP.out.mono ?_; rintro e w6 ⟨rfl, hv6, hc6⟩; have HJ6 := Lib.hid (HJ5.out.vt hv6 hc6); clear hv6 hc6)
                    | (at_builtin; refine wpList_append_strG rfl _ _ rfl w.heap.size A1 c1 N N.length rfl rfl (HJ6.out.keep (bal1 _ _)).hs w6.heap.size nm rfl ((AtB.new _ _ _).cell (i := 0) rfl) hn20 (le_al HJ6.out.v.hb _) ?_; intro A7 c7 w7 h71 h72; have HJ7 := Lib.hid ((HJ6.out.keep (bal1 _ _)).hs_ h71 h72); have sx7 := HCX.out w7 HJ7.out.b; clear h71 h72)
                    | (at_builtin; refine wpList_append_wk rfl _ _ rfl w.heap.size A2 c2 Ks rfl (HJ7.out.keep (bal1 _ _)).ks w7.heap.size x rfl ((AtB.new _ _ _).cell (i := 0) rfl) hk20 (le_al HJ7.out.v.hb _) ?_; intro b8 o8 c8 w8 h81 h82 h83; have HJ8 := Lib.hid ((HJ7.out.keep (bal1 _ _)).ks_ h81 h82 h83); clear h81 h82 h83))
                  go_roundw
                  case rel =>
                    have hrel8 := HREL.out.add (s := nm) x HKN.out
                    refine ⟨k + 1, n + 1, _, A7, c7, N ++ [nm], some ⟨b8, o8, none⟩, c8, Ks ++ [x], by omega, by omega, by simp; omega, by go_num, by simp, by simp, HJ8, Lib.hid hrel8, Lib.hid fun i hi => ?_⟩
                    rw [List.length_append, List.length_singleton] at hi
                    rcases Nat.lt_or_ge i N.length with hl | hl
                    · rw [gs_app_l hl]; exact HNS.out i hl
                    · obtain rfl : i = N.length := by omega
                      rw [gs_app_e]; exact z1
                  case measure => simp [intOf]; omega
                · have cp := vtput_no HJ5.out.v nm z3 x C f r HMR.out hC5 hp
                  generalize vpE n mm (r.length + 1) K nm x r = E at *
                  have CP := Lib.hid cp
                  clear cp hp hC5
                  go_wp2_with (go_at_call 24; refine CP.out.mono ?_; rintro e w6 ⟨rfl, hb6⟩)
                  go_roundw
                  case rel => exact ⟨k + 1, n, K, A1, c1, N, A2, c2, Ks, by omega, by omega, by omega, by go_num, rfl, rfl, Lib.hid (HJ5.out.keep hb6), HREL, HNS⟩
                  case measure => simp [intOf]; omega
          · have hne : eV (liE (gg l k)) = errV (liE (gg l k)) := eV_of e0
            rw [if_neg e0, hne] at cd
            generalize liE (gg l k) = E at *
            have CD := Lib.hid cd
            clear cd hne hrg e0
            go_wp2_with (go_at_call 23; refine CD.out.mono ?_; rintro e w5 ⟨rfl, hb5⟩; have HJ5 := Lib.hid (HJ.out.keep hb5); clear hb5)
            go_roundw
            case rel => exact ⟨k + 1, n, K, A1, c1, N, A2, c2, Ks, by omega, by omega, by omega, by go_num, rfl, rfl, HJ5, HREL, HNS⟩
            case measure => simp [intOf]; omega
        · skip
          have hx : ¬ k < l.length ∨ (k < l.length ∧ ¬ k < secs.length) ∨ (k < l.length ∧ k < secs.length ∧ ¬ k < 15) := by omega
          clear t3
          rcases hx with x1 | ⟨x1, x2⟩ | ⟨x1, x2, x3⟩
          · have y1 : decide ((k : Int) < (l.length : Nat)) = false := by simp; omega
            go_wp2_with fail
            go_meet
            case rel => exact ⟨n, K, A1, c1, N, A2, c2, Ks, by omega, rfl, rfl, HJ, HREL, HNS⟩
          · have y1 : (k : Int) < (l.length : Nat) := by omega
            have y2 : decide ((k : Int) < (secs.length : Nat)) = false := by simp; omega
            go_wp2_with fail
            go_meet
            case rel => exact ⟨n, K, A1, c1, N, A2, c2, Ks, by omega, rfl, rfl, HJ, HREL, HNS⟩
          · have y1 : (k : Int) < (l.length : Nat) := by omega
            have y2 : (k : Int) < (secs.length : Nat) := by omega
            have y3 : decide ((k : Int) < 15) = false := by simp; omega
            go_wp2_with fail
            go_meet
            case rel => exact ⟨n, K, A1, c1, N, A2, c2, Ks, by omega, rfl, rfl, HJ, HREL, HNS⟩
    case rest =>
      obtain ⟨n, K, A1, c1, N, A2, c2, Ks, hN15, rfl, rfl, HJ, HREL, HNS⟩ := hcut
      obtain ⟨w5, hw⟩ : ∃ w5 : World, w5 = wc := ⟨_, rfl⟩
      subst hw
      clear HJ0
      go_wp2_with fail
      go_loopw [19, 20, 21, 22, 23, 24, 25, 26, 27] (fun s19 _ _ _ _ _ _ _ _ wr => ∃ i : Nat, i ≤ N.length ∧ s19 = .int .i64 i ∧ Hid (TM w wr p M n mm (r.length + 1) K A1 c1 N A2 c2 Ks)) (fun s19 _ _ _ _ _ _ _ _ _ => N.length - (intOf s19).toNat)
      case atStart => exact ⟨0, Nat.zero_le _, rfl, HJ⟩
      case round =>
        clear HJ
        obtain ⟨i, hi, rfl, HJ⟩ := hrel
        by_cases hlt : i < N.length
        · obtain ⟨wi, hwi⟩ : ∃ wi : World, wi = wr := ⟨_, rfl⟩
          subst hwi
          have hKi := HREL.out.at_ i hlt
          have hs5 := HNS.out i hlt
          have hik : i < Ks.length := by rw [← HREL.out.len.1]; exact hlt
          obtain ⟨bn, on, rfl, hbn, cn⟩ := HJ.out.hs.strs.at_ hlt
          obtain ⟨bk, ok, rfl, hbk, ck⟩ := HJ.out.ks.at_ hik
          have hsz : (gs N i).size ≤ maxLen := Nat.le_trans hs5 (by decide)
          have hok := HJ.out.v.ok _ _ hKi
          have hx0 : inB (gi Ks i) = true := by have := allIn_at hok.2 (i := 0) (by simp); simpa [gi] using this
          have i0 : (0 : Int) ≤ (i : Int) := by omega
          have i1 : (i : Int) < (N.length : Nat) := by omega
          have i2 : (i : Int) < (Ks.length : Nat) := by omega
          have HKI := Lib.hid hKi; have HSZ := Lib.hid hsz; have HX0 := Lib.hid hx0; have HCN := Lib.hid cn; have HCK := Lib.hid ck
          clear hKi hsz hok hx0 hs5 cn ck hik
          generalize gs N i = nm at *
          generalize gi Ks i = x at *
          go_wp2_with fail
          go_loopw [20, 21, 22, 23] (fun s20 s21 _ _ wx => ∃ (j : Nat) (A7 : Option Addr) (c7 : Nat), j ≤ r.length + 1 ∧ s21 = .int .i64 ((mm : Int) - j) ∧ s20 = .slice A7 (downL (x :: r) mm j).length c7 ∧ Hid (OShares wx wi.heap.size A7 c7 (downL (x :: r) mm j)) ∧ Hid (Below wi.heap.size wi wx)) (fun _ s21 _ _ _ => (intOf s21).toNat)
          case atStart => exact ⟨0, none, 0, Nat.zero_le _, by simp, rfl, OShares.nil, Lib.hid (Below.refl _ _)⟩
          case round =>
            obtain ⟨j, A7, c7, hj, rfl, rfl, HO, HBL⟩ := hrel
            have hdl : (downL (x :: r) mm j).length ≤ 1000000 := by rw [downL_length]; omega
            have n7 := (HBL.out.cell (p := ⟨bn, on + i, none⟩) hbn).trans HCN.out
            have hbnr := Nat.lt_of_lt_of_le hbn HBL.out.size
            by_cases hjn : j < r.length + 1
            · have cp := vtpart_ok (HJ.out.v.keep HBL.out) nm HSZ.out (mm - j - 1) (by omega) (x :: r) HKI.out
              have e1 : (((mm - j - 1 : Nat) : Int) + 1) = (mm : Int) - j := by omega
              rw [e1] at cp
              have g1 : (mm : Int) - (r.length : Nat) - 1 < (mm : Int) - (j : Nat) := by omega
              have hsu := downL_succ (x :: r) mm j
              have HSU := Lib.hid hsu
              generalize PM.hor (x :: r) ((mm : Int) - j) = y at *
              have CP := Lib.hid cp
              clear cp e1 hsu
              go_wp2_with (first
                | (go_at_call 25; refine CP.out.mono ?_; rintro e w7 ⟨rfl, hb7⟩; have HB7 := Lib.hid (bcl HBL.out hb7); have HO7 := Lib.hid (HO.out.keep hb7); clear hb7)
                | (at_builtin; refine wpList_append_share rfl _ _ rfl wi.heap.size A7 c7 (downL (x :: r) mm j) rfl ((HO7.out.keep (bal1 _ _)).keep (bal1 _ _)) _ ((mm : Int) - j) y rfl (by simp) (by simp) hdl (le_al (le_al HB7.out.size _) _) ?_; intro A8 c8 w8 ho8 hb8; have HO8 := Lib.hid ho8; have HB8 := Lib.hid ((bal (bal HB7.out _) _).trans hb8); clear ho8 hb8))
              go_roundw
              case rel => exact ⟨j + 1, A8, c8, by omega, by go_num, by rw [downL_length, downL_length], by rw [HSU.out]; exact HO8, HB8⟩
              case measure => simp [intOf]; omega
            · obtain rfl : j = r.length + 1 := by omega
              have hfine := Fine.down (x :: r) (many := mm) (k := r.length + 1) hrm
              have hget := hfine.get (need := r.length + 1) hm7 (by rw [downL_length]; omega)
              have hgt := hfine.tail.get (need := r.length + 1) hm7 (by rw [List.length_tail, downL_length]; omega)
              rw [if_neg (by rw [downL_length]; omega)] at hget
              rw [if_pos (by rw [List.length_tail, downL_length]; omega)] at hgt
              have hcap := HO.out.cap
              have cg := fun (W : World) (hW : Below wi.heap.size wi W) (hS : Shares W A7 (downL (x :: r) mm (r.length + 1))) => vtget_any (HJ.out.v.keep hW) nm HSZ.out A7 c7 (downL (x :: r) mm (r.length + 1)) hcap.1 hcap.2 hS (x :: r) HKI.out
              rw [hget, if_pos rfl, vgV_hor hm7 hget (by simp), hor_zero x r HX0.out] at cg
              have cf := fun (W : World) (B9 : Option Addr) (c9 : Nat) (h1 : (downL (x :: r) mm (r.length + 1)).tail.length ≤ c9) (h2 : c9 ≤ maxLen) (hW : Below wi.heap.size wi W) (hS : Shares W B9 (downL (x :: r) mm (r.length + 1)).tail) => vtget_any (HJ.out.v.keep hW) nm HSZ.out B9 c9 (downL (x :: r) mm (r.length + 1)).tail h1 h2 hS (x :: r) HKI.out
              rw [hgt, if_neg (by decide), List.length_tail] at cf
              have g1 : ¬ (mm : Int) - (r.length : Nat) - 1 < (mm : Int) - ((r.length + 1 : Nat) : Int) := by omega
              have CG := Lib.hid cg; have CF := Lib.hid cf; have HCAP := Lib.hid hcap
              clear cg cf hget hgt hfine hcap
              obtain ⟨S, hS⟩ : ∃ S, S = downL (x :: r) mm (r.length + 1) := ⟨_, rfl⟩
              have HSL := Lib.hid (show S.length = r.length + 1 by rw [hS, downL_length])
              rw [← hS] at CG CF HCAP HO ⊢
              clear hS
              go_wp2_with (go_at_call 26; refine (CG.out _ HBL.out HO.out.shares).mono ?_; rintro e w8 ⟨rfl, hb8⟩; have HB8 := Lib.hid (bcl HBL.out hb8); have HO8 := Lib.hid (HO.out.keep hb8); have n8 := (hb8.cell (p := ⟨bn, on + i, none⟩) hbnr).trans n7; have hbn8 := Nat.lt_of_lt_of_le hbnr hb8.size; clear hb8)
              have hs1 : 1 ≤ S.length := by have := HSL.out; omega
              obtain ⟨g7, cap7, hv7, _, hlt7⟩ := World.ownsRow.form HO8.out (by omega)
              obtain rfl : A7 = some ⟨g7, 0, none⟩ := by injection hv7
              clear hv7
              have hS1 : (1 : Int) ≤ (S.length : Nat) := by omega
              have hSc : (S.length : Int) ≤ (c7 : Nat) := by have := HCAP.out.1; omega
              have hc1 : (1 : Int) ≤ (c7 : Nat) := by omega
              have hc63 : (c7 : Int) ≤ 9223372036854775807 := by have := HCAP.out.2; unfold maxLen at this; omega
              have xx : (x != x) = false := by simp
              have ck8 := (HB8.out.cell (p := ⟨bk, ok + i, none⟩) hbk).trans HCK.out
              have hbk8 := Nat.lt_of_lt_of_le hbk HB8.out.size
              have hgd := HJ.out.hg
              have HGD := Lib.hid hgd
              clear hgd n7 hbnr
              by_cases hc71 : c7 = 1
              · have cf1 := fun (W : World) (hW : Below wi.heap.size wi W) => CF.out W (some ⟨g7, 0, none⟩) 0 (by have := HCAP.out.1; omega) (by decide) hW (fun h0 => by rw [List.length_tail] at h0; have := HCAP.out.1; omega)
                subst hc71
                have CF1 := Lib.hid cf1
                clear cf1 CF
                go_region_held3 (fun w' => w'.cell? ⟨bn, on + i, none⟩ = some (.string nm)) (first | go_keep | exact (hb9.cell (p := ⟨bn, on + i, none⟩) hbn8).trans n8) ((go_at_call 26; refine (CF1.out _ (bdr HB8.out)).mono ?_; rintro e w9 ⟨rfl, hb9⟩))
                have HB9 := Lib.hid (bcl (bdr HB8.out) hb9)
                have ck9 := (hb9.cell (p := ⟨bk, ok + i, none⟩) hbk8).trans ck8
                clear hb9
                go_wp2_with (go_at_call 8; refine (same_errW 5 _ (HGD.out.below HB9.out)).mono ?_; rintro e w10 ⟨rfl, hb10⟩)
                go_roundw
                case rel => exact ⟨i + 1, by omega, by go_num, Lib.hid (HJ.out.keep (bcl HB9.out hb10))⟩
                case measure => simp [intOf]; omega
              · have cf1 := fun (W : World) (hW : Below wi.heap.size wi W) (hO : OShares W wi.heap.size (some ⟨g7, 0, none⟩) c7 S) => CF.out W (some ⟨g7, 2, none⟩) (c7 - 1) (by have := HCAP.out.1; omega) (by have := HCAP.out.2; omega) hW (shares_tail hO HSL.out _ fun g e _ => by injection e with e; injection e with e1; subst e1; rfl)
                have CF1 := Lib.hid cf1
                clear cf1 CF
                go_region_held3 (fun w' => w'.cell? ⟨bn, on + i, none⟩ = some (.string nm)) (first | go_keep | exact (hb9.cell (p := ⟨bn, on + i, none⟩) hbn8).trans n8) ((go_at_call 26; refine (CF1.out _ (bdr HB8.out) (HO8.out.keep (bdr (Below.refl _ _)))).mono ?_; rintro e w9 ⟨rfl, hb9⟩))
                have HB9 := Lib.hid (bcl (bdr HB8.out) hb9)
                have ck9 := (hb9.cell (p := ⟨bk, ok + i, none⟩) hbk8).trans ck8
                clear hb9
                go_wp2_with (go_at_call 8; refine (same_errW 5 _ (HGD.out.below HB9.out)).mono ?_; rintro e w10 ⟨rfl, hb10⟩)
                go_roundw
                case rel => exact ⟨i + 1, by omega, by go_num, Lib.hid (HJ.out.keep (bcl HB9.out hb10))⟩
                case measure => simp [intOf]; omega
        · have y1 : decide ((i : Int) < (N.length : Nat)) = false := by simp; omega
          go_wp2_with fail
          go_ret
          exact ⟨rfl, HJ.out.b⟩
  · have cn := fun (W : World) => vtnew_no N0 ((r.length : Int) + 1) hval W
    have CN := Lib.hid cn
    clear cn hval
    go_enter Tryz.func5, Tryz.ntmps5
    go_wp2_with (first
      | (go_at_call 21; refine (topOne.one_any _).mono ?_; rintro e w1 ⟨rfl, hb1⟩)
      | (go_at_call 22; refine (CN.out _).mono ?_; rintro e w2 ⟨rfl, rfl⟩))
    go_ret
    exact ⟨rfl, hb1⟩
end Go.Proofs.YthkaaheeblehhaaGreatDoor.topVault
