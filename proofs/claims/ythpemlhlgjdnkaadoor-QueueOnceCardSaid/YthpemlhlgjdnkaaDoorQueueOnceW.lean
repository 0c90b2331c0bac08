/- QueueOnce: the walk. -/
import Derived.Test.YthpemlhlgjdnkaaDoorQueLaw
import Derived.Test.YthpemlhlgjdnkaaDoorVRef
import Derived.Test.YthpemlhlgjdnkaaDoorRuleRef
import Derived.Test.YthpemlhlgjdnkaaDoorVOwn
import Derived.Deep.CutBlock
import Derived.Deep.RegionHeld3
import Derived.Test.YthpemlhlgjdnkaaDoorDoor
import Derived.WalkKit
import Derived.WalkLawsBesides
import Derived.WalkSpells
import Derived.RegionTactic
import Derived.Deep.DeepCutAuto
import Derived.Outline
namespace Go.Proofs.YthpemlhlgjdnkaaDoor.queueOnce
open Go.ChangeShapes Go.WideShapes Go.ChangeAt Go.RowKit Go.Maps Go.WideMaps
set_option linter.unusedVariables false

def one : Va := ⟨0, 1, ⟨#[]⟩⟩
theorem ok_one : okL [one] := fun i hi => by
  obtain rfl : i = 0 := by simpa using hi
  decide
theorem lit1 (W : World) {g : Nat} (hg : g = W.heap.size) : Vals (W.alloc (.cells #[.int .i64 0, .int .i64 1, .string ⟨#[]⟩] 28)) (some ⟨g, 0, none⟩) [one] := lit_vals W [one] 28 hg
theorem I1 : I64 1 := by unfold I64; decide
def F1 : Int → Int := fun y => if y = 5 then 1 else 0
theorem F1_5 : F1 5 = 1 := rfl
theorem same_err7 (n : Int) (W : World) (h : HG W) : Calls Tryd.prog 24 #[errV n, .int .i64 n] W fun e w' => e = .returned (.bool true) ∧ Below W.heap.size W w' :=
  (same_err n W W (DG.refl h)).mono fun e w' ⟨h1, h2⟩ => ⟨h1, h2.2⟩
theorem map_app (X : List Ax) (x : Ax) : (X ++ [x]).map (·.1) = X.map (·.1) ++ [x.1] := by simp
set_option maxHeartbeats 3200000 in
set_option maxRecDepth 100000 in
theorem walk (w : World) (hg : HG w) (A : Option Addr) (c : Nat) (l : List Ak) (hc : l.length ≤ c) (hm : c ≤ maxLen) (hA : Aks w A l) (hok : okA l) :
    Calls Tryd.prog 4 #[.slice A l.length c] w fun e w' => e = .returned (.bool true) ∧ Below w.heap.size w w' := by
  have HG0 := Lib.hid hg; have HA := Lib.hid hA; have HOK := Lib.hid hok
  have cq := fun (W : World) (h : w.heap.size ≤ W.heap.size) => qnew W (base := w.heap.size) h
  have CQ := Lib.hid cq
  have cp1 := fun (W : World) (p m : Nat) (B : Addr) (hQ : Que W w.heap.size p none m 0 [] (fun _ => 0)) (hB : Vals W (some B) [one]) =>
    qpush_any w.heap.size p m 0 none [] (fun _ => 0) ⟨5, 1, 0, [one]⟩ I1 (some B) 1 (show ([one] : List Va).length ≤ maxLen by decide) ok_one (by decide) W hQ hB
  have hv1 : puE [] (fun _ => 0) ⟨5, 1, 0, [one]⟩ = 0 := by decide
  rw [hv1, if_pos rfl, if_pos rfl, if_pos rfl, eV_zero] at cp1
  have CP1 := Lib.hid cp1
  have cp2 := fun (W : World) (p m : Nat) (g : Option Nat) (B : Addr) (hQ : Que W w.heap.size p g m 1 [⟨5, 1, 0, [one]⟩] F1) (hB : Vals W (some B) [one]) =>
    qpush_any w.heap.size p m 1 g [⟨5, 1, 0, [one]⟩] F1 ⟨5, 1, 0, [one]⟩ I1 (some B) 1 (show ([one] : List Va).length ≤ maxLen by decide) ok_one (by decide) W hQ hB
  have hv2 : puE [⟨5, 1, 0, [one]⟩] F1 ⟨5, 1, 0, [one]⟩ = 7 := by decide
  rw [hv2, if_neg (by decide), if_neg (by decide), if_neg (by decide), eV_of (by decide)] at cp2
  have CP2 := Lib.hid cp2
  have cn := fun (W : World) (p m : Nat) (g : Option Nat) (hQ : Que W w.heap.size p g m 1 [⟨5, 1, 0, [one]⟩] F1) => qnext_ok w.heap.size p m 1 g _ F1 5 (by decide) (by decide) W hQ
  rw [F1_5] at cn
  have CN := Lib.hid cn
  have cc := fun (W : World) (p m : Nat) (g : Option Nat) (hQ : Que W w.heap.size p g m 1 [⟨5, 1, 0, [one]⟩] F1) => qcount_any w.heap.size p m 1 g _ F1 W hQ
  have CC := Lib.hid cc
  clear hg hA hok cq cp1 cp2 hv1 hv2 cn cc
  go_enter Tryd.func4, Tryd.ntmps4
  go_wp2_with fail
  refine (CQ.out _ (Nat.le_refl _)).mono ?_
  rintro e w1 ⟨p, m, rfl, hq1, hb1, _, _⟩
  have HQ1 := Lib.hid (hq1.keep (bal (bal1 w1 (.cells #[.int .i64 0, .int .i64 1, .string ⟨#[]⟩] 28)) (.cells #[.int .i64 5, .int .i64 1, .int .i64 0, .slice (some ⟨w1.heap.size, 0, none⟩) 1 1] 31)))
  have hbb : w1.heap.size + 1 < ((w1.alloc (.cells #[.int .i64 0, .int .i64 1, .string ⟨#[]⟩] 28)).alloc (.cells #[.int .i64 5, .int .i64 1, .int .i64 0, .slice (some ⟨w1.heap.size, 0, none⟩) 1 1] 31)).heap.size := by simp
  have HV1 := Lib.hid (Sl.alloc (lit1 w1 rfl) (.cells #[.int .i64 5, .int .i64 1, .int .i64 0, .slice (some ⟨w1.heap.size, 0, none⟩) 1 1] 31))
  have HB1 := Lib.hid (bal (bal hb1 (.cells #[.int .i64 0, .int .i64 1, .string ⟨#[]⟩] 28)) (.cells #[.int .i64 5, .int .i64 1, .int .i64 0, .slice (some ⟨w1.heap.size, 0, none⟩) 1 1] 31))
  have hab := AtB.new (w1.alloc (.cells #[.int .i64 0, .int .i64 1, .string ⟨#[]⟩] 28)) #[.int .i64 5, .int .i64 1, .int .i64 0, .slice (some ⟨w1.heap.size, 0, none⟩) 1 1] 31
  have HAB := Lib.hid hab
  have hp1 := hq1.pkin.lt
  have hm1 := hq1.map.lt
  have hz1 : w1.heap.size + 1 ≠ p := by omega
  have hz2 : w1.heap.size + 1 ≠ m := by omega
  have hz3 : w1.heap.size ≠ p := by omega
  have hz4 : w1.heap.size ≠ m := by omega
  have HZ := Lib.hid (And.intro hz1 (And.intro hz2 (And.intro hz3 hz4)))
  clear hq1 hb1 hbb hab hz1 hz2 hz3 hz4
  go_wp2_with fail
  refine (CP1.out _ p m ⟨w1.heap.size, 0, none⟩ HQ1.out HV1.out).mono ?_
  rintro e w2 ⟨rfl, g2, hq2, hc2, _⟩
  have HQ2 : Hid (Que w2 w.heap.size p g2 m 1 [⟨5, 1, 0, [one]⟩] F1) := Lib.hid hq2
  have nom : ¬ QM p none m (w1.heap.size + 1) := fun h => by
    obtain ⟨z1, z2, z3, z4⟩ := HZ.out
    rcases h with h | h | h
    · exact z1 h
    · cases h
    · exact z2 h
  have nom2 : ¬ QM p none m w1.heap.size := fun h => by
    obtain ⟨z1, z2, z3, z4⟩ := HZ.out
    rcases h with h | h | h
    · exact z3 h
    · cases h
    · exact z4 h
  have hsz : (w1.alloc (.cells #[.int .i64 0, .int .i64 1, .string ⟨#[]⟩] 28)).heap.size = w1.heap.size + 1 := Array.size_push _
  have hab := HAB.out
  rw [hsz] at hab
  have hab2 := hab.chs hc2 nom
  have HV2 := Lib.hid (vals_stay _ _ _ _ hc2.size (fun a ha => by cases ha; exact hc2.block _ (by simp; omega) nom2) HV1.out)
  have HB2 := Lib.hid (HB1.out.trans (hc2.below HQ1.out.own HQ1.out.hb))
  have k0 := hab2.cell (i := 0) rfl
  have k1 := hab2.cell (i := 1) rfl
  have k2 := hab2.cell (i := 2) rfl
  have k3 := hab2.cell (i := 3) rfl
  clear hq2 hc2 nom nom2 hsz hab hab2
  go_wp2_with fail
  refine (CP2.out _ p m g2 ⟨w1.heap.size, 0, none⟩ HQ2.out HV2.out).mono ?_
  rintro e w3 ⟨rfl, g3, hq3, hc3, _⟩
  have HQ3 : Hid (Que w3 w.heap.size p g3 m 1 [⟨5, 1, 0, [one]⟩] F1) := Lib.hid hq3
  have HB3 := Lib.hid (HB2.out.trans (hc3.below HQ2.out.own HQ2.out.hb))
  have HG3 := Lib.hid (HG0.out.below HB3.out)
  clear hq3 hc3 k0 k1 k2 k3
  go_upto_block 0 with (first
    | (go_at_call 23; refine (CN.out _ _ _ _ HQ3.out).mono ?_; rintro e w' ⟨rfl, rfl⟩)
    | (go_at_call 24; refine (same_err7 _ _ HG3.out).mono ?_; rintro e w4 ⟨rfl, hb4⟩; have HQ4 := Lib.hid (HQ3.out.keep hb4); have HB4 := Lib.hid (bcl HB3.out hb4); have hz4 := HB4.out.size; clear hb4)
    | (go_at_call 25; refine (CC.out _ _ _ _ HQ4.out).mono ?_; rintro e w' ⟨rfl, rfl⟩)
    | (go_at_call 21; refine (CQ.out _ hz4).mono ?_; rintro e w5 ⟨p5, m5, rfl, hq5, hb5, _, _⟩; have HJ0 : Hid (QJ w w5 p5 m5 0 none [] (fun _ => 0) none 0 []) := Lib.hid ⟨HG0.out, bcl HB4.out hb5, hq5, OWX.nil, fun b hb => by simp [Value.ownBlock] at hb⟩; clear hq5 hb5))
  clear HQ1 HV1 HB1 HAB HZ HQ2 HV2 HB2 HQ3 HB3 HG3 HQ4 HB4 hz4 CQ CP1 CP2 CN CC hp1 hm1
  go_cut [10] (fun s10 wx => ∃ (n : Nat) (g : Option Nat) (F : Int → Int) (A' : Option Addr) (c' : Nat) (X : List Ax), s10 = .slice A' X.length c' ∧ X.length ≤ 30 ∧ Hid (QJ w wx p5 m5 n g (X.map (·.1)) F A' c' X) ∧ Hid (Hist (X.map (·.1)) F))
  case first =>
    go_wp2_with fail
    go_loopw [10, 11] (fun o i wr => ∃ (k n : Nat) (g : Option Nat) (F : Int → Int) (A' : Option Addr) (c' : Nat) (X : List Ax), k ≤ 60 ∧ k ≤ l.length ∧ n ≤ k ∧ i = .int .i64 k ∧ o = .slice A' X.length c' ∧ Hid (QJ w wr p5 m5 n g (X.map (·.1)) F A' c' X) ∧ Hid (Hist (X.map (·.1)) F)) (fun _ i _ => 61 - (intOf i).toNat)
    case atStart => exact ⟨0, 0, none, _, none, 0, [], by omega, Nat.zero_le _, Nat.zero_le _, rfl, rfl, HJ0, Hist.nil⟩
    case round =>
      obtain ⟨k, n, g, F, A', c', X, hk60, hkl, hnk, rfl, rfl, HJ, HH⟩ := hrel
      have hx30 : X.length ≤ 30 := by have := HJ.out.q.len; rwa [List.length_map] at this
      by_cases t1 : k < l.length
      · by_cases t2 : k < 60
        · obtain ⟨b, off, B, C, rfl, hbl, c0, c1, c2, c3, hv, hb1, hb2⟩ := HA.out.at_ t1
          obtain ⟨ok1, ok2, ok3, ok4⟩ := HOK.out k t1
          have hbj := HJ.out.b
          have d0 := (hbj.cell (p := ⟨b, off + k * 4, none⟩) hbl).trans c0
          have d1 := (hbj.cell (p := ⟨b, off + k * 4 + 1, none⟩) hbl).trans c1
          have d2 := (hbj.cell (p := ⟨b, off + k * 4 + 2, none⟩) hbl).trans c2
          have d3 := (hbj.cell (p := ⟨b, off + k * 4 + 3, none⟩) hbl).trans c3
          have i0 : (0 : Int) ≤ (k : Int) := by omega
          have i1 : (k : Int) < (l.length : Nat) := by omega
          generalize ak l k = a at *
          have hml : a.t.length ≤ maxLen := by omega
          have cp := qjpush HJ.out a ok3 B C hml ok1 (by omega) (hv.below hbj (Nat.le_refl _))
          by_cases e0 : puE (X.map (·.1)) F a = 0
          · rw [e0, if_pos rfl, if_pos rfl, if_pos rfl, eV_zero] at cp
            obtain ⟨z1, z2, z3⟩ := puE_zero e0
            obtain ⟨_, _, z4, _⟩ := qcE_zero z1
            have HP := Lib.hid (HH.out.push z2)
            have HV := Lib.hid hv; have HC0 := Lib.hid (And.intro c0 (And.intro c1 (And.intro c2 c3)))
            have HBB := Lib.hid (And.intro hb1 (And.intro hb2 z4))
            have CP := Lib.hid cp
            have hl2 : X.length ≤ 1000000 := by omega
            have hx29 : X.length ≠ 30 := by rwa [List.length_map] at z3
            clear cp e0 z1 z2 z3 z4 hv c0 c1 c2 c3 hbj ok1 ok2 ok3 ok4 hml hb1 hb2 HH
            go_wp2_with (first
              | (go_at_call 22; refine CP.out.mono ?_; rintro e w2 ⟨rfl, g', hj2⟩; have f0 := (hj2.b.cell (p := ⟨b, off + k * 4, none⟩) hbl).trans HC0.out.1; have f1 := (hj2.b.cell (p := ⟨b, off + k * 4 + 1, none⟩) hbl).trans HC0.out.2.1; have f2 := (hj2.b.cell (p := ⟨b, off + k * 4 + 2, none⟩) hbl).trans HC0.out.2.2.1; have f3 := (hj2.b.cell (p := ⟨b, off + k * 4 + 3, none⟩) hbl).trans HC0.out.2.2.2; have HJ2 := Lib.hid hj2; clear hj2)
              | (at_builtin; refine wpList_append_win rfl _ _ 37 rfl w.heap.size 31 _ 4 48 Tryd.underlying37 infoAsk rfl (by decide) (.slice A' X.length c') X.length (axCells X) rfl (HJ2.out.o.win.keep (bal1 _ _)) w2.heap.size [.int .i64 a.w, .int .i64 a.q, .int .i64 a.d, .slice B a.t.length C] rfl rfl (news_at _ #[.int .i64 a.w, .int .i64 a.q, .int .i64 a.d, .slice B a.t.length C] _) (by simp [Value.oneCell']) hl2 (by decide) (le_al HJ2.out.q.hb _) ?_; intro b4 o4 c4 w4 hW4 hg4 hx4; have HJ4 := Lib.hid (HJ2.out.app (x := (a, B, C)) (Axin.of_arg HV.out HBB.out.1 HBB.out.2.1 HBB.out.2.2 HJ2.out.b) hW4 hg4 hx4); clear hW4 hg4 hx4))
            go_roundw
            case rel => exact ⟨k + 1, n + 1, g', _, some ⟨b4, o4, none⟩, c4, X ++ [(a, B, C)], by omega, by omega, by omega, by go_num, by simp, Lib.hid (by rw [map_app]; exact HJ4.out), Lib.hid (by rw [map_app]; exact HP.out)⟩
            case measure => simp [intOf]; omega
          · rw [if_neg e0, if_neg e0, if_neg e0, eV_of e0] at cp
            generalize puE (X.map (·.1)) F a = E at *
            have CP := Lib.hid cp
            clear cp e0 hv c0 c1 c2 c3 hbj ok1 ok2 ok3 ok4 hml hb1 hb2
            go_wp2_with (go_at_call 22; refine CP.out.mono ?_; rintro e w2 ⟨rfl, g', hj2⟩; have HJ2 := Lib.hid hj2; clear hj2)
            go_roundw
            case rel => exact ⟨k + 1, n, g', F, A', c', X, by omega, by omega, by omega, by go_num, rfl, HJ2, HH⟩
            case measure => simp [intOf]; omega
        · have hf : decide ((k : Int) < 60) = false := by simp; omega
          go_wp2_with fail
          go_meet
          case rel => exact ⟨n, g, F, A', c', X, rfl, hx30, HJ, HH⟩
      · have hf : decide ((k : Int) < (l.length : Nat)) = false := by simp; omega
        go_wp2_with fail
        go_meet
        case rel => exact ⟨n, g, F, A', c', X, rfl, hx30, HJ, HH⟩
  case rest =>
    obtain ⟨n, g, F, A', c', X, rfl, hx30, HJ, HH⟩ := hcut
    go_wp2_with fail
    go_loopw [12, 13, 14, 15, 16] (fun i _ _ _ _ wr => ∃ j : Nat, j ≤ X.length ∧ i = .int .i64 j ∧ Hid (QJ w wr p5 m5 n g ((X.map (·.1)).drop j) F A' c' X)) (fun i _ _ _ _ _ => X.length - (intOf i).toNat)
    case atStart => exact ⟨0, Nat.zero_le _, rfl, by rw [List.drop_zero]; exact HJ⟩
    case round =>
      clear HJ
      obtain ⟨j, hj, rfl, HJ⟩ := hrel
      by_cases hlt : j < X.length
      · have hml : (X.map (·.1)).length = X.length := List.length_map _
        have hdr : (X.map (·.1)).drop j = (ax X j).1 :: (X.map (·.1)).drop (j + 1) := by
          rw [List.drop_eq_getElem_cons (by rw [hml]; exact hlt)]
          congr 1
          simp [ax, List.getD_eq_getElem?_getD, List.getElem?_eq_getElem hlt]
        have hqj := HH.out.q j (by rw [hml]; exact hlt)
        rw [ak_map hlt] at hqj
        rw [hdr] at HJ
        have cp := qjpop HJ.out
        have hct : ∀ k, (cntW ((X.map (·.1)).take k) (ax X j).1.w : Int) ≤ 30 := fun k => by
          have := cntW_le ((X.map (·.1)).take k) (ax X j).1.w
          rw [List.length_take] at this; omega
        have hsc := fun k (hk : k < X.length) => cntW_succ (X.map (·.1)) k (by rw [hml]; exact hk) (ax X j).1.w
        have h5t : (ax X j).1.t.length ≤ maxLen := by
          have := (HJ.out.o.inn _ (ax_mem hlt)).2.1
          have := (HJ.out.o.inn _ (ax_mem hlt)).2.2.1
          omega
        have i0 : (0 : Int) ≤ (j : Int) := by omega
        have i1 : (j : Int) < (X.length : Nat) := by omega
        have cs := fun (W : World) (B1 B2 : Option Addr) (C1 C2 : Nat) (h1 : Vals W B1 (ax X j).1.t) (h2 : Vals W B2 (ax X j).1.t) => same_tuple B1 B2 C1 C2 (ax X j).1.t (ax X j).1.t W h1 h2 h5t
        have CS := Lib.hid (fun (W : World) (B1 B2 : Option Addr) (C1 C2 : Nat) (h1 : Vals W B1 (ax X j).1.t) (h2 : Vals W B2 (ax X j).1.t) => (cs W B1 B2 C1 C2 h1 h2).mono (R' := fun e w' => e = .returned (.bool true) ∧ Below W.heap.size W w') fun e w' ⟨h3, h4⟩ => ⟨by rw [h3]; simp, h4⟩)
        obtain ⟨b, off, rfl, hbl0, _⟩ := HJ.out.o.at_ hlt
        have HCT := Lib.hid hct; have HSC := Lib.hid hsc; have HQJ := Lib.hid hqj; have CP := Lib.hid cp
        have hml2 : X.length ≤ 1000000 := by omega
        clear cp cs hct hsc hqj hdr hml h5t HJ
        go_wp2_with (go_at_call 26; refine CP.out.mono ?_; rintro e w2 ⟨B, C, rfl, hax, hj2⟩; obtain ⟨hbl, c0, c1, c2, c3, hv2⟩ := hj2.o.at2 hlt; have HJ2 := Lib.hid hj2; have HV1 := Lib.hid hax.1; have HV2 := Lib.hid hv2; have HC := Lib.hid (And.intro c0 (And.intro c1 (And.intro c2 c3))); clear hj2 hax hv2)
        obtain ⟨w3, hw3⟩ : ∃ w3, w3 = w2.alloc (.cells #[.int .i64 (ax X j).1.w, .int .i64 (ax X j).1.q, .int .i64 (ax X j).1.d, .slice B (ax X j).1.t.length C] 31) := ⟨_, rfl⟩
        rw [← hw3]
        have hb23 : Below w2.heap.size w2 w3 := by rw [hw3]; exact bal1 _ _
        have hbx : AtB w3 w2.heap.size #[.int .i64 (ax X j).1.w, .int .i64 (ax X j).1.q, .int .i64 (ax X j).1.d, .slice B (ax X j).1.t.length C] 31 := by rw [hw3]; exact AtB.new _ _ _
        have HJ3 := Lib.hid (HJ2.out.keep hb23)
        have hl3 : b < w3.heap.size := Nat.lt_of_lt_of_le hbl hb23.size
        have hl4 : w2.heap.size < w3.heap.size := hbx.lt
        have x0 := hbx.cell (i := 0) rfl
        have x1 := hbx.cell (i := 1) rfl
        have x2 := hbx.cell (i := 2) rfl
        have x3 := hbx.cell (i := 3) rfl
        have p0 := (hb23.cell (p := ⟨b, off + j * 4, none⟩) hbl).trans c0
        have p1 := (hb23.cell (p := ⟨b, off + j * 4 + 1, none⟩) hbl).trans c1
        have p2 := (hb23.cell (p := ⟨b, off + j * 4 + 2, none⟩) hbl).trans c2
        have p3 := (hb23.cell (p := ⟨b, off + j * 4 + 3, none⟩) hbl).trans c3
        have HV3 := Lib.hid (show Vals w3.drew B (ax X j).1.t from Sl.drew (HV1.out.below hb23 (Nat.le_refl _)))
        have HV4 := Lib.hid (show Vals w3.drew (ax X j).2.1 (ax X j).1.t from Sl.drew (HV2.out.below hb23 (Nat.le_refl _)))
        have HX := Lib.hid (And.intro x0 (And.intro x1 (And.intro x2 x3))); have HP := Lib.hid (And.intro p0 (And.intro p1 (And.intro p2 p3)))
        clear hw3 hb23 hbx c0 c1 c2 c3 HC HV1 HV2 HJ2
        generalize w2.heap.size = bx at *
        go_region_held3 (fun w' => (w'.cell? ⟨bx, 0, none⟩ = some (.int .i64 (ax X j).1.w) ∧ w'.cell? ⟨bx, 1, none⟩ = some (.int .i64 (ax X j).1.q) ∧ w'.cell? ⟨bx, 2, none⟩ = some (.int .i64 (ax X j).1.d) ∧ w'.cell? ⟨bx, 3, none⟩ = some (.slice B (ax X j).1.t.length C)) ∧ (w'.cell? ⟨b, off + j * 4, none⟩ = some (.int .i64 (ax X j).1.w) ∧ w'.cell? ⟨b, off + j * 4 + 1, none⟩ = some (.int .i64 (ax X j).1.q) ∧ w'.cell? ⟨b, off + j * 4 + 2, none⟩ = some (.int .i64 (ax X j).1.d) ∧ w'.cell? ⟨b, off + j * 4 + 3, none⟩ = some (.slice (ax X j).2.1 (ax X j).1.t.length (ax X j).2.2))) (first | go_keep | exact ⟨⟨(hb4.cell (p := ⟨bx, 0, none⟩) hl4).trans HX.out.1, (hb4.cell (p := ⟨bx, 1, none⟩) hl4).trans HX.out.2.1, (hb4.cell (p := ⟨bx, 2, none⟩) hl4).trans HX.out.2.2.1, (hb4.cell (p := ⟨bx, 3, none⟩) hl4).trans HX.out.2.2.2⟩, (hb4.cell (p := ⟨b, off + j * 4, none⟩) hl3).trans HP.out.1, (hb4.cell (p := ⟨b, off + j * 4 + 1, none⟩) hl3).trans HP.out.2.1, (hb4.cell (p := ⟨b, off + j * 4 + 2, none⟩) hl3).trans HP.out.2.2.1, (hb4.cell (p := ⟨b, off + j * 4 + 3, none⟩) hl3).trans HP.out.2.2.2⟩) ((go_at_call 27; refine (CS.out _ _ _ _ _ HV3.out HV4.out).mono ?_; rintro e w4 ⟨rfl, hb4⟩))
        have hb34 : Below w3.heap.size w3 w4 := bcl (bdr (Below.refl _ _)) hb4
        have HJ4 := Lib.hid (HJ3.out.keep hb34)
        have hl6 : bx < w4.heap.size := Nat.lt_of_lt_of_le hl4 hb34.size
        have y0 := (hb34.cell (p := ⟨bx, 0, none⟩) hl4).trans HX.out.1
        have y1 := (hb34.cell (p := ⟨bx, 1, none⟩) hl4).trans HX.out.2.1
        have HY := Lib.hid (And.intro y0 y1)
        clear x0 x1 x2 x3 p0 p1 p2 p3 y0 y1 HX HP HV3 HV4 HJ3 hb34 hb4 hl3 hl4 hbl
        go_wp2_with fail
        obtain ⟨wo, hwo⟩ : ∃ wo : World, wo = wr := ⟨_, rfl⟩
        subst hwo
        go_loopw [15, 16] (fun s15 s16 wx => ∃ k : Nat, k ≤ j + 1 ∧ s15 = .int .i64 (cntW ((X.map (·.1)).take k) (ax X j).1.w) ∧ s16 = .int .i64 k ∧ Hid (Below w4.heap.size w4 wx)) (fun _ i _ => j + 2 - (intOf i).toNat)
        case atStart => exact ⟨0, by omega, rfl, rfl, Below.refl _ _⟩
        case round =>
          obtain ⟨k, hk, rfl, rfl, HBL⟩ := hrel
          have hk30 := HCT.out k
          have hjr := HJ4.out.keep HBL.out
          have z0 := (HBL.out.cell (p := ⟨bx, 0, none⟩) hl6).trans HY.out.1
          have z1 := (HBL.out.cell (p := ⟨bx, 1, none⟩) hl6).trans HY.out.2
          by_cases t3 : k ≤ j
          · have hkx : k < X.length := by omega
            have hs := HSC.out k hkx
            rw [ak_map hkx] at hs
            obtain ⟨_, e0, _, _, _, _⟩ := hjr.o.at2 hkx
            have k0 : (0 : Int) ≤ (k : Int) := by omega
            have k1 : (k : Int) < (X.length : Nat) := by omega
            generalize (ax X k).1.w = kw at *
            clear hjr z1
            by_cases e : kw = (ax X j).1.w
            · rw [if_pos e] at hs
              have qe : (kw == (ax X j).1.w) = true := beq_iff_eq.2 e
              have HS := Lib.hid hs
              clear hs e
              go_wp2_with fail
              go_quiet (fail)
              go_wp2_with fail
              go_roundw
              case rel => exact ⟨k + 1, by omega, by first | (rw [HS.out]; go_num) | (have := HS.out; subst this; go_num), by go_num, Lib.hid (bdn HBL.out _)⟩
              case measure => simp [intOf]; omega
            · rw [if_neg e, Nat.add_zero] at hs
              have qe : (kw == (ax X j).1.w) = false := beq_eq_false_iff_ne.2 e
              have HS := Lib.hid hs
              clear hs e
              go_wp2_with fail
              go_quiet (fail)
              go_wp2_with fail
              go_roundw
              case rel => exact ⟨k + 1, by omega, by rw [HS.out]; rfl, by go_num, Lib.hid (bdn HBL.out _)⟩
              case measure => simp [intOf]; omega
          · obtain rfl : k = j + 1 := by omega
            have hqq : ((ax X j).1.q != (cntW ((X.map (·.1)).take (j + 1)) (ax X j).1.w : Int)) = false := by rw [HQJ.out]; simp
            have HJ5 := Lib.hid hjr
            clear hjr z0
            go_wp2_with fail
            go_roundw
            case rel => exact ⟨j + 1, by omega, by go_num, HJ5⟩
            case measure => simp [intOf]; omega
      · obtain rfl : j = X.length := by omega
        have HJX := HJ
        rw [List.drop_of_length_le (by rw [List.length_map]; exact Nat.le_refl _)] at HJX
        have cp := qjpop_no HJX.out
        have CP := Lib.hid cp
        clear cp
        go_wp2_with (first | (go_at_call 26; refine CP.out.mono ?_; rintro e w2 ⟨rfl, hj2⟩; have HJ2 := Lib.hid (hj2.keep (bal1 _ (.cells #[.int .i64 0, .int .i64 0, .int .i64 0, .slice none 0 0] 31))); have HG2 := Lib.hid HJ2.out.hg; clear hj2) | (go_at_call 24; refine (same_err7 _ _ HG2.out).mono ?_; rintro e w4 ⟨rfl, hb4⟩))
        go_ret
        exact ⟨ret_true (by first | rfl | (simp; done) | (simp; omega)), bcl HJ2.out.b hb4⟩
end Go.Proofs.YthpemlhlgjdnkaaDoor.queueOnce
