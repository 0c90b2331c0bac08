/- OnceOnlySaid: OF SEVERAL WHO TRY ONE ALONE DOES IT, outright: for every list of tuples, tuple asked for, and tuple. -/
import Derived.Test.YthpemlhlgjdnkaaOnce2
import Derived.Test.YthpemlhlgjdnkaaVArg
import Derived.Test.YthpemlhlgjdnkaaRows
import Derived.WalkKit
import Derived.ProofKit
import Derived.OpenShut
import Derived.ShutString
import Derived.ChangeOld
import Derived.WalkLawsBesides
import Derived.WalkSpells
import Derived.RegionTactic
import Derived.ChangeAlike
namespace Go.Proofs.Ythpemlhlgjdnkaa.onceOnly
open Go.ChangeShapes Go.WideShapes Go.ChangeAt Go.RowKit
set_option linter.unusedVariables false

def vAny : Va := ⟨2, 0, ⟨#[]⟩⟩
def vNum (n : Int) : Va := ⟨0, n, ⟨#[]⟩⟩
theorem oc1 : ocE [vAny] [vNum 1] = 0 := by decide
theorem oc2 : ocE [vAny] [vNum 2] = 0 := by decide
theorem okA : okL [vAny] := fun i hi => by
  obtain rfl : i = 0 := by simpa using hi
  decide
theorem okN (n : Int) : okL [vNum n] := fun i hi => by
  obtain rfl : i = 0 := by simpa using hi
  show (ByteArray.mk #[]).size ≤ maxLen
  decide
theorem cn0 : cnt [vAny] [] 0 = 0 := rfl
theorem cn1 : cnt [vAny] [[vNum 1]] 1 ≠ 0 := by decide
theorem lit1 (W : World) (v : Va) {g : Nat} (hg : g = W.heap.size) : Vals (W.alloc (.cells #[.int .i64 v.k, .int .i64 v.n, .string v.s] 23)) (some ⟨g, 0, none⟩) [v] := lit_vals W [v] 23 hg
theorem len_fit {a x : List Va} (h : fitB a x = true) : x.length = a.length := (fitB_true.1 h).1.symm
theorem cnt_one {a x : List Va} (h : fitB a x = true) : cnt a [x] 1 = 1 := by
  have : gg [x] 0 = x := rfl
  simp [cnt, this, h]
theorem fin_one {a x : List Va} (hl : liE a = 0) (h : fitB a x = true) : finE a [x] = 0 := by
  have : ¬ plc a [x] < 0 := fun hn => by
    have := idx_neg.1 hn 0 (by simp)
    simp [gg, h] at this
  rw [finE, if_neg (by simp [hl]), if_neg this]
/-- a change where just one fits -/
theorem change_one (base p : Nat) (g : Option Nat) (x : List Va) (A : Option Addr) (c : Nat) (a : List Va) (B : Option Addr) (d : Nat) (t : List Va) (hm : a.length ≤ maxLen) (hm2 : t.length ≤ maxLen) (ha : okL a) (ht : okL t) (h : ocE a t = 0) (hx : fitB a x = true) (w : World) (hA : Vals w A a) (hB : Vin w base B t) (hS : Spc w base p g [x]) :
    Calls Try.prog 27 #[.pointer (some ⟨p, 0, none⟩), .slice A a.length c, .slice B t.length d] w fun e w' => ∃ (B2 : Option Addr) (C : Nat) (g' : Option Nat), e = .returned (.tuple #[.slice B2 a.length C, .nilIface]) ∧ Spc w' base p g' [t] ∧ Chg p g w w' := by
  have hch : chE a t [x] = 0 := by rw [chE, if_neg (by simp [h]), fin_one (ocE_zero h).1 hx]
  refine (onchange_ok base p g [x] A c a B d t hm hm2 ha ht w hA hB hS hch).mono fun e w' ⟨k, B2, C, g', h1, h2, h3, h4, h5, h6, h7, h8⟩ => ?_
  obtain rfl : k = 0 := by simpa using h1
  have e1 : (gg [x] 0).length = a.length := len_fit hx
  rw [e1] at h4
  exact ⟨B2, C, g', h4, h6, h7⟩
/-- put if none fits, where it does fit: of nought or one that fits -/
def Okm (a : List Va) (m : Nat) (L : List (List Va)) : Prop := (m = 0 ∧ L = []) ∨ (m ≠ 0 ∧ ∃ x, L = [x] ∧ fitB a x = true)
theorem put_one (base p m : Nat) (g : Option Nat) (L : List (List Va)) (A : Option Addr) (c : Nat) (a : List Va) (B : Option Addr) (d : Nat) (t : List Va) (hm : a.length ≤ maxLen) (hm2 : t.length ≤ maxLen) (ha : okL a) (ht : okL t) (h : ocE a t = 0) (hx : fitB a t = true) (hk : Okm a m L) (w : World) (hA : Vals w A a) (hB : Vals w B t) (hS : Spc w base p g L) :
    Calls Try.prog 25 #[.pointer (some ⟨p, 0, none⟩), .slice A a.length c, .slice B t.length d] w fun e w' => ∃ (x : List Va) (g' : Option Nat), e = .returned (.tuple #[.bool (m == 0), .nilIface]) ∧ fitB a x = true ∧ Spc w' base p g' [x] ∧ Chg p g w w' := by
  rcases hk with ⟨rfl, rfl⟩ | ⟨h0, x, rfl, hf⟩
  · exact (onput_ok base p g [] A c a B d t hm hm2 ha ht w hA hB hS h rfl (by decide)).mono fun e w' ⟨h1, g', h2, h3, _⟩ => ⟨t, g', h1, hx, h2, h3⟩
  · have e0 : (m == 0) = false := by simp; exact h0
    rw [e0]
    refine (onput_no base p g [x] A c a B d t hm hm2 ha ht w hA hB hS h ?_).mono fun e w' ⟨h1, h2⟩ => ⟨x, g, h1, hf, hS.keep h2, Chg.of_below h2⟩
    rw [show [x].length = 1 from rfl, cnt_one hf]; decide
set_option maxHeartbeats 1600000 in
set_option maxRecDepth 100000 in
theorem walk (w : World) (A : Option Addr) (c : Nat) (l : List (List Va)) (hc : l.length ≤ c) (hm : c ≤ maxLen) (hA : Many Vals w A l) (hok : ∀ i, i < l.length → okL (gg l i)) (A2 : Option Addr) (c2 : Nat) (a : List Va) (hc2 : a.length ≤ c2) (hm2 : c2 ≤ maxLen) (hA2 : Vals w A2 a) (hok2 : okL a)
    (A3 : Option Addr) (c3 : Nat) (t : List Va) (hc3 : t.length ≤ c3) (hm3 : c3 ≤ maxLen) (hA3 : Vals w A3 t) (hok3 : okL t) :
    Calls Try.prog 8 #[.slice A l.length c, .slice A2 a.length c2, .slice A3 t.length c3] w fun e w' => e = .returned (.bool true) ∧ Below w.heap.size w w' := by
  have HOK := Lib.hid hok; have HO2 := Lib.hid hok2; have HO3 := Lib.hid hok3
  have hma : a.length ≤ maxLen := by omega
  have hmt : t.length ≤ maxLen := by omega
  have hml : l.length ≤ maxLen := by omega
  clear hok hok2 hok3
  unfold maxLen at hml
  go_enter Try.func8, Try.ntmps8
  go_wp2_with (first | (go_at_call 20; refine (spnew _).mono ?_; rintro e w' ⟨rfl, rfl⟩))
  obtain ⟨W1, hW1⟩ : ∃ W1, W1 = ((w.alloc (.cells #[.slice none 0 0] 76)).alloc (.cells #[.int .i64 2, .int .i64 0, .string ⟨#[]⟩] 23)).alloc (.cells #[.int .i64 0, .int .i64 1, .string ⟨#[]⟩] 23) := ⟨_, rfl⟩
  have b1 : Below w.heap.size w W1 := by rw [hW1]; exact bal (bal (bal1 _ _) _) _
  have s1 : Spc W1 w.heap.size w.heap.size none [] := by rw [hW1]; exact (Spc.new w (Nat.le_refl _)).keep (bal (bal1 _ _) _)
  have v1 : Vals W1 (some ⟨w.heap.size + 1, 0, none⟩) [vAny] := by rw [hW1]; exact Sl.alloc (lit1 (w.alloc (.cells #[.slice none 0 0] 76)) vAny (by simp)) _
  have v2 : Vals W1 (some ⟨w.heap.size + 1 + 1, 0, none⟩) [vNum 1] := by rw [hW1]; exact lit1 _ (vNum 1) (by simp)
  rw [← hW1]
  refine (onput_ok w.heap.size w.heap.size none [] _ 1 [vAny] _ 1 [vNum 1] (by decide) (by decide) okA (okN 1) W1 v1 v2 s1 oc1 cn0 (by decide)).mono ?_
  rintro e w2 ⟨rfl, g2, s2, x2, _⟩
  have b2 := b1.trans (s1.below x2)
  clear hW1 v1 v2 x2 s1
  go_wp2_with fail
  obtain ⟨W2, hW2⟩ : ∃ W2, W2 = (w2.alloc (.cells #[.int .i64 2, .int .i64 0, .string ⟨#[]⟩] 23)).alloc (.cells #[.int .i64 0, .int .i64 2, .string ⟨#[]⟩] 23) := ⟨_, rfl⟩
  have b3 : Below w2.heap.size w2 W2 := by rw [hW2]; exact bal (bal1 _ _) _
  have v1 : Vals W2 (some ⟨w2.heap.size, 0, none⟩) [vAny] := by rw [hW2]; exact Sl.alloc (lit1 w2 vAny rfl) _
  have v2 : Vals W2 (some ⟨w2.heap.size + 1, 0, none⟩) [vNum 2] := by rw [hW2]; exact lit1 _ (vNum 2) (by simp)
  rw [← hW2]
  refine (onput_no w.heap.size w.heap.size g2 [[vNum 1]] _ 1 [vAny] _ 1 [vNum 2] (by decide) (by decide) okA (okN 2) W2 v1 v2 (s2.keep b3) oc2 cn1).mono ?_
  rintro e w3 ⟨rfl, b4⟩
  clear hW2 v1 v2
  go_wp2_with fail
  refine (all_spc _ _ _ [[vNum 1]] 1 rfl _ ((s2.keep b3).keep b4)).mono ?_
  rintro e w4 ⟨A4, c4, rfl, b5⟩
  have b6 := bcl (bcl (bcl b2 b3) b4) b5
  clear b1 b2 b3 b4 b5 s2
  go_wp2_with (first | (go_at_call 20; refine (spnew _).mono ?_; rintro e w' ⟨rfl, rfl⟩))
  have s5 : Spc (w4.alloc (.cells #[.slice none 0 0] 76)) w.heap.size w4.heap.size none [] := Spc.new w4 b6.size
  have b7 := bal b6 (.cells #[.slice none 0 0] 76)
  generalize w4.alloc (.cells #[.slice none 0 0] 76) = w5 at *
  generalize w4.heap.size = p at *
  have S5 := Lib.hid s5
  clear s5 b6
  go_loopw [12, 13] (fun q i wr => ∃ (k m : Nat) (g : Option Nat) (L : List (List Va)), k ≤ l.length ∧ k ≤ 30 ∧ m ≤ k ∧ i = .int .i64 k ∧ q = .int .i64 m ∧ Hid (Okm a m L) ∧ Hid (Spc wr w.heap.size p g L) ∧ Below w.heap.size w wr) (fun q i _ => 30 - (intOf i).toNat)
  case atStart => exact ⟨0, 0, none, [], by omega, by omega, by omega, rfl, rfl, .inl ⟨rfl, rfl⟩, S5.out, b7⟩
  case round =>
    obtain ⟨k, m, g, L, hk, hk2, hmk, rfl, rfl, HK, HS, hb⟩ := hrel
    by_cases hgo : k < l.length ∧ k < 30
    · obtain ⟨hlt, hlt2⟩ := hgo
      have hq : decide ((k : Int) < 30) = true := by simp; omega
      obtain ⟨b, off, B, C, rfl, hbl, hcc, hv, hC1, hC2⟩ := hA.vat (i := k) hlt
      have hcw := fun (W : World) (hW : Below w.heap.size w W) => (hW.cell (p := ⟨b, off + k, none⟩) hbl).trans hcc
      have k0 := hcw wr hb
      have hv1 := Vin.of_arg hv (Nat.le_refl _)
      have HCW := Lib.hid hcw; have HV1 := Lib.hid hv1
      have ho1 := HOK.out k hlt
      have hl1 : (gg l k).length ≤ maxLen := by omega
      clear hcw hv1 hcc
      generalize gg l k = x at *
      have cf := tfits_any A2 c2 a B C x hma hl1 HO2.out ho1 wr (hA2.below hb (Nat.le_refl _)) (hv.below hb (Nat.le_refl _))
      by_cases hx : tfE a x = 0 ∧ fitB a x = true
      · obtain ⟨hx1, hx2⟩ := hx
        have hoc : ocE a x = 0 := by rw [← hx1]; rfl
        rw [hx1, hx2, show (decide ((0 : Int) = 0) && true) = true from rfl, eV_zero] at cf
        have cp := fun (W : World) (hA : Vals W A2 a) (hB : Vals W B x) (hS : Spc W w.heap.size p g L) => put_one w.heap.size p m g L A2 c2 a B C x hma hl1 HO2.out ho1 hoc hx2 HK.out W hA hB hS
        have cc := fun (W : World) (g : Option Nat) (y : List Va) (hy : fitB a y = true) (hA : Vals W A2 a) (hB : Vin W w.heap.size B x) (hS : Spc W w.heap.size p g [y]) => change_one w.heap.size p g y A2 c2 a B C x hma hl1 HO2.out ho1 hoc hy W hA hB hS
        have cn := fun (W : World) (g : Option Nat) (hS : Spc W w.heap.size p g [x]) (hA : Vals W A2 a) => count_spc w.heap.size p g [x] A2 c2 a hma HO2.out (ocE_zero hoc).1 1 (cnt_one hx2) W hS hA
        obtain ⟨v, hv1, hv2⟩ : ∃ v : Bool, (m == 0) = v ∧ ((m : Int) == 0) = v := ⟨_, rfl, by
          rcases Nat.eq_zero_or_pos m with h | h
          · subst h; rfl
          · have h1 : (m == 0) = false := by simp; omega
            have h2 : ((m : Int) == 0) = false := by simp; omega
            rw [h1, h2]⟩
        rw [hv1] at cp
        have HX := Lib.hid hx2
        have CF := Lib.hid cf; have CP := Lib.hid cp; have CC := Lib.hid cc; have CN := Lib.hid cn
        clear cf cp cc cn hx1 hx2 hoc hv1
        cases v
        all_goals
          go_wp2_with (first
            | (go_at_call 13; refine CF.out.mono ?_; rintro e w7 ⟨rfl, hb7⟩; have hbw7 := bcl hb hb7; have k1 := HCW.out w7 hbw7)
            | (go_at_call 25; refine (CP.out _ (hA2.below hbw7 (Nat.le_refl _)) (hv.below hbw7 (Nat.le_refl _)) (HS.out.keep hb7)).mono ?_; rintro e w8 ⟨y, g', rfl, hfy, hs8, hx8⟩; have hbw8 := hbw7.trans ((HS.out.keep hb7).below hx8); have k2 := HCW.out w8 hbw8; have HY := Lib.hid hfy; clear hfy)
            | (go_at_call 27; refine (CC.out _ _ _ HY.out (hA2.below hbw8 (Nat.le_refl _)) (HV1.out.below hbw8 (Nat.le_refl _) (Nat.le_refl _)) hs8).mono ?_; rintro e w9 ⟨B9, C9, g9, rfl, hs9, hx9⟩; have hbw9 := hbw8.trans (hs8.below hx9))
            | (go_at_call 23; refine (CN.out _ _ hs9 (hA2.below hbw9 (Nat.le_refl _))).mono ?_; rintro e w10 ⟨rfl, hb10⟩))
          have hs10 := hs9.keep hb10
          have HS10 := Lib.hid hs10
          have hbw10 := bcl hbw9 hb10
          clear hs8 hx8 hs9 hx9 hs10 hb10 k0 k1 k2
          go_roundw
          case rel => exact ⟨k + 1, m + 1, g9, [x], by omega, by omega, by omega, by go_num, by go_num, .inr ⟨by omega, x, rfl, HX.out⟩, HS10, hbw10⟩
          case measure => simp [intOf]; omega
      · have hfalse : (decide (tfE a x = 0) && fitB a x) = false := by
          by_cases h : tfE a x = 0
          · cases hf : fitB a x with
            | false => simp
            | true => exact absurd ⟨h, hf⟩ hx
          · simp [h]
        rw [hfalse] at cf
        clear hfalse hx
        by_cases h0 : tfE a x = 0
        · rw [h0, eV_zero] at cf
          have CF := Lib.hid cf
          clear cf h0
          go_wp2_with (go_at_call 13; refine CF.out.mono ?_; rintro e w7 ⟨rfl, hb7⟩; have hbw7 := bcl hb hb7)
          go_roundw
          case rel => exact ⟨k + 1, m, g, L, by omega, by omega, by omega, by go_num, rfl, HK, HS.out.keep hb7, hbw7⟩
          case measure => simp [intOf]; omega
        · rw [eV_of h0] at cf
          generalize tfE a x = E at *
          have CF := Lib.hid cf
          clear cf h0
          go_wp2_with (go_at_call 13; refine CF.out.mono ?_; rintro e w7 ⟨rfl, hb7⟩; have hbw7 := bcl hb hb7)
          go_roundw
          case rel => exact ⟨k + 1, m, g, L, by omega, by omega, by omega, by go_num, rfl, HK, HS.out.keep hb7, hbw7⟩
          case measure => simp [intOf]; omega
    · have hend : ¬ k < l.length ∨ k < l.length ∧ decide ((k : Int) < 30) = false := by
        by_cases h1 : k < l.length
        · exact .inr ⟨h1, by simp; omega⟩
        · exact .inl h1
      have ca := fun (W : World) (hS : Spc W w.heap.size p g L) => all_spc w.heap.size p g L _ rfl W hS
      have CA := Lib.hid ca
      have hV3 := Vin.of_arg hA3 (Nat.le_refl _)
      have HV3 := Lib.hid hV3
      clear ca hgo hV3
      by_cases h : chE a t L = 0
      · have hpos : 0 < L.length := by
          rcases Nat.eq_zero_or_pos L.length with h0 | h0
          · have hL : L = [] := List.eq_nil_of_length_eq_zero h0
            subst hL
            have := (chE_zero h).2
            have h5 : plc a [] < 0 := by
              show idx _ 0 < 0
              rw [idx_none rfl]; decide
            unfold finE at this
            split at this
            · rename_i h1; exact absurd this h1
            · simp at this
          · exact h0
        have cc : ∀ (W : World), Vals W A2 a → Vin W w.heap.size A3 t → Spc W w.heap.size p g L → Calls Try.prog 27 #[.pointer (some ⟨p, 0, none⟩), .slice A2 a.length c2, .slice A3 t.length c3] W fun e w' => ∃ (n : Nat) (B2 : Option Addr) (C : Nat) (g' : Option Nat) (M : List (List Va)), e = .returned (.tuple #[.slice B2 n C, .nilIface]) ∧ Spc w' w.heap.size p g' M ∧ Chg p g W w' ∧ M.length = L.length := fun W hA hB hS => (onchange_ok w.heap.size p g L A2 c2 a A3 c3 t hma hmt HO2.out HO3.out W hA hB hS h).mono fun e w' ⟨k, B2, C, g', h1, h2, h3, h4, h5, h6, h7, h8⟩ => ⟨_, B2, C, g', _, h4, h6, h7, by rw [List.length_append, List.length_eraseIdx, if_pos h1]; simp; omega⟩
        have CC := Lib.hid cc
        have hqp : decide (0 < L.length) = true := decide_eq_true hpos
        have cb := fun (W : World) (g : Option Nat) (M : List (List Va)) (hM : M.length = L.length) (hS : Spc W w.heap.size p g M) => all_spc w.heap.size p g M _ hM W hS
        have CB := Lib.hid cb
        clear cc cb h hpos
        rcases hend with hend | ⟨hend, hq⟩
        all_goals
          go_wp2_with (first
            | (go_at_call 22; refine (CA.out _ HS.out).mono ?_; rintro e w7 ⟨A7, c7, rfl, hb7⟩; have hbw7 := bcl hb hb7)
            | (go_at_call 27; refine (CC.out _ (hA2.below hbw7 (Nat.le_refl _)) (HV3.out.below hbw7 (Nat.le_refl _) (Nat.le_refl _)) (HS.out.keep hb7)).mono ?_; rintro e w8 ⟨n, B8, C8, g8, M8, rfl, hs8, hx8, hl8⟩; have hbw8 := hbw7.trans ((HS.out.keep hb7).below hx8)))
          refine (CB.out _ _ _ hl8 hs8).mono ?_
          rintro e w9 ⟨A9, c9, rfl, hb9⟩
          go_wp2_with fail
          go_ret
          exact ⟨ret_true (by first | rfl | (simp; done) | (simp; omega)), bcl hbw8 hb9⟩
      · have cc := fun (W : World) (hA : Vals W A2 a) (hB : Vals W A3 t) (hS : Spc W w.heap.size p g L) => onchange_no w.heap.size p g L A2 c2 a A3 c3 t hma hmt HO2.out HO3.out W hA hB hS h
        generalize chE a t L = E at *
        have CC := Lib.hid cc
        clear cc h
        rcases hend with hend | ⟨hend, hq⟩
        all_goals
          go_wp2_with (first
            | (go_at_call 22; refine (CA.out _ HS.out).mono ?_; rintro e w7 ⟨A7, c7, rfl, hb7⟩; have hbw7 := bcl hb hb7)
            | (go_at_call 27; refine (CC.out _ (hA2.below hbw7 (Nat.le_refl _)) (hA3.below hbw7 (Nat.le_refl _)) (HS.out.keep hb7)).mono ?_; rintro e w8 ⟨rfl, hb8⟩; have hbw8 := bcl hbw7 hb8))
          refine (CA.out _ ((HS.out.keep hb7).keep hb8)).mono ?_
          rintro e w9 ⟨A9, c9, rfl, hb9⟩
          go_wp2_with fail
          go_ret
          exact ⟨ret_true (by first | rfl | (simp; done) | (simp; omega)), bcl hbw8 hb9⟩

/-! ### the row's frame -/
theorem own : ownKnob Try.prog.godebug = none := by kernel_rfl
theorem laidOut : laidOutB Try.prog = true := by kernel_rfl

set_option maxRecDepth 100000 in
theorem lifted (os : Os) (started : os.Started) (H : Type) (enc : TypeId × Value → H) :
    ReturnsInHanded {} Try.checked os 8 .any (Rows.onceOnlySpec.pre6 enc Try.prog Try.f8 Rows.onceOnlyRow.domain false) (Rows.onceOnlySpec.post enc Try.prog Try.f8 false true false false) := by
  refine returnsInHanded_of_change (C := Try.checked) own started (by kernel_rfl) Try.func8
    (ChangeSpec.witness6 (enc := enc) (C := Try.checked) false ⟨#[], #[.slice none 0 0, .slice none 0 0, .slice none 0 0], []⟩ 8 (by kernel_rfl) (by kernel_rfl) (by kernel_rfl) (by kernel_rfl)) ?_
  intro W base args ds gs before hval0 hW hcnd _
  have hval : ∀ (j : Nat) t v, Try.f8.params[j]? = some t → args[j]? = some v → Value.okWide Try.prog W .any base t v := hval0
  have hW' := hW
  obtain ⟨p, q, hA0, hV, rfl, hfz, hnd⟩ := hW
  have hA : DataW.TrodAll enc Try.prog W 0 (fun _ => true) true Try.f8.params.toList args.toList ds p := hA0
  rw [Try.params8] at hA hval
  obtain ⟨v0, vs0, d0, ds0, p0, q0, hargs, rfl, rfl, h0, r0⟩ := trodAll_cons hA
  obtain ⟨v1, vs1, d1, ds1, p1, q1, rfl, rfl, rfl, h1, r1⟩ := trodAll_cons r0
  obtain ⟨v2, vs2, d2, ds2, p2, q2, rfl, rfl, rfl, h2, r2⟩ := trodAll_cons r1
  obtain ⟨rfl, rfl, rfl⟩ := trodAll_nil r2
  obtain rfl : args = #[v0, v1, v2] := by cases args; simp_all
  obtain ⟨rfl, rfl⟩ := trodVars_none hV
  have k0 := h0
  have lt0 : ∀ x ∈ p0, x.block < W.heap.size := by obtain ⟨m, hm⟩ := k0; exact DataW.trod_lt m _ _ _ hm
  obtain ⟨A0, c0, x0, rfl, hc0, hm0, hA0, w0⟩ := arg_Many (Q := Vals) (R := okL) Try.underlying42 (by kernel_rfl) (fun _ _ _ h => open_Vals Try.underlying32 Try.underlying23 (by kernel_rfl) (by kernel_rfl) Try.underlying3 Try.underlying3 Try.underlying9 h) (hval 0 42 v0 rfl rfl) h0
  have k1 := h1
  have lt1 : ∀ x ∈ p1, x.block < W.heap.size := by obtain ⟨m, hm⟩ := k1; exact DataW.trod_lt m _ _ _ hm
  obtain ⟨A1, c1, x1, rfl, hc1, hm1, hA1, w1⟩ := arg_Vals Try.underlying32 Try.underlying23 (by kernel_rfl) (by kernel_rfl) Try.underlying3 Try.underlying3 Try.underlying9 (hval 1 32 v1 rfl rfl) h1
  have k2 := h2
  have lt2 : ∀ x ∈ p2, x.block < W.heap.size := by obtain ⟨m, hm⟩ := k2; exact DataW.trod_lt m _ _ _ hm
  obtain ⟨A2, c2, x2, rfl, hc2, hm2, hA2, w2⟩ := arg_Vals Try.underlying32 Try.underlying23 (by kernel_rfl) (by kernel_rfl) Try.underlying3 Try.underlying3 Try.underlying9 (hval 2 32 v2 rfl rfl) h2
  clear hA0 hval0
  refine (walk W A0 c0 x0 hc0 hm0 hA0 w0 A1 c1 x1 hc1 hm1 hA1 w1 A2 c2 x2 hc2 hm2 hA2 w2).mono fun e W' ⟨he, bel⟩ => ?_
  subst he
  exact ⟨_, rfl, _, _, _, [], _, [], hW', trodAll_mk1 (shut_bool Try.underlying4 _), (trodAll_cons_mk (Below.trod laidOut (by kernel_rfl) (of_decide_eq_true (by kernel_rfl)) k0 bel lt0) (trodAll_cons_mk (Below.trod laidOut (by kernel_rfl) (of_decide_eq_true (by kernel_rfl)) k1 bel lt1) (trodAll_cons_mk (Below.trod laidOut (by kernel_rfl) (of_decide_eq_true (by kernel_rfl)) k2 bel lt2) trodAll_mk0))), rfl, bel.frame _, fun h => by cases h⟩

theorem over : Rows.onceOnlyRow.holds Try.pinned (OpenSpec.ofChange Rows.onceOnlySpec) :=
  OpenClaim.holds_of_wide 8 Try.f8 rfl rfl rfl rfl rfl rfl rfl ⟨rfl, rfl, rfl, rfl, rfl⟩ rfl rfl rfl rfl rfl (by kernel_rfl) Try.func8 (by kernel_rfl)
    (of_decide_eq_true (by kernel_rfl)) (by unfold Func.isWrapper; first | (rw [if_pos (by decide +kernel)]; kernel_rfl) | (rw [if_neg (by decide +kernel)]; exact ⟨rfl, rfl⟩))
    (fun os started H enc _ => lifted os started H enc)

theorem proved : Rows.OnceOnlySaid := over
#print axioms proved

end Go.Proofs.Ythpemlhlgjdnkaa.onceOnly
