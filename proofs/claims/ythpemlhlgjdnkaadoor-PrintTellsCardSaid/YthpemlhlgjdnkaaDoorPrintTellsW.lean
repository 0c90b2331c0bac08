/- PrintTells: the walk. -/
import Derived.Test.YthpemlhlgjdnkaaDoorDigTup
import Derived.Test.YthpemlhlgjdnkaaDoorDoor
import Derived.Test.YthpemlhlgjdnkaaDoorDoorT
import Derived.WalkKit
import Derived.WalkLawsBesides
import Derived.WalkSpells
import Derived.RegionTactic
import Derived.Deep.CutBlock
import Derived.Deep.DeepCutAuto
import Derived.Outline
namespace Go.Proofs.YthpemlhlgjdnkaaDoor.printTells
open Go.ChangeShapes Go.WideShapes Go.ChangeAt Go.RowKit Go.Joins
set_option linter.unusedVariables false

theorem same_eW (n : Int) (W : World) (h : HG W) : Calls Tryd.prog 24 #[eV n, .int .i64 n] W fun e w' => e = .returned (.bool true) ∧ Below W.heap.size W w' :=
  (same_eV n W W (DG.refl h)).mono fun e w' ⟨h1, h2⟩ => ⟨h1, h2.2⟩
set_option maxHeartbeats 3200000 in
set_option maxRecDepth 100000 in
theorem walk (w : World) (hg : HG w ∧ TT w) (kk n : Int) (s : ByteArray) (_ : I64 kk) (_ : I64 n) (hs : s.size ≤ maxLen) (A : Option Addr) (c : Nat) (t : List Va) (hc : t.length ≤ c) (hm : c ≤ maxLen) (hA : Vals w A t) (hok : okL t) :
    Calls Tryd.prog 20 #[.agg #[.int .i64 kk, .int .i64 n, .string s], .slice A t.length c] w fun e w' => e = .returned (.bool true) ∧ Below w.heap.size w w' := by
  have hm' : t.length ≤ maxLen := by omega
  have crv := fun (W : World) => rvalue_any kk n s hs W
  have cdv := fun (W : World) (T : TT W) => digvalue_any ⟨kk, n, s⟩ hs W T
  have crl := fun (W : World) (V : Vals W A t) => rlike_any A c t hm' hok W V
  have cdt := fun (W : World) (V : Vals W A t) (T : TT W) => digtuple_any A c t hm' hok W V T
  have HTK := Lib.hid (fun (W : World) (h : Below w.heap.size w W) => tab_stays (g := 1) (by kernel_rfl) hg.2 h (Nat.le_refl _))
  have HGK := Lib.hid (fun (W : World) (h : Below w.heap.size w W) => hg.1.below h)
  have HAK := Lib.hid (fun (W : World) (h : Below w.heap.size w W) => hA.below h (Nat.le_refl _))
  have crw : vaE ⟨kk, n, s⟩ = 0 → ∀ W : World, Calls Tryd.prog 69 #[.agg #[.int .i64 kk, .int .i64 n, .string s]] W fun e w' => e = .returned (.string (wrd ⟨kk, n, s⟩)) ∧ Below W.heap.size W w' := fun h W => by
    obtain ⟨k0, k2, kn, ks⟩ := vaE_kind h
    exact rword_any kk n s (by show s.size ≤ _; have : s.size ≤ 12 := ks; omega) ⟨k0, k2⟩ kn W
  have crh : vaE ⟨kk, n, s⟩ = 0 → ∀ W : World, Calls Tryd.prog 68 #[.string (wrd ⟨kk, n, s⟩)] W fun e w' => e = .returned (.int .i64 (dgv ⟨kk, n, s⟩)) ∧ W = w' := fun h W => by
    have := wrd_size _ h
    exact rhash_any _ (by unfold maxLen; omega) W
  have cli : liE t = 0 → ∀ W : World, Vals W A t → Calls Tryd.prog 70 #[.slice A t.length c] W fun e w' => e = .returned (.string (lin t)) ∧ Below W.heap.size W w' := fun h W V => by
    obtain ⟨_, h5, hr⟩ := rgt_of h
    exact rline_any A c t (by omega) hr W V
  have clh : liE t = 0 → ∀ W : World, Calls Tryd.prog 68 #[.string (lin t)] W fun e w' => e = .returned (.int .i64 (dgt t)) ∧ W = w' := fun h W => by
    obtain ⟨_, h5, hr⟩ := rgt_of h
    have := lin_size hr t.length
    rw [List.take_length] at this
    exact rhash_any _ (by unfold maxLen; omega) W
  obtain ⟨z, hz⟩ : ∃ z, z = if vaE ⟨kk, n, s⟩ = 0 then dgv ⟨kk, n, s⟩ else 0 := ⟨_, rfl⟩
  obtain ⟨y, hy⟩ : ∃ y, y = if liE t = 0 then dgt t else 0 := ⟨_, rfl⟩
  rw [← hz] at cdv
  rw [← hy] at cdt
  have HZ := Lib.hid hz; have HY := Lib.hid hy
  clear hz hy
  have CRV := Lib.hid crv; have CDV := Lib.hid cdv; have CRL := Lib.hid crl; have CDT := Lib.hid cdt; have CRW := Lib.hid crw; have CRH := Lib.hid crh; have CLI := Lib.hid cli; have CLH := Lib.hid clh
  clear crv cdv crl cdt crw crh cli clh hg hA hok hm hm' hc hs
  obtain ⟨W0, hW0⟩ : ∃ W0, W0 = w.alloc (.cells #[.int .i64 kk, .int .i64 n, .string s] 28) := ⟨_, rfl⟩
  have HB0 := Lib.hid (show Below w.heap.size w W0 by rw [hW0]; exact bal1 _ _)
  have HX0 := Lib.hid (show AtB W0 w.heap.size #[.int .i64 kk, .int .i64 n, .string s] 28 by rw [hW0]; exact AtB.new _ _ _)
  go_enter Tryd.func20, Tryd.ntmps20
  go_upto_region 1 with fail
  rw [← hW0]
  clear hW0
  have y0 : W0.cell? ⟨w.heap.size, 0, none⟩ = some (.int .i64 kk) := HX0.out.cell (i := 0) rfl
  have y1 : W0.cell? ⟨w.heap.size, 1, none⟩ = some (.int .i64 n) := HX0.out.cell (i := 1) rfl
  have y2 : W0.cell? ⟨w.heap.size, 2, none⟩ = some (.string s) := HX0.out.cell (i := 2) rfl
  go_upto_if 14 with (go_at_call 67; refine (CRV.out _).mono ?_; rintro e w1 ⟨rfl, hb1⟩; have HB1 := Lib.hid (bcl HB0.out hb1); have HX1 := Lib.hid (HX0.out.below hb1 HX0.out.lt); have z0 : w1.cell? ⟨w.heap.size, 0, none⟩ = some (.int .i64 kk) := HX1.out.cell (i := 0) rfl; have z1 : w1.cell? ⟨w.heap.size, 1, none⟩ = some (.int .i64 n) := HX1.out.cell (i := 1) rfl; have z2 : w1.cell? ⟨w.heap.size, 2, none⟩ = some (.string s) := HX1.out.cell (i := 2) rfl; clear hb1)
  go_cut [6] (fun s6 wx => s6 = .int .i64 z ∧ Hid (Below w.heap.size w wx) ∧ Hid (AtB wx w.heap.size #[.int .i64 kk, .int .i64 n, .string s] 28))
  case first =>
    by_cases h : vaE ⟨kk, n, s⟩ = 0
    · have c1 := CRW.out h
      have c2 := CRH.out h
      have q : (vaE ⟨kk, n, s⟩ == 0) = true := beq_iff_eq.2 h
      have hz := HZ.out
      rw [if_pos h] at hz
      rw [← hz] at c2
      have C1 := Lib.hid c1; have C2 := Lib.hid c2
      clear hz
      generalize wrd ⟨kk, n, s⟩ = tx at *
      clear c1 c2 h
      go_wp2_with (first | (go_at_call 69; refine (C1.out _).mono ?_; rintro e w2 ⟨rfl, hb2⟩) | (go_at_call 68; refine (C2.out _).mono ?_; rintro e w' ⟨rfl, rfl⟩))
      go_meet
      case rel => exact ⟨rfl, Lib.hid (bcl HB1.out hb2), Lib.hid (HX1.out.below hb2 HX1.out.lt)⟩
    · have q : (vaE ⟨kk, n, s⟩ == 0) = false := beq_eq_false_iff_ne.2 h
      have hz := HZ.out
      rw [if_neg h] at hz
      have HZ0 := Lib.hid hz
      clear h hz
      go_wp2_with fail
      go_meet
      case rel => exact ⟨by rw [HZ0.out], HB1, HX1⟩
  case rest =>
    clear HB0 HX0 HB1 HX1 y0 y1 y2 z0 z1 z2
    obtain ⟨rfl, HB2, HX2⟩ := hcut
    obtain ⟨W2, hw⟩ : ∃ W2 : World, W2 = wc := ⟨_, rfl⟩
    subst hw
    have y0 : W2.cell? ⟨w.heap.size, 0, none⟩ = some (.int .i64 kk) := HX2.out.cell (i := 0) rfl
    have y1 : W2.cell? ⟨w.heap.size, 1, none⟩ = some (.int .i64 n) := HX2.out.cell (i := 1) rfl
    have y2 : W2.cell? ⟨w.heap.size, 2, none⟩ = some (.string s) := HX2.out.cell (i := 2) rfl
    go_upto_if 34 with (first
      | (go_at_call 33; refine (CDV.out _ (HTK.out _ HB2.out)).mono ?_; rintro e w3 ⟨rfl, hb3⟩; have HB3 := Lib.hid (bcl HB2.out hb3); clear hb3)
      | (go_at_call 24; refine (same_eW _ _ (HGK.out _ HB3.out)).mono ?_; rintro e w4 ⟨rfl, hb4⟩; have HB4 := Lib.hid (bcl HB3.out hb4); clear hb4)
      | (go_at_call 48; refine (CRL.out _ (HAK.out _ HB4.out)).mono ?_; rintro e w5 ⟨rfl, hb5⟩; have HB5 := Lib.hid (bcl HB4.out hb5); clear hb5))
    go_cut [6] (fun s6 wx => s6 = .int .i64 y ∧ Hid (Below w.heap.size w wx))
    case first =>
      by_cases h : liE t = 0
      · have c1 := CLI.out h
        have c2 := CLH.out h
        have q : (liE t == 0) = true := beq_iff_eq.2 h
        have hy := HY.out
        rw [if_pos h] at hy
        rw [← hy] at c2
        have C1 := Lib.hid c1; have C2 := Lib.hid c2
        clear hy
        generalize lin t = tx at *
        clear c1 c2 h
        go_wp2_with (first | (go_at_call 70; refine (C1.out _ (HAK.out _ HB5.out)).mono ?_; rintro e w6 ⟨rfl, hb6⟩) | (go_at_call 68; refine (C2.out _).mono ?_; rintro e w' ⟨rfl, rfl⟩))
        go_meet
        case rel => exact ⟨rfl, Lib.hid (bcl HB5.out hb6)⟩
      · have q : (liE t == 0) = false := beq_eq_false_iff_ne.2 h
        have hy := HY.out
        rw [if_neg h] at hy
        have HY0 := Lib.hid hy
        clear h hy
        go_wp2_with fail
        go_meet
        case rel => exact ⟨by rw [HY0.out], HB5⟩
    case rest =>
      clear HB2 HX2 HB3 HB4 HB5 y0 y1 y2
      obtain ⟨rfl, HB6⟩ := hcut
      obtain ⟨W6, hw⟩ : ∃ W6 : World, W6 = wc := ⟨_, rfl⟩
      subst hw
      go_wp2_with (first
        | (go_at_call 64; refine (CDT.out _ (HAK.out _ HB6.out) (HTK.out _ HB6.out)).mono ?_; rintro e w7 ⟨rfl, hb7⟩; have HB7 := Lib.hid (bcl HB6.out hb7); clear hb7)
        | (go_at_call 24; refine (same_eW _ _ (HGK.out _ HB7.out)).mono ?_; rintro e w8 ⟨rfl, hb8⟩; have HB8 := Lib.hid (bcl HB7.out hb8); clear hb8))
      go_ret
      exact ⟨ret_true (by first | rfl | (simp; done) | (simp; omega)), HB8.out⟩
end Go.Proofs.YthpemlhlgjdnkaaDoor.printTells
