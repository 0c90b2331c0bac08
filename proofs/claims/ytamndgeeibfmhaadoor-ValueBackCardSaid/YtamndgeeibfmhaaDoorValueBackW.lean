/- ValueBack: the walk. -/
import Derived.Test.YtamndgeeibfmhaaDoorRdLaw
import Derived.Test.YtamndgeeibfmhaaDoorDoorE
import Derived.WalkKit
import Derived.WalkLawsBesides
import Derived.WalkSpells
import Derived.RegionTactic
import Derived.Deep.CutBlock
import Derived.Deep.DeepCutAuto
import Derived.Outline
namespace Go.Proofs.YtamndgeeibfmhaaDoor.valueBack
open Go.ChangeShapes Go.WideShapes Go.ChangeAt Go.RowKit Go.Joins
set_option linter.unusedVariables false

theorem m12 : rdE ⟨#[45, 49, 50]⟩ = 0 ∧ rdR ⟨#[45, 49, 50]⟩ = ⟨0, -12, ⟨#[]⟩⟩ := by
  have h : rdV ⟨#[45, 49, 50]⟩ = some ⟨0, -12, ⟨#[]⟩⟩ := by
    rw [rdV_num (by decide) (.inr ⟨by decide, by decide⟩)]
    rfl
  obtain ⟨h1, h2⟩ := rd_some h
  have h0 : vaE ⟨0, -12, ⟨#[]⟩⟩ = 0 := by decide
  rw [h1, h2, if_pos h0]
  exact ⟨h0, rfl⟩
/-- a box of a value -/
abbrev bx (k n : Int) (s : ByteArray) : Array Value := #[.int .i64 k, .int .i64 n, .string s]
structure Bx (W : World) (b : Nat) (k n : Int) (s : ByteArray) : Prop where
  c0 : W.cell? ⟨b, 0, none⟩ = some (.int .i64 k)
  c1 : W.cell? ⟨b, 1, none⟩ = some (.int .i64 n)
  c2 : W.cell? ⟨b, 2, none⟩ = some (.string s)
theorem Bx.of {W : World} {b : Nat} {k n : Int} {s : ByteArray} (h : AtB W b (bx k n s) 23) : Bx W b k n s := ⟨h.cell (i := 0) rfl, h.cell (i := 1) rfl, h.cell (i := 2) rfl⟩
set_option maxHeartbeats 6400000 in
set_option maxRecDepth 100000 in
theorem walk (w : World) (hg : TT w ∧ EE w) (ak an : Int) (sa : ByteArray) (_ : I64 ak) (_ : I64 an) (hsa : sa.size ≤ maxLen) (bk bn : Int) (sb : ByteArray) (_ : I64 bk) (_ : I64 bn) (hsb : sb.size ≤ maxLen)
    (ck cn : Int) (sc : ByteArray) (_ : I64 ck) (_ : I64 cn) (hsc : sc.size ≤ maxLen) (s : ByteArray) (hs : s.size ≤ maxLen) (hr : s.size ≤ 140737488351232) :
    Calls Tryd.prog 3 #[.agg #[.int .i64 ak, .int .i64 an, .string sa], .agg #[.int .i64 bk, .int .i64 bn, .string sb], .agg #[.int .i64 ck, .int .i64 cn, .string sc], .string s] w fun e w' => e = .returned (.bool true) ∧ Below w.heap.size w w' := by
  obtain ⟨ht, he⟩ := hg
  obtain ⟨W0, hW0⟩ : ∃ W0, W0 = ((w.alloc (.cells (bx ak an sa) 23)).alloc (.cells (bx bk bn sb) 23)).alloc (.cells (bx ck cn sc) 23) := ⟨_, rfl⟩
  have hb0 : Below w.heap.size w W0 := by rw [hW0]; exact bal (bal (bal1 _ _) _) _
  have ha0 : AtB W0 w.heap.size (bx ak an sa) 23 := by rw [hW0]; exact ((AtB.new w _ _).alloc _).alloc _
  have hbb0 : AtB W0 (w.heap.size + 1) (bx bk bn sb) 23 := by
    rw [hW0]; have := AtB.new (w.alloc (.cells (bx ak an sa) 23)) (bx bk bn sb) 23; rw [World.size_alloc] at this; exact this.alloc _
  have hc0 : AtB W0 (w.heap.size + 1 + 1) (bx ck cn sc) 23 := by
    rw [hW0]; have := AtB.new ((w.alloc (.cells (bx ak an sa) 23)).alloc (.cells (bx bk bn sb) 23)) (bx ck cn sc) 23; rw [World.size_alloc, World.size_alloc] at this; exact this
  have HT := Lib.hid (fun (W : World) (h : Below w.heap.size w W) => tab_stays (g := 6) (by kernel_rfl) ht h (Nat.le_refl _))
  have HE := Lib.hid (fun (W : World) (h : Below w.heap.size w W) => he.below h (Nat.le_refl _))
  have HB0 := Lib.hid hb0
  have BXA := Lib.hid (fun (W : World) (h : Below W0.heap.size W0 W) => Bx.of (ha0.below h ha0.lt))
  have BXB := Lib.hid (fun (W : World) (h : Below W0.heap.size W0 W) => Bx.of (hbb0.below h hbb0.lt))
  have BXC := Lib.hid (fun (W : World) (h : Below W0.heap.size W0 W) => Bx.of (hc0.below h hc0.lt))
  have HW := Lib.hid (fun (W : World) (h : Below W0.heap.size W0 W) => bcl hb0 h)
  -- what is called
  have c12 := fun (W : World) (h : Below W0.heap.size W0 W) => vparse_any ⟨#[45, 49, 50]⟩ (by decide) W (HT.out W (HW.out W h)) (HE.out W (HW.out W h))
  rw [m12.1, m12.2, eV_zero] at c12
  have cps := fun (x : ByteArray) (hx : x.size ≤ 140737488351232) (W : World) (h : Below W0.heap.size W0 W) => vparse_any x hx W (HT.out W (HW.out W h)) (HE.out W (HW.out W h))
  have cpr := fun (v : Va) (hv : v.s.size ≤ maxLen) (W : World) (h : Below W0.heap.size W0 W) => vprint_any v hv W (HT.out W (HW.out W h))
  have C12 := Lib.hid c12; have CPS := Lib.hid cps; have CPR := Lib.hid cpr
  clear c12 cps cpr hb0 ha0 hbb0 hc0 ht he
  go_enter Tryd.func3, Tryd.ntmps3
  go_upto_region 1 with fail
  rw [← hW0]
  clear hW0
  go_wp2_with fail
  refine (C12.out _ (Below.refl _ _)).mono ?_
  rintro e w1 ⟨rfl, hb1⟩
  have HB1 := Lib.hid (bal hb1 (.cells #[.int .i64 0, .int .i64 (-12), .string ⟨#[]⟩] 23))
  clear hb1 C12
  obtain ⟨E, hE⟩ : ∃ E, E = rdE s := ⟨_, rfl⟩
  have csp := CPS.out s hr _ HB1.out
  rw [← hE] at csp
  obtain ⟨R, hR⟩ : ∃ R, R = rdR s := ⟨_, rfl⟩
  rw [← hR] at csp
  have CS1 := Lib.hid csp; have HE1 := Lib.hid hE; have HR1 := Lib.hid hR
  clear csp hE hR
  go_upto_region 5 with (go_at_call 7; refine CS1.out.mono ?_; rintro e w2 ⟨rfl, hb2⟩; have HB2 := Lib.hid (bal (bcl HB1.out hb2) (.cells #[.int .i64 R.k, .int .i64 R.n, .string R.s] 23)); have BR := Lib.hid (AtB.new w2 #[.int .i64 R.k, .int .i64 R.n, .string R.s] 23); clear hb2)
  obtain ⟨W2, hw2⟩ : ∃ W2, W2 = w2.alloc (.cells #[.int .i64 R.k, .int .i64 R.n, .string R.s] 23) := ⟨_, rfl⟩
  rw [← hw2] at HB2 BR ⊢
  clear hw2
  go_cut [12, 39, 41, 43, 44, 45] (fun _ _ _ _ _ s45 wx => s45 = .bool (decide (E = 0)) ∧ wx = W2)
  case first =>
    by_cases h : E = 0
    · have HD := Lib.hid (decide_eq_true h)
      rw [h, eV_zero]
      clear h
      go_wp2_with fail
      go_meet
      case rel => exact ⟨by rw [HD.out], by first | rfl | trivial⟩
    · have HD := Lib.hid (decide_eq_false h)
      rw [eV_of h]
      clear h
      go_wp2_with fail
      go_meet
      case rel => exact ⟨by rw [HD.out], by first | rfl | trivial⟩
  case rest =>
  obtain ⟨rfl, rfl⟩ := hcut
  obtain ⟨W2, hw⟩ : ∃ W2 : World, W2 = wc := ⟨_, rfl⟩
  subst hw
  go_upto_if 45 with fail
  go_cut [8] (fun s8 wx => s8 = .bool false ∧ Hid (Below W0.heap.size W0 wx))
  case first =>
    by_cases h : E = 0
    · have hE := HE1.out; have hR := HR1.out
      obtain ⟨v1, v2⟩ := rd_back (s := s) (hE ▸ h)
      have cp := CPR.out R (by rw [hR]; have := (vaE_parts v1).2.2.2.2; unfold maxLen; omega) W2 HB2.out
      rw [hR, if_pos v1, v1, v2, eV_zero, ← hR] at cp
      have q := str_same s
      have y := Bx.of BR.out
      have y0 := y.c0; have y1 := y.c1; have y2 := y.c2
      have CP := Lib.hid cp
      rw [decide_eq_true h]
      clear cp v1 v2 hR hE y h
      go_wp2_with (go_at_call 8; refine CP.out.mono ?_; rintro e w3 ⟨rfl, hb3⟩; have HB3 := Lib.hid (bcl HB2.out hb3); clear hb3)
      go_meet
      case rel => exact ⟨rfl, HB3⟩
    · rw [decide_eq_false h]
      clear h
      go_wp2_with fail
      go_meet
      case rel => exact ⟨rfl, HB2⟩
  case rest =>
  obtain ⟨rfl, HB3⟩ := hcut
  obtain ⟨W3, hw⟩ : ∃ W3 : World, W3 = wc := ⟨_, rfl⟩
  subst hw
  clear HB1 HB2 CS1 HE1 HR1 BR
  obtain ⟨ea, hea⟩ : ∃ ea, ea = vaE ⟨ak, an, sa⟩ := ⟨_, rfl⟩
  have cpa := CPR.out ⟨ak, an, sa⟩ hsa W3 HB3.out
  rw [← hea] at cpa
  obtain ⟨ta, hta⟩ : ∃ ta, ta = if ea = 0 then wrd ⟨ak, an, sa⟩ else ⟨#[]⟩ := ⟨_, rfl⟩
  rw [← hta] at cpa
  have CPA := Lib.hid cpa; have HEA := Lib.hid hea; have HTA := Lib.hid hta
  have y := BXA.out W3 HB3.out
  have y0 := y.c0; have y1 := y.c1; have y2 := y.c2
  clear cpa hea hta y
  go_upto_region 10 with (go_at_call 8; refine CPA.out.mono ?_; rintro e W4 ⟨rfl, hb4⟩; have HB4 := Lib.hid (bcl HB3.out hb4); clear hb4)
  clear y0 y1 y2 CPA
  go_cut [12, 58, 60, 62, 63, 64] (fun _ _ _ _ _ s64 wx => s64 = .bool (decide (ea = 0)) ∧ wx = W4)
  case first =>
    by_cases h : ea = 0
    · have HD := Lib.hid (decide_eq_true h)
      rw [h, eV_zero]
      clear h
      go_wp2_with fail
      go_meet
      case rel => exact ⟨by rw [HD.out], by first | rfl | trivial⟩
    · have HD := Lib.hid (decide_eq_false h)
      rw [eV_of h]
      clear h
      go_wp2_with fail
      go_meet
      case rel => exact ⟨by rw [HD.out], by first | rfl | trivial⟩
  case rest =>
  obtain ⟨rfl, rfl⟩ := hcut
  obtain ⟨W4, hw⟩ : ∃ W4 : World, W4 = wc := ⟨_, rfl⟩
  subst hw
  go_upto_if 64 with fail
  go_cut [8] (fun s8 wx => s8 = .bool false ∧ Hid (Below W0.heap.size W0 wx))
  case first =>
    by_cases h : ea = 0
    · have hta := HTA.out
      rw [if_pos h] at hta
      have h0 : vaE ⟨ak, an, sa⟩ = 0 := HEA.out ▸ h
      obtain ⟨v1, v2⟩ := rd_wrd h0
      have hz := wrd_size _ h0
      have cp := CPS.out ta (by rw [hta]; omega) W4 HB4.out
      rw [hta, v1, v2, eV_zero, ← hta] at cp
      have CP := Lib.hid cp
      have q := str_same sa
      rw [decide_eq_true h]
      clear cp v1 v2 h0 hta h hz
      go_wp2_with (go_at_call 7; refine CP.out.mono ?_; rintro e w5 ⟨rfl, hb5⟩; have HB5 := Lib.hid (bcl HB4.out hb5); have y := BXA.out (w5.alloc (.cells #[.int .i64 ak, .int .i64 an, .string sa] 23)) (bal HB5.out _); have y0 := y.c0; have y1 := y.c1; have y2 := y.c2; clear hb5 y)
      go_meet
      case rel => exact ⟨rfl, Lib.hid (bal HB5.out _)⟩
    · rw [decide_eq_false h]
      clear h
      go_wp2_with fail
      go_meet
      case rel => exact ⟨rfl, HB4⟩
  case rest =>
  obtain ⟨rfl, HB5⟩ := hcut
  obtain ⟨W5, hw⟩ : ∃ W5 : World, W5 = wc := ⟨_, rfl⟩
  subst hw
  clear HB3 HB4 HEA HTA
  have ya := BXA.out W5 HB5.out
  have yb := BXB.out W5 HB5.out
  have a0 := ya.c0; have a1 := ya.c1; have a2 := ya.c2
  have b0 := yb.c0; have b1 := yb.c1; have b2 := yb.c2
  have cab := fun W => order_any ak an sa bk bn sb hsa hsb W
  by_cases h : twoE ⟨ak, an, sa⟩ ⟨bk, bn, sb⟩ = 0
  · obtain ⟨va, vb⟩ := twoE_zero.1 h
    have h' := twoE_zero.2 ⟨vb, va⟩
    have cba := fun W => order_any bk bn sb ak an sa hsb hsa W
    have hneg := ordI_neg ⟨ak, an, sa⟩ ⟨bk, bn, sb⟩
    have hzer := ordI_zero ⟨ak, an, sa⟩ ⟨bk, bn, sb⟩
    have hrng := ordI_rng ⟨ak, an, sa⟩ ⟨bk, bn, sb⟩
    have htr := ordI_trans ⟨ak, an, sa⟩ ⟨bk, bn, sb⟩ ⟨ck, cn, sc⟩
    rw [h, if_pos rfl, eV_zero] at cab
    rw [h', if_pos rfl, eV_zero, hneg] at cba
    clear hneg h h'
    generalize ordI ⟨ak, an, sa⟩ ⟨bk, bn, sb⟩ = p at *
    have p0 : -1 ≤ p := by omega
    have p1 : p ≤ 1 := by omega
    have CAB := Lib.hid cab; have CBA := Lib.hid cba; have HZER := Lib.hid hzer; have HTR := Lib.hid htr
    clear cab cba hzer hrng htr ya yb
    go_wp2_with fail
    refine (CAB.out _).mono ?_
    rintro e W6 ⟨rfl, hb6⟩
    have HB6 := Lib.hid (bcl HB5.out hb6)
    clear hb6 a0 a1 a2 b0 b1 b2
    have ya := BXA.out W6 HB6.out
    have yb := BXB.out W6 HB6.out
    have a0 := ya.c0; have a1 := ya.c1; have a2 := ya.c2
    have b0 := yb.c0; have b1 := yb.c1; have b2 := yb.c2
    clear ya yb
    go_wp2_with fail
    refine (CBA.out _).mono ?_
    rintro e W7 ⟨rfl, hb7⟩
    have HB7 := Lib.hid (bcl HB6.out hb7)
    clear hb7 a0 a1 a2 b0 b1 b2
    have ya := BXA.out W7 HB7.out
    have yb := BXB.out W7 HB7.out
    have a0 := ya.c0; have a1 := ya.c1; have a2 := ya.c2
    have b0 := yb.c0; have b1 := yb.c1; have b2 := yb.c2
    clear ya yb HB5 HB6
    go_upto_region 18 with fail
    go_cut [106] (fun s106 wx => s106 = .bool false ∧ wx = W7)
    case first =>
      by_cases e1 : ak = bk
      · by_cases e2 : an = bn
        · by_cases e3 : sa = sb
          · subst e1 e2 e3
            obtain rfl : p = 0 := HZER.out.2 rfl
            have q := str_same sa
            go_wp2_with fail
            go_meet
            case rel => exact ⟨rfl, by first | rfl | trivial⟩
          · subst e1 e2
            have hp : (p == 0) = false := beq_eq_false_iff_ne.2 fun hp => e3 (by have := HZER.out.1 hp; injection this)
            have q := str_other e3
            clear e3
            go_wp2_with fail
            go_meet
            case rel => exact ⟨rfl, by first | rfl | trivial⟩
        · subst e1
          have hp : (p == 0) = false := beq_eq_false_iff_ne.2 fun hp => e2 (by have := HZER.out.1 hp; injection this)
          have q : (an == bn) = false := beq_eq_false_iff_ne.2 e2
          clear e2
          go_wp2_with fail
          go_meet
          case rel => exact ⟨rfl, by first | rfl | trivial⟩
      · have hp : (p == 0) = false := beq_eq_false_iff_ne.2 fun hp => e1 (by have := HZER.out.1 hp; injection this)
        have q : (ak == bk) = false := beq_eq_false_iff_ne.2 e1
        clear e1
        go_wp2_with fail
        go_meet
        case rel => exact ⟨rfl, by first | rfl | trivial⟩
    case rest =>
    obtain ⟨rfl, rfl⟩ := hcut
    obtain ⟨W7, hw⟩ : ∃ W7 : World, W7 = wc := ⟨_, rfl⟩
    subst hw
    clear a0 a1 a2
    have yc := BXC.out W7 HB7.out
    have c0 := yc.c0; have c1 := yc.c1; have c2 := yc.c2
    have cbc := fun W => order_any bk bn sb ck cn sc hsb hsc W
    by_cases h : twoE ⟨bk, bn, sb⟩ ⟨ck, cn, sc⟩ = 0
    · obtain ⟨_, vc⟩ := twoE_zero.1 h
      have h' := twoE_zero.2 ⟨va, vc⟩
      have cac := fun W => order_any ak an sa ck cn sc hsa hsc W
      rw [h, if_pos rfl, eV_zero] at cbc
      rw [h', if_pos rfl, eV_zero] at cac
      have htr := HTR.out
      clear h h' HTR HZER
      generalize ordI ⟨bk, bn, sb⟩ ⟨ck, cn, sc⟩ = r at *
      generalize ordI ⟨ak, an, sa⟩ ⟨ck, cn, sc⟩ = u at *
      have CBC := Lib.hid cbc; have CAC := Lib.hid cac; have HTR := Lib.hid htr
      clear cbc cac htr yc
      go_wp2_with fail
      refine (CBC.out _).mono ?_
      rintro e W8 ⟨rfl, hb8⟩
      have HB8 := Lib.hid (bcl HB7.out hb8)
      clear hb8 b0 b1 b2 c0 c1 c2
      have ya := BXA.out W8 HB8.out
      have yc := BXC.out W8 HB8.out
      have a0 := ya.c0; have a1 := ya.c1; have a2 := ya.c2
      have c0 := yc.c0; have c1 := yc.c1; have c2 := yc.c2
      clear ya yc
      go_wp2_with fail
      refine (CAC.out _).mono ?_
      rintro e W9 ⟨rfl, hb9⟩
      have HB9 := Lib.hid (bcl HB8.out hb9)
      clear hb9 a0 a1 a2 c0 c1 c2
      by_cases x1 : 0 < p
      · go_wp2_with fail
        go_ret
        exact ⟨ret_true (by first | rfl | (simp; done) | (simp; omega)), HW.out _ HB9.out⟩
      · have d1 : decide (0 < p) = false := by simp; omega
        by_cases x2 : 0 < r
        · go_wp2_with fail
          go_ret
          exact ⟨ret_true (by first | rfl | (simp; done) | (simp; omega)), HW.out _ HB9.out⟩
        · have d2 : decide (0 < r) = false := by simp; omega
          have x3 : u ≤ 0 := HTR.out (by omega) (by omega)
          go_wp2_with fail
          go_ret
          exact ⟨ret_true (by first | rfl | (simp; done) | (simp; omega)), HW.out _ HB9.out⟩
    · rw [if_neg h, eV_of h] at cbc
      generalize twoE ⟨bk, bn, sb⟩ ⟨ck, cn, sc⟩ = z at *
      have CBC := Lib.hid cbc
      clear cbc h yc HTR HZER
      go_wp2_with (go_at_call 9; refine (CBC.out _).mono ?_; rintro e W8 ⟨rfl, hb8⟩; have HB8 := Lib.hid (bcl HB7.out hb8); clear hb8)
      go_ret
      exact ⟨ret_true (by first | rfl | (simp; done) | (simp; omega)), HW.out _ HB8.out⟩
  · rw [if_neg h, eV_of h] at cab
    generalize twoE ⟨ak, an, sa⟩ ⟨bk, bn, sb⟩ = z at *
    have CAB := Lib.hid cab
    clear cab h ya yb
    go_wp2_with (go_at_call 9; refine (CAB.out _).mono ?_; rintro e W6 ⟨rfl, hb6⟩; have HB6 := Lib.hid (bcl HB5.out hb6); clear hb6)
    go_ret
    exact ⟨ret_true (by first | rfl | (simp; done) | (simp; omega)), HW.out _ HB6.out⟩
end Go.Proofs.YtamndgeeibfmhaaDoor.valueBack
