/- QueuePlays: the walk. -/
import Derived.Test.YthpemlhlgjdnkaaDoorQueRef
import Derived.Test.YthpemlhlgjdnkaaDoorRuleRef
import Derived.Test.YthpemlhlgjdnkaaDoorVOwn
import Derived.Deep.CutBlock
import Derived.Deep.RegionHeld3
import Derived.Test.YthpemlhlgjdnkaaDoorDoor
import Derived.WalkKit
import Derived.WalkLawsBesides
import Derived.WalkSpells
import Derived.RegionTactic
import Derived.Deep.DeepCutAuto
import Derived.Outline
namespace Go.Proofs.YthpemlhlgjdnkaaDoor.queuePlays
open Go.ChangeShapes Go.WideShapes Go.ChangeAt Go.RowKit Go.Maps Go.WideMaps
set_option linter.unusedVariables false

theorem same_errW (n : Int) (W : World) (h : HG W) : Calls Tryd.prog 24 #[errV n, .int .i64 n] W fun e w' => e = .returned (.bool true) ∧ Below W.heap.size W w' :=
  (same_err n W W (DG.refl h)).mono fun e w' ⟨h1, h2⟩ => ⟨h1, h2.2⟩
theorem same_eW (n : Int) (W : World) (h : HG W) : Calls Tryd.prog 24 #[eV n, .int .i64 n] W fun e w' => e = .returned (.bool true) ∧ Below W.heap.size W w' :=
  (same_eV n W W (DG.refl h)).mono fun e w' ⟨h1, h2⟩ => ⟨h1, h2.2⟩
theorem same_nilW (W : World) : Calls Tryd.prog 24 #[.nilIface, .int .i64 0] W fun e w' => e = .returned (.bool true) ∧ Below W.heap.size W w' :=
  (same_nil W).mono fun e w' ⟨h1, h2⟩ => ⟨h1, h2 ▸ Below.refl _ _⟩
theorem same_t0 (A B : Option Addr) (c d : Nat) (W : World) :
    Calls Tryd.prog 27 #[.slice A 0 c, .slice B 0 d] W fun e w' => e = .returned (.bool true) ∧ Below W.heap.size W w' :=
  (same_tuple A B c d [] [] W Sl.zero Sl.zero (by simp)).mono fun e w' ⟨h1, h2⟩ => ⟨by rw [h1]; simp, h2⟩
theorem same_tT (A B : Option Addr) (c d : Nat) (t : List Va) (W : World) (hA : Vals W A t) (hB : Vals W B t) (hm : t.length ≤ maxLen) :
    Calls Tryd.prog 27 #[.slice A t.length c, .slice B t.length d] W fun e w' => e = .returned (.bool true) ∧ Below W.heap.size W w' :=
  (same_tuple A B c d t t W hA hB hm).mono fun e w' ⟨h1, h2⟩ => ⟨by rw [h1]; simp, h2⟩
/-- what is pushed: nobody beyond 3 -/
def ak3 (a : Ak) : Ak := if 3 < a.w then ⟨3, a.q, a.d, a.t⟩ else a
theorem ak3_le (a : Ak) : (ak3 a).w ≤ 3 := by unfold ak3; split; exact Int.le_refl _; omega
theorem ak3_q (a : Ak) : (ak3 a).q = a.q ∧ (ak3 a).d = a.d ∧ (ak3 a).t = a.t := by unfold ak3; split <;> simp
theorem puE_le {L : List Ak} {F : Int → Int} {a : Ak} (h : puE L F a = 0) : 0 ≤ a.w := (whoB_true.1 (qcE_zero (puE_zero h).1).1).1
set_option maxHeartbeats 6400000 in
set_option maxRecDepth 100000 in
theorem walk (w : World) (hg : HG w) (A1 : Option Addr) (c1 : Nat) (ps : List Int) (hc1 : ps.length ≤ c1) (hm1 : c1 ≤ maxLen) (hA1 : Ints w A1 ps) (_ : ∀ i, i < ps.length → I64 (gi ps i))
    (A : Option Addr) (c : Nat) (l : List Ak) (hc : l.length ≤ c) (hm : c ≤ maxLen) (hA : Aks w A l) (hok : okA l) :
    Calls Tryd.prog 5 #[.slice A1 ps.length c1, .slice A l.length c] w fun e w' => e = .returned (.bool true) ∧ Below w.heap.size w w' := by
  have HG0 := Lib.hid hg; have HA := Lib.hid hA; have HOK := Lib.hid hok; have HA1 := Lib.hid hA1
  have cq := qnew w (base := w.heap.size) (Nat.le_refl _)
  have CQ := Lib.hid cq
  clear hg hA hok cq hA1
  have hmk : ∀ W : World, (Instr.makeSlice 42 (.int .i64 4) (.int .i64 4)).run Tryd.prog W = .ok (.slice (some ⟨W.heap.size, 0, none⟩) 4 4) (W.alloc (.cells #[.int .i64 0, .int .i64 0, .int .i64 0, .int .i64 0] 3)) := fun _ => by kernel_rfl
  go_enter Tryd.func5, Tryd.ntmps5
  go_wp2_with fail
  refine CQ.out.mono ?_
  rintro e w1 ⟨p, m, rfl, hq1, hb1, hp1, hm1⟩
  have HL0 : Hid (QL w (w1.alloc (.cells #[.int .i64 0, .int .i64 0, .int .i64 0, .int .i64 0] 3)) p m 0 none [] (fun _ => 0) none 0 [] w1.heap.size (fun _ => 0)) :=
    Lib.hid ⟨⟨HG0.out, bal hb1 _, hq1.keep (bal1 _ _), OWX.nil, fun b hb => by simp [Value.ownBlock] at hb⟩, AtB.new _ _ _, hb1.size⟩
  clear hq1 hb1 hp1 hm1
  go_wp2_with fail
  clear hmk
  generalize w1.heap.size = b at *
  go_loopw [6, 8, 9, 10, 11, 12, 13, 14, 15, 16, 17, 18, 19, 20] (fun s6 s8 _ _ _ _ _ _ _ _ _ _ _ _ wr => ∃ (k n : Nat) (g : Option Nat) (F : Int → Int) (A' : Option Addr) (c' : Nat) (X : List Ax), k ≤ 90 ∧ k ≤ l.length ∧ n ≤ k ∧ s8 = .int .i64 k ∧ s6 = .slice A' X.length c' ∧ Hid (QL w wr p m n g (X.map (·.1)) F A' c' X b F)) (fun _ i _ _ _ _ _ _ _ _ _ _ _ _ _ => 91 - (intOf i).toNat)
  case atStart => exact ⟨0, 0, none, _, none, 0, [], by omega, Nat.zero_le _, Nat.zero_le _, rfl, rfl, HL0⟩
  case round =>
    clear HL0
    obtain ⟨k, n, g, F, A', c', X, hk90, hkl, hnk, rfl, rfl, HL⟩ := hrel
    by_cases t1 : k < l.length
    · by_cases t2 : k < 90
      · obtain ⟨ba, oa, B, C, rfl, hbl, c0, c1', c2, c3, hv, hb1, hb2⟩ := HA.out.at_ t1
        obtain ⟨ok1, ok2, ok3, ok4⟩ := HOK.out k t1
        have hbj := HL.out.j.b
        have d0 := (hbj.cell (p := ⟨ba, oa + k * 4, none⟩) hbl).trans c0
        have d1 := (hbj.cell (p := ⟨ba, oa + k * 4 + 1, none⟩) hbl).trans c1'
        have d2 := (hbj.cell (p := ⟨ba, oa + k * 4 + 2, none⟩) hbl).trans c2
        have d3 := (hbj.cell (p := ⟨ba, oa + k * 4 + 3, none⟩) hbl).trans c3
        have i0 : (0 : Int) ≤ (k : Int) := by omega
        have i1 : (k : Int) < (l.length : Nat) := by omega
        have hml : (ak l k).t.length ≤ maxLen := by omega
        generalize ak l k = a at *
        have HV := Lib.hid hv; have HOA := Lib.hid (And.intro ok1 (And.intro ok3 hml)); have HCC := Lib.hid (And.intro hb1 hb2)
        clear c0 c1' c2 c3 hv hb1 hb2 ok1 ok2 ok3 ok4 hbj
        obtain ⟨W1, hW1⟩ : ∃ W1, W1 = wr.alloc (.cells #[.int .i64 a.w, .int .i64 a.q, .int .i64 a.d, .slice B a.t.length C] 31) := ⟨_, rfl⟩
        have HL1 := Lib.hid (show QL w W1 p m n g (X.map (·.1)) F A' c' X b F by rw [hW1]; exact HL.out.keep (bal1 _ _))
        have HX1 := Lib.hid (show AtB W1 wr.heap.size #[.int .i64 a.w, .int .i64 a.q, .int .i64 a.d, .slice B a.t.length C] 31 by rw [hW1]; exact AtB.new _ _ _)
        have HOB := Lib.hid (fun z (hz : (Value.slice A' X.length c').ownBlock = some z) => (HL.out.j.o.win.block hz).2.lt)
        have HGB := Lib.hid (fun z (hz : g = some z) => (HL.out.j.q.gkin hz).2.lt)
        have HBX := Lib.hid HL.out.j.q.hb
        obtain ⟨tb, htb⟩ : ∃ tb, tb = (decide (k < ps.length) && (gi ps k == 0)) := ⟨_, rfl⟩
        go_upto_region 8 with fail
        rw [← hW1]
        clear hW1 d0 d1 d2 d3
        generalize wr.heap.size = bx at *
        go_cut [47] (fun s47 wx => s47 = .bool tb ∧ wx = W1)
        case first =>
          by_cases t3 : k < ps.length
          · obtain ⟨bp, op, rfl, hbp, cp0⟩ := HA1.out.at_ t3
            have e0 := (HL1.out.j.b.cell (p := ⟨bp, op + k, none⟩) hbp).trans cp0
            have i3 : (k : Int) < (ps.length : Nat) := by omega
            have htb' : tb = (gi ps k == 0) := by rw [htb]; simp [t3]
            have HTB := Lib.hid htb'
            clear htb htb' cp0
            go_wp2_with fail
            go_meet
            case rel => exact ⟨by rw [HTB.out], by first | rfl | trivial⟩
          · have i3 : decide ((k : Int) < (ps.length : Nat)) = false := by simp; omega
            have htb' : tb = false := by rw [htb]; simp [t3]
            have HTB := Lib.hid htb'
            clear htb htb'
            go_wp2_with fail
            go_meet
            case rel => exact ⟨by rw [HTB.out], by first | rfl | trivial⟩
        case rest =>
          obtain ⟨rfl, rfl⟩ := hcut
          clear htb
          obtain ⟨W1, hw⟩ : ∃ W1 : World, W1 = wc := ⟨_, rfl⟩
          subst hw
          go_upto_if 47 with fail
          go_cut [6] (fun s6 wx => ∃ (A2 : Option Addr) (c2 : Nat) (X2 : List Ax), s6 = .slice A2 X2.length c2 ∧ Hid (QL w wx p m n g (X2.map (·.1)) F A2 c2 X2 b F) ∧ Hid (AtB wx bx #[.int .i64 a.w, .int .i64 a.q, .int .i64 a.d, .slice B a.t.length C] 31) ∧ Hid (∀ z, (Value.slice A2 X2.length c2).ownBlock = some z → z < bx))
          case first =>
            cases tb with
            | false =>
              go_wp2_with fail
              go_meet
              case rel => exact ⟨A', c', X, rfl, HL1, HX1, HOB⟩
            | true =>
              cases X with
              | nil =>
                rw [show ([] : List Ax).length = 0 from rfl]
                have cp := fun (W : World) (k : QL w W p m n g [] F A' c' [] b F) => qlpop_no k
                have CP := Lib.hid cp
                have HY1 := Lib.hid (AtB.new W1 #[.int .i64 0, .int .i64 0, .int .i64 0, .slice none 0 0] 31)
                have HX2 := Lib.hid (HX1.out.alloc (.cells #[.int .i64 0, .int .i64 0, .int .i64 0, .slice none 0 0] 31))
                have HL2 := Lib.hid (HL1.out.keep (bal1 W1 (.cells #[.int .i64 0, .int .i64 0, .int .i64 0, .slice none 0 0] 31)))
                clear cp HL1 HX1
                go_wp2_with fail
                refine (CP.out _ HL2.out).mono ?_
                rintro e w3 ⟨rfl, hl3, hb3⟩
                have HL3 := Lib.hid hl3; have HX3 := Lib.hid (HX2.out.below hb3 HX2.out.lt); have HY3 := Lib.hid (HY1.out.below hb3 HY1.out.lt)
                clear hl3 hb3 HY1 HX2 HL2
                obtain ⟨W4, hW4⟩ : ∃ W4, W4 = w3.alloc (.cells #[.int .i64 0, .int .i64 0, .int .i64 0, .slice none 0 0] 31) := ⟨_, rfl⟩
                have hb34 : Below w3.heap.size w3 W4 := by rw [hW4]; exact bal1 _ _
                have HL4 := Lib.hid (HL3.out.keep hb34)
                have HX4 := Lib.hid (HX3.out.below hb34 HX3.out.lt)
                have HY4 := Lib.hid (HY3.out.below hb34 HY3.out.lt)
                have HZ4 := Lib.hid (show AtB W4 w3.heap.size #[.int .i64 0, .int .i64 0, .int .i64 0, .slice none 0 0] 31 by rw [hW4]; exact AtB.new _ _ _)
                have HG4 := Lib.hid HL4.out.j.hg
                go_wp2_with fail
                rw [← hW4]
                clear hW4 hb34
                generalize w3.heap.size = b12 at *
                generalize W1.heap.size = b11 at *
                go_wp2_with (first | (go_at_call 24; (with_reducible refine (same_errW 5 _ HG4.out).mono ?_); rintro e w5 ⟨rfl, hb5⟩; have y0 := (HY4.out.below hb5 HY4.out.lt).cell (i := 0) rfl; have y1 := (HY4.out.below hb5 HY4.out.lt).cell (i := 1) rfl; have y2 := (HY4.out.below hb5 HY4.out.lt).cell (i := 2) rfl; have y3 := (HY4.out.below hb5 HY4.out.lt).cell (i := 3) rfl; have z0 := (HZ4.out.below hb5 HZ4.out.lt).cell (i := 0) rfl; have z1 := (HZ4.out.below hb5 HZ4.out.lt).cell (i := 1) rfl; have z2 := (HZ4.out.below hb5 HZ4.out.lt).cell (i := 2) rfl; have z3 := (HZ4.out.below hb5 HZ4.out.lt).cell (i := 3) rfl; have HB5 := Lib.hid hb5) | (go_at_call 27; refine (same_t0 _ _ _ _ _).mono ?_; rintro e w6 ⟨rfl, hb6⟩; have HB6 := Lib.hid (bcl hb5 hb6)))
                go_wp2_with fail
                go_meet
                case rel => exact ⟨A', c', [], rfl, Lib.hid (HL4.out.keep HB6.out), Lib.hid (HX4.out.below HB6.out HX4.out.lt), HOB⟩
              | cons x X =>
                obtain ⟨bo, oo, rfl, hbo, x0, x1, x2, x3, hxv⟩ := HL1.out.j.o.at_ (i := 0) (by simp)
                rw [show ax (x :: X) 0 = x from rfl, Nat.zero_mul, Nat.add_zero] at x0 x1 x2 x3
                rw [show ax (x :: X) 0 = x from rfl] at hxv
                have hcap := HL1.out.j.o.cap
                have hx5 : x.1.t.length ≤ maxLen := by have := (HL1.out.j.o.inn x (by simp)).2; omega
                rw [List.length_cons] at hcap
                have hlx : ((x :: X).length : Int) = X.length + 1 := by simp
                have HXV := Lib.hid hxv; have HX5 := Lib.hid hx5
                obtain ⟨W2, hW2⟩ : ∃ W2, W2 = W1.alloc (.cells #[.int .i64 x.1.w, .int .i64 x.1.q, .int .i64 x.1.d, .slice x.2.1 x.1.t.length x.2.2] 31) := ⟨_, rfl⟩
                have hb12 : Below W1.heap.size W1 W2 := by rw [hW2]; exact bal1 _ _
                have HY2 := Lib.hid (show AtB W2 W1.heap.size #[.int .i64 x.1.w, .int .i64 x.1.q, .int .i64 x.1.d, .slice x.2.1 x.1.t.length x.2.2] 31 by rw [hW2]; exact AtB.new _ _ _)
                have HX2 := Lib.hid (HX1.out.below hb12 HX1.out.lt)
                have hcut := (HL1.out.keep hb12).cut1
                have HV2 := Lib.hid ((HL1.out.j.o.inn x (by simp)).below HL1.out.j.q.hb hb12)
                have hl1 : W1.heap.size < W2.heap.size := HY2.out.lt
                have cp := fun (W : World) (A' : Option Addr) (c' : Nat) (k : QL w W p m n g (x.1 :: X.map (·.1)) F A' c' X b F) => qlpop k
                have CP := Lib.hid cp
                have hm2 : c' ≤ 9223372036854775807 := by have := hcap.2; unfold maxLen at this; omega
                have hne1 : bo ≠ W1.heap.size := Nat.ne_of_lt hbo
                rw [List.length_cons]
                clear cp hxv hx5 hlx hb12 hcap HL1 HX1
                by_cases ec : c' = 1
                · subst ec
                  rw [if_pos rfl] at hcut
                  have HL2 := Lib.hid hcut
                  clear hcut
                  go_wp2_with fail
                  rw [← hW2]
                  refine (CP.out _ _ _ HL2.out).mono ?_
                  rintro e w3 ⟨Bp, Cp, rfl, hax, hl3, hc3⟩
                  have HL3 := Lib.hid hl3
                  have HX3 := Lib.hid (HX2.out.chs hc3 (fun e => kin_ne HX2.out.kin HL2.out.j.q.pkin (by decide) e))
                  have HY3 := Lib.hid (HY2.out.chs hc3 (fun e => kin_ne HY2.out.kin HL2.out.j.q.pkin (by decide) e))
                  have HP3 := Lib.hid hax.1
                  have HQ3 := Lib.hid (HV2.out.chs HL2.out.j.q.hb hc3 (fun z hz => HL2.out.j.q.qm z (.inl hz))).1
                  clear hl3 hc3 hax HX2 HY2 HL2 HV2
                  obtain ⟨W4, hW4⟩ : ∃ W4, W4 = w3.alloc (.cells #[.int .i64 x.1.w, .int .i64 x.1.q, .int .i64 x.1.d, .slice Bp x.1.t.length Cp] 31) := ⟨_, rfl⟩
                  have hb34 : Below w3.heap.size w3 W4 := by rw [hW4]; exact bal1 _ _
                  have HL4 := Lib.hid (HL3.out.keep hb34)
                  have HX4 := Lib.hid (HX3.out.below hb34 HX3.out.lt)
                  have HY4 := Lib.hid (HY3.out.below hb34 HY3.out.lt)
                  have HZ4 := Lib.hid (show AtB W4 w3.heap.size #[.int .i64 x.1.w, .int .i64 x.1.q, .int .i64 x.1.d, .slice Bp x.1.t.length Cp] 31 by rw [hW4]; exact AtB.new _ _ _)
                  have HG4 := Lib.hid HL4.out.j.hg
                  have HP4 := Lib.hid (HP3.out.below hb34 (Nat.le_refl _)); have HQ4 := Lib.hid (HQ3.out.below hb34 (Nat.le_refl _))
                  go_wp2_with fail
                  rw [← hW4]
                  clear hW4 hb34
                  generalize w3.heap.size = b12 at *
                  generalize W1.heap.size = b11 at *
                  go_wp2_with (first | (go_at_call 24; (with_reducible refine (same_nilW _).mono ?_); rintro e w5 ⟨rfl, hb5⟩; have y0 := (HY4.out.below hb5 HY4.out.lt).cell (i := 0) rfl; have y1 := (HY4.out.below hb5 HY4.out.lt).cell (i := 1) rfl; have y2 := (HY4.out.below hb5 HY4.out.lt).cell (i := 2) rfl; have y3 := (HY4.out.below hb5 HY4.out.lt).cell (i := 3) rfl; have z0 := (HZ4.out.below hb5 HZ4.out.lt).cell (i := 0) rfl; have z1 := (HZ4.out.below hb5 HZ4.out.lt).cell (i := 1) rfl; have z2 := (HZ4.out.below hb5 HZ4.out.lt).cell (i := 2) rfl; have z3 := (HZ4.out.below hb5 HZ4.out.lt).cell (i := 3) rfl; have HB5 := Lib.hid hb5) | (go_at_call 27; refine (same_tT _ _ _ _ x.1.t _ (HP4.out.below hb5 (Nat.le_refl _)) (HQ4.out.below hb5 (Nat.le_refl _)) HX5.out).mono ?_; rintro e w6 ⟨rfl, hb6⟩; have HB6 := Lib.hid (bcl hb5 hb6)))
                  go_wp2_with fail
                  go_meet
                  case rel => exact ⟨_, _, X, rfl, Lib.hid (HL4.out.keep HB6.out), Lib.hid (HX4.out.below HB6.out HX4.out.lt), Lib.hid (fun z hz => HOB.out z hz)⟩
                · rw [if_neg ec] at hcut
                  have HL2 : Hid (QL w W2 p m n g ((x :: X).map (·.1)) F (some ⟨bo, oo + 4, none⟩) (c' - 1) X b F) := Lib.hid (by simpa [Addr.add] using hcut)
                  clear hcut
                  go_wp2_with fail
                  rw [← hW2]
                  refine (CP.out _ _ _ HL2.out).mono ?_
                  rintro e w3 ⟨Bp, Cp, rfl, hax, hl3, hc3⟩
                  have HL3 := Lib.hid hl3
                  have HX3 := Lib.hid (HX2.out.chs hc3 (fun e => kin_ne HX2.out.kin HL2.out.j.q.pkin (by decide) e))
                  have HY3 := Lib.hid (HY2.out.chs hc3 (fun e => kin_ne HY2.out.kin HL2.out.j.q.pkin (by decide) e))
                  have HP3 := Lib.hid hax.1
                  have HQ3 := Lib.hid (HV2.out.chs HL2.out.j.q.hb hc3 (fun z hz => HL2.out.j.q.qm z (.inl hz))).1
                  clear hl3 hc3 hax HX2 HY2 HL2 HV2
                  obtain ⟨W4, hW4⟩ : ∃ W4, W4 = w3.alloc (.cells #[.int .i64 x.1.w, .int .i64 x.1.q, .int .i64 x.1.d, .slice Bp x.1.t.length Cp] 31) := ⟨_, rfl⟩
                  have hb34 : Below w3.heap.size w3 W4 := by rw [hW4]; exact bal1 _ _
                  have HL4 := Lib.hid (HL3.out.keep hb34)
                  have HX4 := Lib.hid (HX3.out.below hb34 HX3.out.lt)
                  have HY4 := Lib.hid (HY3.out.below hb34 HY3.out.lt)
                  have HZ4 := Lib.hid (show AtB W4 w3.heap.size #[.int .i64 x.1.w, .int .i64 x.1.q, .int .i64 x.1.d, .slice Bp x.1.t.length Cp] 31 by rw [hW4]; exact AtB.new _ _ _)
                  have HG4 := Lib.hid HL4.out.j.hg
                  have HP4 := Lib.hid (HP3.out.below hb34 (Nat.le_refl _)); have HQ4 := Lib.hid (HQ3.out.below hb34 (Nat.le_refl _))
                  go_wp2_with fail
                  rw [← hW4]
                  clear hW4 hb34
                  generalize w3.heap.size = b12 at *
                  generalize W1.heap.size = b11 at *
                  go_wp2_with (first | (go_at_call 24; (with_reducible refine (same_nilW _).mono ?_); rintro e w5 ⟨rfl, hb5⟩; have y0 := (HY4.out.below hb5 HY4.out.lt).cell (i := 0) rfl; have y1 := (HY4.out.below hb5 HY4.out.lt).cell (i := 1) rfl; have y2 := (HY4.out.below hb5 HY4.out.lt).cell (i := 2) rfl; have y3 := (HY4.out.below hb5 HY4.out.lt).cell (i := 3) rfl; have z0 := (HZ4.out.below hb5 HZ4.out.lt).cell (i := 0) rfl; have z1 := (HZ4.out.below hb5 HZ4.out.lt).cell (i := 1) rfl; have z2 := (HZ4.out.below hb5 HZ4.out.lt).cell (i := 2) rfl; have z3 := (HZ4.out.below hb5 HZ4.out.lt).cell (i := 3) rfl; have HB5 := Lib.hid hb5) | (go_at_call 27; refine (same_tT _ _ _ _ x.1.t _ (HP4.out.below hb5 (Nat.le_refl _)) (HQ4.out.below hb5 (Nat.le_refl _)) HX5.out).mono ?_; rintro e w6 ⟨rfl, hb6⟩; have HB6 := Lib.hid (bcl hb5 hb6)))
                  go_wp2_with fail
                  go_meet
                  case rel => exact ⟨_, _, X, rfl, Lib.hid (HL4.out.keep HB6.out), Lib.hid (HX4.out.below HB6.out HX4.out.lt), Lib.hid (fun z hz => HOB.out z hz)⟩
          case rest =>
            clear HL HL1 HX1 HOB
            obtain ⟨A2, c2, X2, rfl, HL1, HX1, HOB⟩ := hcut
            obtain ⟨W1, hw⟩ : ∃ W1 : World, W1 = wc := ⟨_, rfl⟩
            subst hw
            have x0 := HX1.out.cell (i := 0) rfl
            have f0 := HX1.out.frozen 0
            go_upto_if 96 with fail
            go_cut [9] (fun s9 wx => s9 = .pointer (some ⟨bx, 0, none⟩) ∧ Hid (QL w wx p m n g (X2.map (·.1)) F A2 c2 X2 b F) ∧ Hid (AtB wx bx #[.int .i64 (ak3 a).w, .int .i64 (ak3 a).q, .int .i64 (ak3 a).d, .slice B (ak3 a).t.length C] 31))
            case first =>
              by_cases h3 : 3 < a.w
              · have hk : ak3 a = ⟨3, a.q, a.d, a.t⟩ := if_pos h3
                have HK := Lib.hid hk
                clear hk
                go_wp2_with fail
                go_meet
                case rel => exact ⟨rfl, Lib.hid (HL1.out.box HX1.out HBX.out HGB.out HOB.out 0 _), Lib.hid (by rw [HK.out]; exact HX1.out.set 0 _)⟩
              · have hk : ak3 a = a := if_neg h3
                have HK := Lib.hid hk
                clear hk
                go_wp2_with fail
                go_meet
                case rel => exact ⟨rfl, HL1, Lib.hid (by rw [HK.out]; exact HX1.out)⟩
            case rest =>
              clear HL1 HX1 x0 f0
              obtain ⟨rfl, HL5, HX5⟩ := hcut
              obtain ⟨W5, hw⟩ : ∃ W5 : World, W5 = wc := ⟨_, rfl⟩
              subst hw
              have hak := ak3_q a
              have hle := ak3_le a
              have hoa := HOA.out
              have hva := HV.out
              rw [← hak.2.2] at hoa hva
              rw [← hak.1] at hoa
              have hcc := HCC.out
              rw [← hak.2.2] at hcc
              generalize ak3 a = a3 at *
              have HOA3 := Lib.hid hoa; have HV3 := Lib.hid hva; have HCC3 := Lib.hid hcc
              clear hak hoa hva hcc HOA HV HCC
              have crk := fun (W : World) (V : Vals W B a3.t) => (rask_any a3.w a3.q a3.d a3.t B C HOA3.out.2.2 HOA3.out.1 W V : Calls Tryd.prog 28 #[.agg #[.int .i64 a3.w, .int .i64 a3.q, .int .i64 a3.d, .slice B a3.t.length C]] W fun e w' => e = .returned (.int .i64 (qcE a3)) ∧ Below W.heap.size W w')
              have CRK := Lib.hid crk
              have x0 := HX5.out.cell (i := 0) rfl
              have x1 := HX5.out.cell (i := 1) rfl
              have x2 := HX5.out.cell (i := 2) rfl
              have x3 := HX5.out.cell (i := 3) rfl
              have hx30 : X2.length ≤ 30 := by have := HL5.out.j.q.len; rwa [List.length_map] at this
              clear crk
              go_upto_if 101 with (go_at_call 28; refine (CRK.out _ (HV3.out.below HL5.out.j.b (Nat.le_refl _))).mono ?_; rintro e w6 ⟨rfl, hb6⟩; have HL6 := Lib.hid (HL5.out.keep hb6); have HX6 := Lib.hid (HX5.out.below hb6 HX5.out.lt); clear hb6)
              clear x0 x1 x2 x3 HL5 HX5 CRK
              go_cut [6, 15] (fun s6 s15 wx => ∃ (A3 : Option Addr) (c3 : Nat) (X3 : List Ax), s15 = .int .i64 (puE (X2.map (·.1)) F a3) ∧ s6 = .slice A3 X3.length c3 ∧ Hid (X3.map (·.1) = if puE (X2.map (·.1)) F a3 = 0 then X2.map (·.1) ++ [a3] else X2.map (·.1)) ∧ Hid (QL w wx p m n g (X2.map (·.1)) F A3 c3 X3 b (if puE (X2.map (·.1)) F a3 = 0 then (fun y => if y = a3.w then a3.q else F y) else F)) ∧ Hid (AtB wx bx #[.int .i64 a3.w, .int .i64 a3.q, .int .i64 a3.d, .slice B a3.t.length C] 31))
              case first =>
                have FB := Lib.hid HL6.out.j.q.fb
                by_cases e0 : qcE a3 = 0
                · obtain ⟨hw, hd, t0, t5, _, _⟩ := qcE_zero e0
                  have hw0 := (whoB_true.1 hw).1
                  obtain ⟨j, hj⟩ := Int.eq_ofNat_of_zero_le hw0
                  have hj4 : j < 4 := by omega
                  obtain ⟨f0, f1⟩ := FB.out a3.w
                  have l0 := HL6.out.l.cell (i := j) (lastA_at F hj4)
                  have lf := HL6.out.l.frozen j
                  have x0 := HX6.out.cell (i := 0) rfl
                  have x1 := HX6.out.cell (i := 1) rfl
                  have x2 := HX6.out.cell (i := 2) rfl
                  have x3 := HX6.out.cell (i := 3) rfl
                  have j0 : (0 : Int) ≤ (j : Int) := by omega
                  have j1 : (j : Int) < 4 := by omega
                  rw [← hj] at l0
                  have l1 : w6.cell? ⟨b, j, none⟩ = some (.int .i64 (F a3.w)) := l0
                  have x0' : w6.cell? ⟨bx, 0, none⟩ = some (.int .i64 (j : Int)) := by rw [← hj]; exact x0
                  have HJ := Lib.hid hj; have HE0 := Lib.hid e0; have T0 := Lib.hid t0
                  rw [e0]
                  clear hw hd t0 t5 hw0 hj e0 l0 x0
                  obtain ⟨y, hy⟩ : ∃ y, F a3.w = y := ⟨_, rfl⟩
                  rw [hy] at f0 f1 l1
                  have HY := Lib.hid hy
                  clear hy
                  by_cases e1 : a3.q < y + 1
                  · have hpu : puE (X2.map (·.1)) F a3 = 7 := by rw [puE, if_neg (by simp [HE0.out]), if_pos (by rw [HY.out]; exact e1)]
                    have HPU := Lib.hid hpu
                    have d1 := decide_eq_true e1
                    clear hpu e1
                    go_wp2_with fail
                    go_meet
                    case rel => exact ⟨A2, c2, X2, by rw [HPU.out], rfl, Lib.hid (by rw [HPU.out, if_neg (by decide)]), Lib.hid (by rw [HPU.out, if_neg (by decide)]; exact HL6.out), HX6⟩
                  · by_cases e2 : y + 1 < a3.q
                    · have hpu : puE (X2.map (·.1)) F a3 = 6 := by rw [puE, if_neg (by simp [HE0.out]), if_neg (by rw [HY.out]; exact e1), if_pos (by rw [HY.out]; exact e2)]
                      have HPU := Lib.hid hpu
                      have d1 := decide_eq_false e1
                      have d2 := decide_eq_true e2
                      clear hpu e1 e2
                      go_wp2_with fail
                      go_meet
                      case rel => exact ⟨A2, c2, X2, by rw [HPU.out], rfl, Lib.hid (by rw [HPU.out, if_neg (by decide)]), Lib.hid (by rw [HPU.out, if_neg (by decide)]; exact HL6.out), HX6⟩
                    · by_cases e3 : X2.length = 30
                      · have hpu : puE (X2.map (·.1)) F a3 = 4 := by rw [puE, if_neg (by simp [HE0.out]), if_neg (by rw [HY.out]; exact e1), if_neg (by rw [HY.out]; exact e2), if_pos (by rw [List.length_map]; exact e3)]
                        have HPU := Lib.hid hpu
                        have d1 := decide_eq_false e1
                        have d2 := decide_eq_false e2
                        have d3 : decide ((30 : Int) ≤ (X2.length : Nat)) = true := by simp; omega
                        clear hpu e1 e2 e3
                        go_wp2_with fail
                        go_meet
                        case rel => exact ⟨A2, c2, X2, by rw [HPU.out], rfl, Lib.hid (by rw [HPU.out, if_neg (by decide)]), Lib.hid (by rw [HPU.out, if_neg (by decide)]; exact HL6.out), HX6⟩
                      · have hpu : puE (X2.map (·.1)) F a3 = 0 := by rw [puE, if_neg (by simp [HE0.out]), if_neg (by rw [HY.out]; exact e1), if_neg (by rw [HY.out]; exact e2), if_neg (by rw [List.length_map]; exact e3)]
                        have HPU := Lib.hid hpu
                        have d1 := decide_eq_false e1
                        have d2 := decide_eq_false e2
                        have d3 : decide ((30 : Int) ≤ (X2.length : Nat)) = false := by simp; omega
                        have hl2 : X2.length ≤ 1000000 := by omega
                        clear hpu e1 e2 e3
                        go_upto_region 31 with fail
                        obtain ⟨W7, hW7⟩ : ∃ W7, W7 = w6.setCell ⟨b, j, none⟩ (.int .i64 a3.q) := ⟨_, rfl⟩
                        have HL7 := Lib.hid (show QL w W7 p m n g (X2.map (·.1)) F A2 c2 X2 b (fun y => if y = (j : Int) then a3.q else F y) by rw [hW7]; exact HL6.out.set hj4 a3.q)
                        have HX7 := Lib.hid (show AtB W7 bx #[.int .i64 a3.w, .int .i64 a3.q, .int .i64 a3.d, .slice B a3.t.length C] 31 by rw [hW7]; exact HX6.out.far (fun e => kin_ne HX6.out.kin HL6.out.l.kin (by decide) e) _)
                        rw [← hW7]
                        have hna : [Value.int .i64 (j : Int), .int .i64 a3.q, .int .i64 a3.d, .slice B a3.t.length C] = axv (a3, B, C) := by simp [axv, HJ.out]
                        have HNA := Lib.hid hna
                        have z0 : W7.cell? ⟨bx, 0, none⟩ = some (.int .i64 (j : Int)) := by rw [← HJ.out]; exact HX7.out.cell (i := 0) rfl
                        have z1 := HX7.out.cell (i := 1) rfl
                        have z2 := HX7.out.cell (i := 2) rfl
                        have z3 := HX7.out.cell (i := 3) rfl
                        clear hW7 x0' x1 x2 x3 l1 lf hna HL6 HX6
                        go_wp2_with (at_builtin; refine wpList_append_win rfl _ _ 37 rfl w.heap.size 31 _ 4 48 Tryd.underlying37 infoAsk rfl (by decide) (.slice A2 X2.length c2) X2.length (axCells X2) rfl (HL7.out.j.o.win.keep (bal1 _ _)) W7.heap.size [.int .i64 (j : Int), .int .i64 a3.q, .int .i64 a3.d, .slice B a3.t.length C] rfl rfl (news_at _ #[.int .i64 (j : Int), .int .i64 a3.q, .int .i64 a3.d, .slice B a3.t.length C] _) (by simp [Value.oneCell']) hl2 (by decide) (le_al HL7.out.j.q.hb _) ?_; rw [HNA.out]; intro b4 o4 c4 w8 hW8 hg8 hx8; have hL8 := HL7.out.app (x := (a3, B, C)) (Axin.of_arg HV3.out HCC3.out.1 HCC3.out.2 T0.out HL7.out.j.b) hW8 hg8 hx8; have HL8 := Lib.hid hL8.1; have HX8 := Lib.hid (bx_app HX7.out HOB.out hg8); clear hW8 hg8 hx8 hL8)
                        go_wp2_with fail
                        go_meet
                        case rel => exact ⟨some ⟨b4, o4, none⟩, c4, X2 ++ [(a3, B, C)], by rw [HPU.out], by simp, Lib.hid (by rw [HPU.out, if_pos rfl]; simp), Lib.hid (by rw [HPU.out, if_pos rfl, HJ.out]; exact HL8.out), HX8⟩
                · have hpu : puE (X2.map (·.1)) F a3 = qcE a3 := by rw [puE, if_pos e0]
                  have HPU := Lib.hid hpu; have HE0 := Lib.hid e0
                  have q0 : (qcE a3 == 0) = false := beq_eq_false_iff_ne.2 e0
                  obtain ⟨E, hE⟩ : ∃ E, qcE a3 = E := ⟨_, rfl⟩
                  have HE := Lib.hid hE
                  rw [hE] at q0 ⊢
                  clear hpu e0 hE
                  go_wp2_with fail
                  go_meet
                  case rel => exact ⟨A2, c2, X2, by rw [HPU.out, HE.out], rfl, Lib.hid (by rw [HPU.out, if_neg HE0.out]), Lib.hid (by rw [HPU.out, if_neg HE0.out]; exact HL6.out), HX6⟩
              case rest =>
                clear HL6 HX6 HOB
                obtain ⟨A3, c3, X3, rfl, rfl, HE3, HL7, HX7⟩ := hcut
                obtain ⟨W7, hw⟩ : ∃ W7 : World, W7 = wc := ⟨_, rfl⟩
                subst hw
                have cp := qlpush HL7.out a3 HOA3.out.2.1 B C HOA3.out.2.2 HOA3.out.1 (by omega) (HV3.out.below HL7.out.j.b (Nat.le_refl _))
                rw [← HE3.out] at cp
                obtain ⟨n3, hn3⟩ : ∃ n3, n3 = if puE (X2.map (·.1)) F a3 = 0 then n + 1 else n := ⟨_, rfl⟩
                have hn3' : n3 ≤ n + 1 := by rw [hn3]; split <;> omega
                obtain ⟨F3, hF3⟩ : ∃ F3, F3 = if puE (X2.map (·.1)) F a3 = 0 then (fun y => if y = a3.w then a3.q else F y) else F := ⟨_, rfl⟩
                rw [← hn3, ← hF3] at cp
                have x0 := HX7.out.cell (i := 0) rfl
                have x1 := HX7.out.cell (i := 1) rfl
                have x2 := HX7.out.cell (i := 2) rfl
                have x3 := HX7.out.cell (i := 3) rfl
                obtain ⟨E, hE⟩ : ∃ E, puE (X2.map (·.1)) F a3 = E := ⟨_, rfl⟩
                rw [hE] at cp ⊢
                have CP := Lib.hid cp
                clear hn3 hF3 HE3 hE cp HL7 HX7
                have cc := fun (W : World) (G : Option Nat) (k : QL w W p m n3 G (X3.map (·.1)) F3 A3 c3 X3 b F3) => (qcount_any _ p m n3 G _ F3 W k.j.q).mono (R' := fun e w' => e = .returned (.int .i64 X3.length) ∧ W = w') fun e w' ⟨h1, h2⟩ => ⟨by rw [h1, List.length_map], h2⟩
                have CC := Lib.hid cc
                clear cc
                go_upto_block 2 with (first
                  | (go_at_call 22; refine CP.out.mono ?_; rintro e w8 ⟨rfl, g8, hl8⟩; have HL8 := Lib.hid hl8; have HG8 := Lib.hid hl8.j.hg; clear hl8)
                  | (go_at_call 24; refine (same_eW _ _ HG8.out).mono ?_; rintro e w9 ⟨rfl, hb9⟩; have HL9 := Lib.hid (HL8.out.keep hb9); clear hb9)
                  | (go_at_call 25; refine (CC.out _ _ HL9.out).mono ?_; rintro e w' ⟨rfl, rfl⟩))
                clear x0 x1 x2 x3 HL8 HG8 CP CC
                go_wp2_with fail
                obtain ⟨wo, hwo⟩ : ∃ wo : World, wo = wr := ⟨_, rfl⟩
                subst hwo
                go_loopw [17, 18, 19, 20] (fun _ s18 _ _ wx => ∃ i : Int, -1 ≤ i ∧ i ≤ 4 ∧ s18 = .int .i64 i ∧ Hid (QL w wx p m n3 g8 (X3.map (·.1)) F3 A3 c3 X3 b F3)) (fun _ i _ _ _ => (5 - intOf i).toNat)
                case atStart => exact ⟨-1, by omega, by omega, rfl, HL9⟩
                case round =>
                  clear HL9
                  obtain ⟨i, hi1, hi4, rfl, HL⟩ := hrel
                  by_cases t5 : i < 4
                  · by_cases t6 : i < 0
                    · obtain rfl : i = -1 := by omega
                      have HGW := Lib.hid HL.out.j.hg
                      go_wp2_with (first | (go_at_call 23; refine (qnext_no _ (-1) (by decide) _).mono ?_; rintro e w' ⟨rfl, rfl⟩) | (go_at_call 24; refine (same_errW 1 _ HGW.out).mono ?_; rintro e w9 ⟨rfl, hb9⟩; have HL9 := Lib.hid (HL.out.keep hb9); clear hb9))
                      go_roundw
                      case rel => exact ⟨0, by omega, by omega, by first | rfl | go_num, HL9⟩
                      case measure => simp [intOf]
                    · obtain ⟨j, rfl⟩ := Int.eq_ofNat_of_zero_le (show 0 ≤ i by omega)
                      have hj4 : j < 4 := by omega
                      have j0 : (0 : Int) ≤ (j : Int) := by omega
                      have j1 : (j : Int) < 4 := by omega
                      have cn := qnext_ok _ p m n3 g8 (X3.map (·.1)) F3 (j : Int) (whoB_true.2 ⟨by omega, by omega⟩) (by omega) _ HL.out.j.q
                      have l0 := HL.out.l.cell (i := j) (lastA_at F3 hj4)
                      obtain ⟨f0, f1⟩ := HL.out.j.q.fb (j : Int)
                      generalize F3 (j : Int) = y at *
                      have CN := Lib.hid cn
                      clear cn
                      go_wp2_with (go_at_call 23; refine CN.out.mono ?_; rintro e w' ⟨rfl, rfl⟩)
                      go_roundw
                      case rel => exact ⟨(j : Int) + 1, by omega, by omega, rfl, HL⟩
                      case measure => simp [intOf]; omega
                  · obtain rfl : i = 4 := by omega
                    go_wp2_with fail
                    go_roundw
                    case rel => exact ⟨k + 1, n3, g8, F3, A3, c3, X3, by omega, by omega, by omega, by go_num, rfl, HL⟩
                    case measure => simp [intOf]; omega
      · have hf : decide ((k : Int) < 90) = false := by simp; omega
        go_wp2_with fail
        go_ret
        exact ⟨ret_true (by first | rfl | (simp; done) | (simp; omega)), HL.out.j.b⟩
    · have hf : decide ((k : Int) < (l.length : Nat)) = false := by simp; omega
      go_wp2_with fail
      go_ret
      exact ⟨ret_true (by first | rfl | (simp; done) | (simp; omega)), HL.out.j.b⟩
end Go.Proofs.YthpemlhlgjdnkaaDoor.queuePlays
