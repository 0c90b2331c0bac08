/- Package mirror: Do. -/
import Derived.Test.YthkaaheeblehhaaDoorCpStep
namespace Go.Proofs.YthkaaheeblehhaaDoor
open Go.ChangeShapes Go.WideShapes Go.ChangeAt Go.RowKit Go.Maps Go.WideMaps
set_option linter.unusedVariables false

theorem nw_le {g g' : Option Nat} {n n' : Nat} (h : Nw g g' n') (hn : n ≤ n') : Nw g g' n := h.elim .inl fun ⟨b, e, k⟩ => .inr ⟨b, e, Nat.le_trans hn k⟩
theorem nw_cm {g g' : Option Nat} {n n' p q m b : Nat} (h : Nw g g' n') (hn : n ≤ n') (hb : CM p q g' m b) : CM p q g m b ∨ n' ≤ b := by
  rcases hb with h1 | h1 | h1 | h1
  · exact .inl (.inl h1)
  · exact .inl (.inr (.inl h1))
  · rcases h with rfl | ⟨c, rfl, k⟩
    · exact .inl (.inr (.inr (.inl h1)))
    · exact .inr (by injection h1 with h1; omega)
  · exact .inl (.inr (.inr (.inr h1)))
section
variable {w : World} {base p q m : Nat} {g : Option Nat} {R : List Ru} {s : Cs}
set_option maxHeartbeats 3200000 in
set_option maxRecDepth 100000 in
theorem cpdo_any (hC : Cpy w base p q g m R s) (ht : ∀ W, Below base w W → TT W) (hn : s.n ≤ 1000000) (a : Ak) (A : Option Addr) (c : Nat) (hm : a.t.length ≤ maxLen) (hok : okL a.t) (hq64 : I64 a.q) (hA : Vals w A a.t) :
    Calls Tryd.prog 10 #[.pointer (some ⟨p, 0, none⟩), akv a A c] w fun e w' => e = .returned (.tuple #[.string (doS R s a), eV (doE R s a)]) ∧
      ∃ g', Cpy w' base p q g' m R (doC R s a) ∧ Chs (CM p q g m) w w' ∧ Nw g g' w.heap.size := by
  have cc := fun W (hW : Below w.heap.size w W) => qcheck_any a A c hm hok W (hA.below hW (Nat.le_refl _))
  obtain ⟨RA, rc, h1, h2⟩ := hC.there
  have hpz := hC.pkin.lt
  obtain ⟨W1, hW1⟩ : ∃ W1, W1 = w.alloc (.cells #[.int .i64 a.w, .int .i64 a.q, .int .i64 a.d, .slice A a.t.length c] 24) := ⟨_, rfl⟩
  have hb01 : Below w.heap.size w W1 := by rw [hW1]; exact bal1 _ _
  have B1 : AtB W1 w.heap.size #[.int .i64 a.w, .int .i64 a.q, .int .i64 a.d, .slice A a.t.length c] 24 := by rw [hW1]; exact AtB.new _ _ _
  have k0 : W1.cell? ⟨w.heap.size, 0, none⟩ = some (.int .i64 a.w) := B1.cell rfl
  have k1 : W1.cell? ⟨w.heap.size, 1, none⟩ = some (.int .i64 a.q) := B1.cell rfl
  have k2 : W1.cell? ⟨w.heap.size, 2, none⟩ = some (.int .i64 a.d) := B1.cell rfl
  have k3 : W1.cell? ⟨w.heap.size, 3, none⟩ = some (.slice A a.t.length c) := B1.cell rfl
  have HC := Lib.hid hC; have HB := Lib.hid hb01; have HW := Lib.hid hW1; have HTT := Lib.hid ht
  clear ht
  by_cases e0 : qcE a = 0
  · obtain ⟨hw, hd, t0, t5, hli, htu⟩ := qcE_zero e0
    rw [e0, eV_zero] at cc
    have CC := Lib.hid cc; clear cc
    obtain ⟨mm, hs, f, hv, hf⟩ := hC.map
    have HWF := Lib.hid (wf_who hw)
    obtain ⟨b0, b1⟩ := hC.ok.f0 a.w
    have HF := Lib.hid (hf a.w); have HFA := Lib.hid hf; have HV := Lib.hid hv
    have H1 := Lib.hid h1; have HB1 := Lib.hid B1
    obtain ⟨Y, hY⟩ : ∃ Y, Y = s.F a.w := ⟨_, rfl⟩
    rw [← hY] at b0 b1 HF
    obtain ⟨y1, y2⟩ := Y
    simp only at b0 b1
    by_cases ag : agB s a = true
    · have hE := doE_ag (R := R) e0 ag
      rw [hE, eV_zero, doS_ag hE ag, doC_ag ag, ← hY]
      have d12 : (a.q == y1) = true ∧ decide (0 < y1) = true := by
        rw [agB, ← hY, Bool.and_eq_true] at ag
        exact ⟨by simpa using ag.1, ag.2⟩
      obtain ⟨d1, d2⟩ := d12
      clear hE ag
      clear hC h1 h2 hv hf hW1 hb01 B1 hw hd t0 t5 hli htu e0 hA hok hm hq64 hY
      obtain ⟨x, q', d, t⟩ := a
      simp only [akv] at *
      go_enter Tryd.func10, Tryd.ntmps10
      go_wp2_with fail
      rw [← HW.out]
      go_wp2_with (go_at_call 42; refine (CC.out _ HB.out).mono ?_; rintro e w1 ⟨rfl, hb1⟩; have hbw := bcl HB.out hb1; have P1 := H1.out.below hbw hpz; have B2 := HB1.out.below hb1 HB1.out.lt; have p2 : w1.cell? ⟨p, 2, none⟩ = some (.map (some m)) := P1.cell rfl; have l0 : w1.cell? ⟨w.heap.size, 0, none⟩ = some (.int .i64 x) := B2.cell rfl; have l1 : w1.cell? ⟨w.heap.size, 1, none⟩ = some (.int .i64 q') := B2.cell rfl; have hp1 : p < w1.heap.size := P1.lt; have hz1 : w.heap.size < w1.heap.size := B2.lt; have hlk := run_lookup_v (w := (w1.alloc (.cells #[.int .i64 0, .string ⟨#[]⟩] 98)).drew) 93 3 98 lawI Tryd.underlying93 m _ mm _ hs f (zeroDone _) (((HV.out.keep hbw).keep (bal1 _ _)).stay rfl) _ _ (keyOf_int_mk Tryd.underlying3 HWF.out); rw [HF.out] at hlk; have hlj := run_lookup_v (w := w1.drew) 93 3 98 lawI Tryd.underlying93 m _ mm _ hs f (zeroDone _) ((HV.out.keep hbw).stay rfl) _ _ (keyOf_int_mk Tryd.underlying3 HWF.out); rw [HF.out] at hlj)
      have hlk2 : (Instr.lookup 93 (.map (some m)) (.int .i64 x) false).run Tryd.prog (w1.alloc (.cells #[.int .i64 0, .string ⟨#[]⟩] 98)).drew = .ok (.agg #[.int .i64 y1, .string y2]) (w1.alloc (.cells #[.int .i64 0, .string ⟨#[]⟩] 98)).drew := hlk
      have hlj2 : (Instr.lookup 93 (.map (some m)) (.int .i64 x) false).run Tryd.prog w1.drew = .ok (.agg #[.int .i64 y1, .string y2]) w1.drew := hlj
      clear hlk hlj
      go_region
      all_goals
        obtain ⟨W2, hW2⟩ : ∃ W2, W2 = (w1.alloc (.cells #[.int .i64 y1, .string y2] 98)).drew := ⟨_, rfl⟩
        first | rw [← hW2] | (rw [show (w1.drew.alloc (.cells #[.int .i64 y1, .string y2] 98)) = (w1.alloc (.cells #[.int .i64 y1, .string y2] 98)).drew from rfl]; rw [← hW2])
        have hb12 : Below w1.heap.size w1 W2 := by rw [hW2]; exact bdr (bal1 _ _)
        have B3 := B2.below hb12 hz1
        have D3 : AtB W2 w1.heap.size #[.int .i64 y1, .string y2] 98 := by rw [hW2]; exact AtB.new _ _ _
        have m0 : W2.cell? ⟨w.heap.size, 0, none⟩ = some (.int .i64 x) := B3.cell rfl
        have m1 : W2.cell? ⟨w.heap.size, 1, none⟩ = some (.int .i64 q') := B3.cell rfl
        have m2 : W2.cell? ⟨w.heap.size, 2, none⟩ = some (.int .i64 d) := B3.cell rfl
        have m3 : W2.cell? ⟨w.heap.size, 3, none⟩ = some (.slice A t.length c) := B3.cell rfl
        have n0 : W2.cell? ⟨w1.heap.size, 0, none⟩ = some (.int .i64 y1) := D3.cell rfl
        have n1 : W2.cell? ⟨w1.heap.size, 1, none⟩ = some (.string y2) := D3.cell rfl
        have hbz := bcl hbw hb12
        clear hlk2 hlj2 hW2 B3 D3 P1 B2 p2 l0 l1 hb1 hbw hb12
        go_wp2_with fail
        go_ret2
        exact ⟨rfl, g, HC.out.keep hbz, Chs.of_below _ hbz, Nw.refl _ _⟩
    · rw [Bool.not_eq_true] at ag
      have hdx : (a.q == y1) = false ∨ ((a.q == y1) = true ∧ decide (0 < y1) = false) := by
        rw [agB, ← hY, Bool.and_eq_false_iff] at ag
        cases h : (a.q == y1) with
        | false => exact .inl rfl
        | true =>
          refine .inr ⟨rfl, ?_⟩
          rcases ag with ag | ag
          · rw [beq_iff_eq] at h; simp [h] at ag
          · exact ag
      by_cases e3 : a.q = y1 + 1
      · have d1 : (a.q == y1) = false := beq_eq_false_iff_ne.2 (by omega)
        have d3 : (a.q != y1 + 1) = false := by simp [e3]
        have hEn := doE_new (R := R) e0 ag (by rw [← hY]; exact e3)
        clear e3 hdx
        by_cases d0 : a.d = 0
        · have cp := fun (W : World) (hb : Below w.heap.size w W) => cpput_any (hC.keep hb) a A c hok e0 d0 (hA.below hb (Nat.le_refl _))
          by_cases e4 : nwE R s a = 0
          · have hE : doE R s a = 0 := hEn.trans e4
            have hok2 : Cok ⟨nwL s a, fun y => if y = a.w then (a.q, nwS s a) else s.F y, s.n + 1⟩ := by
              have h := hC.ok.step (R := R) (a := a) hok
              rwa [doC_new hE ag] at h
            rw [hE, eV_zero, doS_new hE ag, doC_new hE ag]
            rw [e4, if_pos rfl, eV_zero, if_pos rfl] at cp
            have CP := Lib.hid cp
            have HOK2 := Lib.hid hok2
            have hne : w.heap.size ≠ q ∧ ∀ b, g = some b → w.heap.size ≠ b := ⟨fun e => by have := hC.spc.lt; omega, fun b hb e => by have := (hC.spc.gkin hb).2.lt; omega⟩
            have HNEX := Lib.hid hne
            clear cp hok2 hne hE hEn e4 ag
            generalize nwS s a = ans at *
            generalize nwL s a = Lx at *
            clear hC h1 h2 hv hf hW1 hb01 B1 hw hd t0 t5 hli htu e0 hA hok hm hq64 hY
            obtain ⟨x, q', d, t⟩ := a
            simp only [akv] at *
            obtain rfl : d = 0 := d0
            go_enter Tryd.func10, Tryd.ntmps10
            go_wp2_with fail
            rw [← HW.out]
            go_wp2_with (go_at_call 42; refine (CC.out _ HB.out).mono ?_; rintro e w1 ⟨rfl, hb1⟩; have hbw := bcl HB.out hb1; have P1 := H1.out.below hbw hpz; have B2 := HB1.out.below hb1 HB1.out.lt; have p2 : w1.cell? ⟨p, 2, none⟩ = some (.map (some m)) := P1.cell rfl; have l0 : w1.cell? ⟨w.heap.size, 0, none⟩ = some (.int .i64 x) := B2.cell rfl; have l1 : w1.cell? ⟨w.heap.size, 1, none⟩ = some (.int .i64 q') := B2.cell rfl; have hp1 : p < w1.heap.size := P1.lt; have hz1 : w.heap.size < w1.heap.size := B2.lt; have hlk := run_lookup_v (w := (w1.alloc (.cells #[.int .i64 0, .string ⟨#[]⟩] 98)).drew) 93 3 98 lawI Tryd.underlying93 m _ mm _ hs f (zeroDone _) (((HV.out.keep hbw).keep (bal1 _ _)).stay rfl) _ _ (keyOf_int_mk Tryd.underlying3 HWF.out); rw [HF.out] at hlk; have hlj := run_lookup_v (w := w1.drew) 93 3 98 lawI Tryd.underlying93 m _ mm _ hs f (zeroDone _) ((HV.out.keep hbw).stay rfl) _ _ (keyOf_int_mk Tryd.underlying3 HWF.out); rw [HF.out] at hlj)
            have hlk2 : (Instr.lookup 93 (.map (some m)) (.int .i64 x) false).run Tryd.prog (w1.alloc (.cells #[.int .i64 0, .string ⟨#[]⟩] 98)).drew = .ok (.agg #[.int .i64 y1, .string y2]) (w1.alloc (.cells #[.int .i64 0, .string ⟨#[]⟩] 98)).drew := hlk
            have hlj2 : (Instr.lookup 93 (.map (some m)) (.int .i64 x) false).run Tryd.prog w1.drew = .ok (.agg #[.int .i64 y1, .string y2]) w1.drew := hlj
            clear hlk hlj
            go_region
            all_goals
              obtain ⟨W2, hW2⟩ : ∃ W2, W2 = (w1.alloc (.cells #[.int .i64 y1, .string y2] 98)).drew := ⟨_, rfl⟩
              first | rw [← hW2] | (rw [show (w1.drew.alloc (.cells #[.int .i64 y1, .string y2] 98)) = (w1.alloc (.cells #[.int .i64 y1, .string y2] 98)).drew from rfl]; rw [← hW2])
              have hb12 : Below w1.heap.size w1 W2 := by rw [hW2]; exact bdr (bal1 _ _)
              have B3 := B2.below hb12 hz1
              have D3 : AtB W2 w1.heap.size #[.int .i64 y1, .string y2] 98 := by rw [hW2]; exact AtB.new _ _ _
              have m0 : W2.cell? ⟨w.heap.size, 0, none⟩ = some (.int .i64 x) := B3.cell rfl
              have m1 : W2.cell? ⟨w.heap.size, 1, none⟩ = some (.int .i64 q') := B3.cell rfl
              have m2 : W2.cell? ⟨w.heap.size, 2, none⟩ = some (.int .i64 0) := B3.cell rfl
              have m3 : W2.cell? ⟨w.heap.size, 3, none⟩ = some (.slice A t.length c) := B3.cell rfl
              have n0 : W2.cell? ⟨w1.heap.size, 0, none⟩ = some (.int .i64 y1) := D3.cell rfl
              have n1 : W2.cell? ⟨w1.heap.size, 1, none⟩ = some (.string y2) := D3.cell rfl
              have hbz := bcl hbw hb12
              have BX2 := Lib.hid B3
              have HNE := HNEX
              clear hlk2 hlj2 hW2 B3 D3 P1 B2 p2 l0 l1 hb1 hbw
              have HBZ := Lib.hid hbz
              clear hbz hb12
              go_wp2_with (go_at_call 44; refine (CP.out _ HBZ.out).mono ?_; rintro e w3 ⟨rfl, g3, hc3, hg3, hn3⟩; obtain ⟨RA3, rc3, hp3, _⟩ := hc3.there; have p33 : w3.cell? ⟨p, 3, none⟩ = some (.int .i64 s.n) := hp3.cell rfl; have f33 := hp3.frozen 3; have HBX3 := Lib.hid (BX2.out.stay (hg3.block w.heap.size BX2.out.lt HNE.out.1 (fun e => HNE.out.2 _ e.symm rfl))); have HP3 := Lib.hid hp3; have HC3 := Lib.hid hc3; have HG3 := Lib.hid (And.intro hg3 hn3); clear hc3 hg3 hn3 hp3 m0 m1 m2 m3 n0 n1)
              obtain ⟨w4, hw4⟩ : ∃ w4, w4 = w3.setCell ⟨p, 3, none⟩ (.int .i64 ((s.n : Int) + 1)) := ⟨_, rfl⟩
              rw [← hw4]
              obtain ⟨m5, hs5, f5, hv5, hf5⟩ := HC3.out.map
              have hmp : m ≠ p := fun e => not_kin_of_map HC3.out.map.isMap (by rw [e]; exact HC3.out.pkin)
              have c34 : Chs (fun b => b = p) w3 w4 := by rw [hw4]; exact Chs.set w3 ⟨p, 3, none⟩ _
              have P4 : AtB w4 p #[.slice RA3 R.length rc3, .pointer (some ⟨q, 0, none⟩), .map (some m), .int .i64 ((s.n : Int) + 1)] 95 := by rw [hw4]; exact HP3.out.set 3 _
              have B4 := HBX3.out.chs c34 (by omega)
              have V4 := hv5.stay (c34.block m HC3.out.map.lt hmp)
              obtain ⟨w6, hup, hv6, hg6⟩ := run_update_v (w := w4.drew) 93 3 98 lawI Tryd.underlying93 m _ m5 _ hs5 f5 (V4.stay rfl) (show s.n < maxLen by unfold maxLen; omega) (.int .i64 x) (.int .i64 x) (keyOf_int_mk Tryd.underlying3 HWF.out) key_int (.agg #[.int .i64 q', .string ans])
              have p4 : w4.cell? ⟨p, 2, none⟩ = some (.map (some m)) := P4.cell rfl
              have k4 : w4.cell? ⟨w.heap.size, 0, none⟩ = some (.int .i64 x) := B4.cell rfl
              have k5 : w4.cell? ⟨w.heap.size, 1, none⟩ = some (.int .i64 q') := B4.cell rfl
              have hfin := HC3.out.done (x := x) (q' := q') (ans := ans) hw4 hf5 hv6 hg6 HOK2.out
              have HFIN := Lib.hid hfin
              clear hfin P4 B4 V4 hv6 hg6 hw4 c34 hv5 hf5 p33 f33 hmp
              go_region
              clear hup
              go_wp2_with fail
              go_ret2
              exact ⟨rfl, g3, HFIN.out.1, (Chs.of_below (CM p q g m) HBZ.out).trans (((Chs.of_chg HG3.out.1).mono (fun b hb => hb.elim (fun e => .inr (.inl e)) (fun e => .inr (.inr (.inl e)))) : Chs (CM p q g m) _ w3).trans HFIN.out.2 (fun b hb => nw_cm HG3.out.2 (HBZ.out.size) hb)) (fun b hb => .inl hb), nw_le HG3.out.2 HBZ.out.size⟩
          · have hE : doE R s a ≠ 0 := by rw [hEn]; exact e4
            rw [doS_no hE, doC_no hE, hEn, eV_of e4]
            rw [if_neg e4, eV_of e4, if_neg e4] at cp
            have CP := Lib.hid cp
            clear cp hE hEn ag
            generalize nwE R s a = X at *
            clear hC h1 h2 hv hf hW1 hb01 B1 hw hd t0 t5 hli htu e0 hA hok hm hq64 hY
            obtain ⟨x, q', d, t⟩ := a
            simp only [akv] at *
            obtain rfl : d = 0 := d0
            go_enter Tryd.func10, Tryd.ntmps10
            go_wp2_with fail
            rw [← HW.out]
            go_wp2_with (go_at_call 42; refine (CC.out _ HB.out).mono ?_; rintro e w1 ⟨rfl, hb1⟩; have hbw := bcl HB.out hb1; have P1 := H1.out.below hbw hpz; have B2 := HB1.out.below hb1 HB1.out.lt; have p2 : w1.cell? ⟨p, 2, none⟩ = some (.map (some m)) := P1.cell rfl; have l0 : w1.cell? ⟨w.heap.size, 0, none⟩ = some (.int .i64 x) := B2.cell rfl; have l1 : w1.cell? ⟨w.heap.size, 1, none⟩ = some (.int .i64 q') := B2.cell rfl; have hp1 : p < w1.heap.size := P1.lt; have hz1 : w.heap.size < w1.heap.size := B2.lt; have hlk := run_lookup_v (w := (w1.alloc (.cells #[.int .i64 0, .string ⟨#[]⟩] 98)).drew) 93 3 98 lawI Tryd.underlying93 m _ mm _ hs f (zeroDone _) (((HV.out.keep hbw).keep (bal1 _ _)).stay rfl) _ _ (keyOf_int_mk Tryd.underlying3 HWF.out); rw [HF.out] at hlk; have hlj := run_lookup_v (w := w1.drew) 93 3 98 lawI Tryd.underlying93 m _ mm _ hs f (zeroDone _) ((HV.out.keep hbw).stay rfl) _ _ (keyOf_int_mk Tryd.underlying3 HWF.out); rw [HF.out] at hlj)
            have hlk2 : (Instr.lookup 93 (.map (some m)) (.int .i64 x) false).run Tryd.prog (w1.alloc (.cells #[.int .i64 0, .string ⟨#[]⟩] 98)).drew = .ok (.agg #[.int .i64 y1, .string y2]) (w1.alloc (.cells #[.int .i64 0, .string ⟨#[]⟩] 98)).drew := hlk
            have hlj2 : (Instr.lookup 93 (.map (some m)) (.int .i64 x) false).run Tryd.prog w1.drew = .ok (.agg #[.int .i64 y1, .string y2]) w1.drew := hlj
            clear hlk hlj
            go_region
            all_goals
              obtain ⟨W2, hW2⟩ : ∃ W2, W2 = (w1.alloc (.cells #[.int .i64 y1, .string y2] 98)).drew := ⟨_, rfl⟩
              first | rw [← hW2] | (rw [show (w1.drew.alloc (.cells #[.int .i64 y1, .string y2] 98)) = (w1.alloc (.cells #[.int .i64 y1, .string y2] 98)).drew from rfl]; rw [← hW2])
              have hb12 : Below w1.heap.size w1 W2 := by rw [hW2]; exact bdr (bal1 _ _)
              have B3 := B2.below hb12 hz1
              have D3 : AtB W2 w1.heap.size #[.int .i64 y1, .string y2] 98 := by rw [hW2]; exact AtB.new _ _ _
              have m0 : W2.cell? ⟨w.heap.size, 0, none⟩ = some (.int .i64 x) := B3.cell rfl
              have m1 : W2.cell? ⟨w.heap.size, 1, none⟩ = some (.int .i64 q') := B3.cell rfl
              have m2 : W2.cell? ⟨w.heap.size, 2, none⟩ = some (.int .i64 0) := B3.cell rfl
              have m3 : W2.cell? ⟨w.heap.size, 3, none⟩ = some (.slice A t.length c) := B3.cell rfl
              have n0 : W2.cell? ⟨w1.heap.size, 0, none⟩ = some (.int .i64 y1) := D3.cell rfl
              have n1 : W2.cell? ⟨w1.heap.size, 1, none⟩ = some (.string y2) := D3.cell rfl
              have hbz := bcl hbw hb12
              clear hlk2 hlj2 hW2 B3 D3 P1 B2 p2 l0 l1 hb1 hbw
              have HBZ := Lib.hid hbz
              clear hbz hb12
              go_wp2_with (go_at_call 44; refine (CP.out _ HBZ.out).mono ?_; rintro e w3 ⟨rfl, g3, hc3, hg3, hn3⟩)
              go_ret2
              exact ⟨rfl, g3, hc3, (Chs.of_below (CM p q g m) HBZ.out).trans ((Chs.of_chg hg3).mono (fun b hb => hb.elim (fun e => .inr (.inl e)) (fun e => .inr (.inr (.inl e))))) (fun b hb => .inl hb), nw_le hn3 HBZ.out.size⟩
        · have cp := fun (W : World) (hb : Below w.heap.size w W) => cpget_any (hC.keep hb) (fun W' hb' => HTT.out W' ((hb.mono hC.hb).trans hb')) a A c hok e0 d0 (hA.below hb (Nat.le_refl _))
          have d0' : (a.d == 0) = false := beq_eq_false_iff_ne.2 d0
          have D0 := Lib.hid d0
          clear d0
          by_cases e4 : nwE R s a = 0
          · have hE : doE R s a = 0 := hEn.trans e4
            have hok2 : Cok ⟨nwL s a, fun y => if y = a.w then (a.q, nwS s a) else s.F y, s.n + 1⟩ := by
              have h := hC.ok.step (R := R) (a := a) hok
              rwa [doC_new hE ag] at h
            rw [hE, eV_zero, doS_new hE ag, doC_new hE ag]
            rw [e4, if_pos rfl, eV_zero, if_pos rfl] at cp
            have CP := Lib.hid cp
            have HOK2 := Lib.hid hok2
            have hne : w.heap.size ≠ q ∧ ∀ b, g = some b → w.heap.size ≠ b := ⟨fun e => by have := hC.spc.lt; omega, fun b hb e => by have := (hC.spc.gkin hb).2.lt; omega⟩
            have HNEX := Lib.hid hne
            clear cp hok2 hne hE hEn e4 ag
            generalize nwS s a = ans at *
            generalize nwL s a = Lx at *
            clear hC h1 h2 hv hf hW1 hb01 B1 hw hd t0 t5 hli htu e0 hA hok hm hq64 hY
            obtain ⟨x, q', d, t⟩ := a
            simp only [akv] at *
            go_enter Tryd.func10, Tryd.ntmps10
            go_wp2_with fail
            rw [← HW.out]
            go_wp2_with (go_at_call 42; refine (CC.out _ HB.out).mono ?_; rintro e w1 ⟨rfl, hb1⟩; have hbw := bcl HB.out hb1; have P1 := H1.out.below hbw hpz; have B2 := HB1.out.below hb1 HB1.out.lt; have p2 : w1.cell? ⟨p, 2, none⟩ = some (.map (some m)) := P1.cell rfl; have l0 : w1.cell? ⟨w.heap.size, 0, none⟩ = some (.int .i64 x) := B2.cell rfl; have l1 : w1.cell? ⟨w.heap.size, 1, none⟩ = some (.int .i64 q') := B2.cell rfl; have hp1 : p < w1.heap.size := P1.lt; have hz1 : w.heap.size < w1.heap.size := B2.lt; have hlk := run_lookup_v (w := (w1.alloc (.cells #[.int .i64 0, .string ⟨#[]⟩] 98)).drew) 93 3 98 lawI Tryd.underlying93 m _ mm _ hs f (zeroDone _) (((HV.out.keep hbw).keep (bal1 _ _)).stay rfl) _ _ (keyOf_int_mk Tryd.underlying3 HWF.out); rw [HF.out] at hlk; have hlj := run_lookup_v (w := w1.drew) 93 3 98 lawI Tryd.underlying93 m _ mm _ hs f (zeroDone _) ((HV.out.keep hbw).stay rfl) _ _ (keyOf_int_mk Tryd.underlying3 HWF.out); rw [HF.out] at hlj)
            have hlk2 : (Instr.lookup 93 (.map (some m)) (.int .i64 x) false).run Tryd.prog (w1.alloc (.cells #[.int .i64 0, .string ⟨#[]⟩] 98)).drew = .ok (.agg #[.int .i64 y1, .string y2]) (w1.alloc (.cells #[.int .i64 0, .string ⟨#[]⟩] 98)).drew := hlk
            have hlj2 : (Instr.lookup 93 (.map (some m)) (.int .i64 x) false).run Tryd.prog w1.drew = .ok (.agg #[.int .i64 y1, .string y2]) w1.drew := hlj
            clear hlk hlj
            go_region
            all_goals
              obtain ⟨W2, hW2⟩ : ∃ W2, W2 = (w1.alloc (.cells #[.int .i64 y1, .string y2] 98)).drew := ⟨_, rfl⟩
              first | rw [← hW2] | (rw [show (w1.drew.alloc (.cells #[.int .i64 y1, .string y2] 98)) = (w1.alloc (.cells #[.int .i64 y1, .string y2] 98)).drew from rfl]; rw [← hW2])
              have hb12 : Below w1.heap.size w1 W2 := by rw [hW2]; exact bdr (bal1 _ _)
              have B3 := B2.below hb12 hz1
              have D3 : AtB W2 w1.heap.size #[.int .i64 y1, .string y2] 98 := by rw [hW2]; exact AtB.new _ _ _
              have m0 : W2.cell? ⟨w.heap.size, 0, none⟩ = some (.int .i64 x) := B3.cell rfl
              have m1 : W2.cell? ⟨w.heap.size, 1, none⟩ = some (.int .i64 q') := B3.cell rfl
              have m2 : W2.cell? ⟨w.heap.size, 2, none⟩ = some (.int .i64 d) := B3.cell rfl
              have m3 : W2.cell? ⟨w.heap.size, 3, none⟩ = some (.slice A t.length c) := B3.cell rfl
              have n0 : W2.cell? ⟨w1.heap.size, 0, none⟩ = some (.int .i64 y1) := D3.cell rfl
              have n1 : W2.cell? ⟨w1.heap.size, 1, none⟩ = some (.string y2) := D3.cell rfl
              have hbz := bcl hbw hb12
              have BX2 := Lib.hid B3
              have HNE := HNEX
              clear hlk2 hlj2 hW2 B3 D3 P1 B2 p2 l0 l1 hb1 hbw
              have HBZ := Lib.hid hbz
              clear hbz hb12
              go_wp2_with (go_at_call 43; refine (CP.out _ HBZ.out).mono ?_; rintro e w3 ⟨rfl, g3, hc3, hg3, hn3⟩; obtain ⟨RA3, rc3, hp3, _⟩ := hc3.there; have p33 : w3.cell? ⟨p, 3, none⟩ = some (.int .i64 s.n) := hp3.cell rfl; have f33 := hp3.frozen 3; have HBX3 := Lib.hid (BX2.out.stay (hg3.block w.heap.size BX2.out.lt HNE.out.1 (fun e => HNE.out.2 _ e.symm rfl))); have HP3 := Lib.hid hp3; have HC3 := Lib.hid hc3; have HG3 := Lib.hid (And.intro hg3 hn3); clear hc3 hg3 hn3 hp3 m0 m1 m2 m3 n0 n1)
              obtain ⟨w4, hw4⟩ : ∃ w4, w4 = w3.setCell ⟨p, 3, none⟩ (.int .i64 ((s.n : Int) + 1)) := ⟨_, rfl⟩
              rw [← hw4]
              obtain ⟨m5, hs5, f5, hv5, hf5⟩ := HC3.out.map
              have hmp : m ≠ p := fun e => not_kin_of_map HC3.out.map.isMap (by rw [e]; exact HC3.out.pkin)
              have c34 : Chs (fun b => b = p) w3 w4 := by rw [hw4]; exact Chs.set w3 ⟨p, 3, none⟩ _
              have P4 : AtB w4 p #[.slice RA3 R.length rc3, .pointer (some ⟨q, 0, none⟩), .map (some m), .int .i64 ((s.n : Int) + 1)] 95 := by rw [hw4]; exact HP3.out.set 3 _
              have B4 := HBX3.out.chs c34 (by omega)
              have V4 := hv5.stay (c34.block m HC3.out.map.lt hmp)
              obtain ⟨w6, hup, hv6, hg6⟩ := run_update_v (w := w4.drew) 93 3 98 lawI Tryd.underlying93 m _ m5 _ hs5 f5 (V4.stay rfl) (show s.n < maxLen by unfold maxLen; omega) (.int .i64 x) (.int .i64 x) (keyOf_int_mk Tryd.underlying3 HWF.out) key_int (.agg #[.int .i64 q', .string ans])
              have p4 : w4.cell? ⟨p, 2, none⟩ = some (.map (some m)) := P4.cell rfl
              have k4 : w4.cell? ⟨w.heap.size, 0, none⟩ = some (.int .i64 x) := B4.cell rfl
              have k5 : w4.cell? ⟨w.heap.size, 1, none⟩ = some (.int .i64 q') := B4.cell rfl
              have hfin := HC3.out.done (x := x) (q' := q') (ans := ans) hw4 hf5 hv6 hg6 HOK2.out
              have HFIN := Lib.hid hfin
              clear hfin P4 B4 V4 hv6 hg6 hw4 c34 hv5 hf5 p33 f33 hmp
              go_region
              clear hup
              go_wp2_with fail
              go_ret2
              exact ⟨rfl, g3, HFIN.out.1, (Chs.of_below (CM p q g m) HBZ.out).trans (((Chs.of_chg HG3.out.1).mono (fun b hb => hb.elim (fun e => .inr (.inl e)) (fun e => .inr (.inr (.inl e)))) : Chs (CM p q g m) _ w3).trans HFIN.out.2 (fun b hb => nw_cm HG3.out.2 (HBZ.out.size) hb)) (fun b hb => .inl hb), nw_le HG3.out.2 HBZ.out.size⟩
          · have hE : doE R s a ≠ 0 := by rw [hEn]; exact e4
            rw [doS_no hE, doC_no hE, hEn, eV_of e4]
            rw [if_neg e4, eV_of e4, if_neg e4] at cp
            have CP := Lib.hid cp
            clear cp hE hEn ag
            generalize nwE R s a = X at *
            clear hC h1 h2 hv hf hW1 hb01 B1 hw hd t0 t5 hli htu e0 hA hok hm hq64 hY
            obtain ⟨x, q', d, t⟩ := a
            simp only [akv] at *
            go_enter Tryd.func10, Tryd.ntmps10
            go_wp2_with fail
            rw [← HW.out]
            go_wp2_with (go_at_call 42; refine (CC.out _ HB.out).mono ?_; rintro e w1 ⟨rfl, hb1⟩; have hbw := bcl HB.out hb1; have P1 := H1.out.below hbw hpz; have B2 := HB1.out.below hb1 HB1.out.lt; have p2 : w1.cell? ⟨p, 2, none⟩ = some (.map (some m)) := P1.cell rfl; have l0 : w1.cell? ⟨w.heap.size, 0, none⟩ = some (.int .i64 x) := B2.cell rfl; have l1 : w1.cell? ⟨w.heap.size, 1, none⟩ = some (.int .i64 q') := B2.cell rfl; have hp1 : p < w1.heap.size := P1.lt; have hz1 : w.heap.size < w1.heap.size := B2.lt; have hlk := run_lookup_v (w := (w1.alloc (.cells #[.int .i64 0, .string ⟨#[]⟩] 98)).drew) 93 3 98 lawI Tryd.underlying93 m _ mm _ hs f (zeroDone _) (((HV.out.keep hbw).keep (bal1 _ _)).stay rfl) _ _ (keyOf_int_mk Tryd.underlying3 HWF.out); rw [HF.out] at hlk; have hlj := run_lookup_v (w := w1.drew) 93 3 98 lawI Tryd.underlying93 m _ mm _ hs f (zeroDone _) ((HV.out.keep hbw).stay rfl) _ _ (keyOf_int_mk Tryd.underlying3 HWF.out); rw [HF.out] at hlj)
            have hlk2 : (Instr.lookup 93 (.map (some m)) (.int .i64 x) false).run Tryd.prog (w1.alloc (.cells #[.int .i64 0, .string ⟨#[]⟩] 98)).drew = .ok (.agg #[.int .i64 y1, .string y2]) (w1.alloc (.cells #[.int .i64 0, .string ⟨#[]⟩] 98)).drew := hlk
            have hlj2 : (Instr.lookup 93 (.map (some m)) (.int .i64 x) false).run Tryd.prog w1.drew = .ok (.agg #[.int .i64 y1, .string y2]) w1.drew := hlj
            clear hlk hlj
            go_region
            all_goals
              obtain ⟨W2, hW2⟩ : ∃ W2, W2 = (w1.alloc (.cells #[.int .i64 y1, .string y2] 98)).drew := ⟨_, rfl⟩
              first | rw [← hW2] | (rw [show (w1.drew.alloc (.cells #[.int .i64 y1, .string y2] 98)) = (w1.alloc (.cells #[.int .i64 y1, .string y2] 98)).drew from rfl]; rw [← hW2])
              have hb12 : Below w1.heap.size w1 W2 := by rw [hW2]; exact bdr (bal1 _ _)
              have B3 := B2.below hb12 hz1
              have D3 : AtB W2 w1.heap.size #[.int .i64 y1, .string y2] 98 := by rw [hW2]; exact AtB.new _ _ _
              have m0 : W2.cell? ⟨w.heap.size, 0, none⟩ = some (.int .i64 x) := B3.cell rfl
              have m1 : W2.cell? ⟨w.heap.size, 1, none⟩ = some (.int .i64 q') := B3.cell rfl
              have m2 : W2.cell? ⟨w.heap.size, 2, none⟩ = some (.int .i64 d) := B3.cell rfl
              have m3 : W2.cell? ⟨w.heap.size, 3, none⟩ = some (.slice A t.length c) := B3.cell rfl
              have n0 : W2.cell? ⟨w1.heap.size, 0, none⟩ = some (.int .i64 y1) := D3.cell rfl
              have n1 : W2.cell? ⟨w1.heap.size, 1, none⟩ = some (.string y2) := D3.cell rfl
              have hbz := bcl hbw hb12
              clear hlk2 hlj2 hW2 B3 D3 P1 B2 p2 l0 l1 hb1 hbw
              have HBZ := Lib.hid hbz
              clear hbz hb12
              go_wp2_with (go_at_call 43; refine (CP.out _ HBZ.out).mono ?_; rintro e w3 ⟨rfl, g3, hc3, hg3, hn3⟩)
              go_ret2
              exact ⟨rfl, g3, hc3, (Chs.of_below (CM p q g m) HBZ.out).trans ((Chs.of_chg hg3).mono (fun b hb => hb.elim (fun e => .inr (.inl e)) (fun e => .inr (.inr (.inl e))))) (fun b hb => .inl hb), nw_le hn3 HBZ.out.size⟩
      · have hE := doE_seq (R := R) e0 ag (by rw [← hY]; exact e3)
        rw [doS_no (by rw [hE]; decide), doC_no (by rw [hE]; decide), hE, show eV 6 = errV 6 from rfl]
        have d3 : (a.q != y1 + 1) = true := bne_iff_ne.2 e3
        clear hE ag e3
        clear hC h1 h2 hv hf hW1 hb01 B1 hw hd t0 t5 hli htu e0 hA hok hm hq64 hY
        rcases hdx with d1 | ⟨d1, d2⟩
        · obtain ⟨x, q', d, t⟩ := a
          simp only [akv] at *
          go_enter Tryd.func10, Tryd.ntmps10
          go_wp2_with fail
          rw [← HW.out]
          go_wp2_with (go_at_call 42; refine (CC.out _ HB.out).mono ?_; rintro e w1 ⟨rfl, hb1⟩; have hbw := bcl HB.out hb1; have P1 := H1.out.below hbw hpz; have B2 := HB1.out.below hb1 HB1.out.lt; have p2 : w1.cell? ⟨p, 2, none⟩ = some (.map (some m)) := P1.cell rfl; have l0 : w1.cell? ⟨w.heap.size, 0, none⟩ = some (.int .i64 x) := B2.cell rfl; have l1 : w1.cell? ⟨w.heap.size, 1, none⟩ = some (.int .i64 q') := B2.cell rfl; have hp1 : p < w1.heap.size := P1.lt; have hz1 : w.heap.size < w1.heap.size := B2.lt; have hlk := run_lookup_v (w := (w1.alloc (.cells #[.int .i64 0, .string ⟨#[]⟩] 98)).drew) 93 3 98 lawI Tryd.underlying93 m _ mm _ hs f (zeroDone _) (((HV.out.keep hbw).keep (bal1 _ _)).stay rfl) _ _ (keyOf_int_mk Tryd.underlying3 HWF.out); rw [HF.out] at hlk; have hlj := run_lookup_v (w := w1.drew) 93 3 98 lawI Tryd.underlying93 m _ mm _ hs f (zeroDone _) ((HV.out.keep hbw).stay rfl) _ _ (keyOf_int_mk Tryd.underlying3 HWF.out); rw [HF.out] at hlj)
          have hlk2 : (Instr.lookup 93 (.map (some m)) (.int .i64 x) false).run Tryd.prog (w1.alloc (.cells #[.int .i64 0, .string ⟨#[]⟩] 98)).drew = .ok (.agg #[.int .i64 y1, .string y2]) (w1.alloc (.cells #[.int .i64 0, .string ⟨#[]⟩] 98)).drew := hlk
          have hlj2 : (Instr.lookup 93 (.map (some m)) (.int .i64 x) false).run Tryd.prog w1.drew = .ok (.agg #[.int .i64 y1, .string y2]) w1.drew := hlj
          clear hlk hlj
          go_region
          all_goals
            obtain ⟨W2, hW2⟩ : ∃ W2, W2 = (w1.alloc (.cells #[.int .i64 y1, .string y2] 98)).drew := ⟨_, rfl⟩
            first | rw [← hW2] | (rw [show (w1.drew.alloc (.cells #[.int .i64 y1, .string y2] 98)) = (w1.alloc (.cells #[.int .i64 y1, .string y2] 98)).drew from rfl]; rw [← hW2])
            have hb12 : Below w1.heap.size w1 W2 := by rw [hW2]; exact bdr (bal1 _ _)
            have B3 := B2.below hb12 hz1
            have D3 : AtB W2 w1.heap.size #[.int .i64 y1, .string y2] 98 := by rw [hW2]; exact AtB.new _ _ _
            have m0 : W2.cell? ⟨w.heap.size, 0, none⟩ = some (.int .i64 x) := B3.cell rfl
            have m1 : W2.cell? ⟨w.heap.size, 1, none⟩ = some (.int .i64 q') := B3.cell rfl
            have m2 : W2.cell? ⟨w.heap.size, 2, none⟩ = some (.int .i64 d) := B3.cell rfl
            have m3 : W2.cell? ⟨w.heap.size, 3, none⟩ = some (.slice A t.length c) := B3.cell rfl
            have n0 : W2.cell? ⟨w1.heap.size, 0, none⟩ = some (.int .i64 y1) := D3.cell rfl
            have n1 : W2.cell? ⟨w1.heap.size, 1, none⟩ = some (.string y2) := D3.cell rfl
            have hbz := bcl hbw hb12
            clear hlk2 hlj2 hW2 B3 D3 P1 B2 p2 l0 l1 hb1 hbw hb12
            go_wp2_with fail
            go_ret2
            exact ⟨rfl, g, HC.out.keep hbz, Chs.of_below _ hbz, Nw.refl _ _⟩
        · obtain ⟨x, q', d, t⟩ := a
          simp only [akv] at *
          go_enter Tryd.func10, Tryd.ntmps10
          go_wp2_with fail
          rw [← HW.out]
          go_wp2_with (go_at_call 42; refine (CC.out _ HB.out).mono ?_; rintro e w1 ⟨rfl, hb1⟩; have hbw := bcl HB.out hb1; have P1 := H1.out.below hbw hpz; have B2 := HB1.out.below hb1 HB1.out.lt; have p2 : w1.cell? ⟨p, 2, none⟩ = some (.map (some m)) := P1.cell rfl; have l0 : w1.cell? ⟨w.heap.size, 0, none⟩ = some (.int .i64 x) := B2.cell rfl; have l1 : w1.cell? ⟨w.heap.size, 1, none⟩ = some (.int .i64 q') := B2.cell rfl; have hp1 : p < w1.heap.size := P1.lt; have hz1 : w.heap.size < w1.heap.size := B2.lt; have hlk := run_lookup_v (w := (w1.alloc (.cells #[.int .i64 0, .string ⟨#[]⟩] 98)).drew) 93 3 98 lawI Tryd.underlying93 m _ mm _ hs f (zeroDone _) (((HV.out.keep hbw).keep (bal1 _ _)).stay rfl) _ _ (keyOf_int_mk Tryd.underlying3 HWF.out); rw [HF.out] at hlk; have hlj := run_lookup_v (w := w1.drew) 93 3 98 lawI Tryd.underlying93 m _ mm _ hs f (zeroDone _) ((HV.out.keep hbw).stay rfl) _ _ (keyOf_int_mk Tryd.underlying3 HWF.out); rw [HF.out] at hlj)
          have hlk2 : (Instr.lookup 93 (.map (some m)) (.int .i64 x) false).run Tryd.prog (w1.alloc (.cells #[.int .i64 0, .string ⟨#[]⟩] 98)).drew = .ok (.agg #[.int .i64 y1, .string y2]) (w1.alloc (.cells #[.int .i64 0, .string ⟨#[]⟩] 98)).drew := hlk
          have hlj2 : (Instr.lookup 93 (.map (some m)) (.int .i64 x) false).run Tryd.prog w1.drew = .ok (.agg #[.int .i64 y1, .string y2]) w1.drew := hlj
          clear hlk hlj
          go_region
          all_goals
            obtain ⟨W2, hW2⟩ : ∃ W2, W2 = (w1.alloc (.cells #[.int .i64 y1, .string y2] 98)).drew := ⟨_, rfl⟩
            first | rw [← hW2] | (rw [show (w1.drew.alloc (.cells #[.int .i64 y1, .string y2] 98)) = (w1.alloc (.cells #[.int .i64 y1, .string y2] 98)).drew from rfl]; rw [← hW2])
            have hb12 : Below w1.heap.size w1 W2 := by rw [hW2]; exact bdr (bal1 _ _)
            have B3 := B2.below hb12 hz1
            have D3 : AtB W2 w1.heap.size #[.int .i64 y1, .string y2] 98 := by rw [hW2]; exact AtB.new _ _ _
            have m0 : W2.cell? ⟨w.heap.size, 0, none⟩ = some (.int .i64 x) := B3.cell rfl
            have m1 : W2.cell? ⟨w.heap.size, 1, none⟩ = some (.int .i64 q') := B3.cell rfl
            have m2 : W2.cell? ⟨w.heap.size, 2, none⟩ = some (.int .i64 d) := B3.cell rfl
            have m3 : W2.cell? ⟨w.heap.size, 3, none⟩ = some (.slice A t.length c) := B3.cell rfl
            have n0 : W2.cell? ⟨w1.heap.size, 0, none⟩ = some (.int .i64 y1) := D3.cell rfl
            have n1 : W2.cell? ⟨w1.heap.size, 1, none⟩ = some (.string y2) := D3.cell rfl
            have hbz := bcl hbw hb12
            clear hlk2 hlj2 hW2 B3 D3 P1 B2 p2 l0 l1 hb1 hbw hb12
            go_wp2_with fail
            go_ret2
            exact ⟨rfl, g, HC.out.keep hbz, Chs.of_below _ hbz, Nw.refl _ _⟩
  · have hE := doE_bad (R := R) (s := s) e0
    rw [doS_no (by rw [hE]; exact e0), doC_no (by rw [hE]; exact e0), hE, eV_of e0]
    rw [eV_of e0] at cc
    have CC := Lib.hid cc
    clear cc hE e0 hC h1 h2 hW1 hb01 B1 hA hok hm hq64
    generalize qcE a = X at *
    obtain ⟨x, q', d, t⟩ := a
    simp only [akv] at *
    go_enter Tryd.func10, Tryd.ntmps10
    go_wp2_with fail
    rw [← HW.out]
    go_wp2_with (go_at_call 42; refine (CC.out _ HB.out).mono ?_; rintro e w1 ⟨rfl, hb1⟩; have hbw := bcl HB.out hb1)
    go_ret2
    exact ⟨rfl, g, HC.out.keep hbw, Chs.of_below _ hbw, Nw.refl _ _⟩
end
end Go.Proofs.YthkaaheeblehhaaDoor
