/- Package queue: New, Next, Count, Push, Pop. -/
import Derived.Test.YtpgemofkolmabaaGreatDoorQueue
namespace Go.Proofs.YtpgemofkolmabaaGreatDoor
open Go.ChangeShapes Go.WideShapes Go.ChangeAt Go.RowKit Go.Maps Go.WideMaps
set_option linter.unusedVariables false

theorem qnew (w : World) {base : Nat} (hb : base ≤ w.heap.size) :
    Calls Tryz.prog 30 #[] w fun e w' => ∃ p m, e = .returned (.pointer (some ⟨p, 0, none⟩)) ∧ Que w' base p none m 0 [] (fun _ => 0) ∧ Below w.heap.size w w' ∧ w.heap.size ≤ p ∧ w.heap.size ≤ m := by
  have hmm := @run_makeMap Tryz.prog
  have hm0 := VMap.made w 3 (.int .i64 0)
  have HM := Lib.hid hm0; clear hm0
  go_enter Tryz.func30, Tryz.ntmps30
  go_wp2
  go_ret
  have hq : Que ((w.alloc (.map #[] 0)).alloc (.cells #[.slice none 0 0, .map (some w.heap.size)] 135)) base (w.alloc (.map #[] 0)).heap.size none w.heap.size 0 [] (fun _ => 0) :=
    ⟨⟨none, 0, [], AtB.new _ _ _, rfl, rfl, Win.nil, fun x hx => by simp at hx⟩, ⟨0, _, _, HM.out.keep (bal1 _ _), fun _ => rfl⟩, le_al hb _, hb, le_al (le_al hb _) _, fun _ => by simp, by simp⟩
  exact ⟨_, _, rfl, by simpa using hq, bal (bal1 _ _) _, by simp, Nat.le_refl _⟩
theorem wf_who {x : Int} (h : whoB x = true) : (Lit.int .i64 x).wf = true := WalkArith.wf_i64 (by have := whoB_true.1 h; omega)
theorem key_int {x : Int} : WideAt.IsKeyLit (.int .i64 x) := by simp [WideAt.IsKeyLit]
/-- what is wrong with what is pushed -/
def puE (L : List Ak) (F : Int → Int) (a : Ak) : Int := if qcE a ≠ 0 then qcE a else if a.q < F a.w + 1 then 7 else if F a.w + 1 < a.q then 6 else if L.length = 30 then 4 else 0
theorem qcE_zero {a : Ak} (h : qcE a = 0) : whoB a.w = true ∧ deedB a.d = true ∧ 0 < a.t.length ∧ a.t.length ≤ 5 ∧ liE a.t = 0 ∧ (a.d = 0 → tuE a.t = 0) := by
  unfold qcE at h
  split at h
  · cases h
  · rename_i h1
    have h1 : whoB a.w = true ∧ deedB a.d = true := by
      rw [Bool.not_eq_false, Bool.and_eq_true] at h1; exact h1
    split at h
    · have h2 := (tuE_zero h).1
      exact ⟨h1.1, h1.2, (liE_zero h2).1, (liE_zero h2).2.1, h2, fun _ => h⟩
    · rename_i h3
      exact ⟨h1.1, h1.2, (liE_zero h).1, (liE_zero h).2.1, h, fun e => absurd e h3⟩
theorem ownF {A : Option Addr} {n c : Nat} {g : Nat} {off : Nat} (h : A = some ⟨g, off, none⟩) : (Value.slice A n c).ownBlock = some g := by rw [h]; rfl
/-- the facts on which Push goes on, behind its box and its check -/
structure PF (w w1 : World) (base p : Nat) (m n mm : Nat) (A : Option Addr) (c : Nat) (L : List Ak) (X : List Ax) (hs : Lit → Bool) (f : Lit → Value) (bx : Array Value) : Prop where
  pp : AtB w1 p #[.slice A L.length c, .map (some m)] 135
  box : AtB w1 w.heap.size bx 33
  map : VMap w1 3 m n mm (.int .i64 0) hs f
  win : Win w1 base 33 4 (.slice A L.length c) L.length (axCells X)
theorem news_at (w : World) (cs : Array Value) (t : TypeId) : ∀ j u, cs.toList[j]? = some u → (w.alloc (.cells cs t)).cell? ⟨w.heap.size, j, none⟩ = some u := fun j u hj => by
  have := (AtB.new w cs t).cell (i := j) (v := u) (by simpa using hj)
  exact this
set_option maxHeartbeats 1600000 in
set_option maxRecDepth 100000 in
theorem qpush_any (base p m n : Nat) (g : Option Nat) (L : List Ak) (F : Int → Int) (a : Ak) (hq64 : I64 a.q) (A' : Option Addr) (c' : Nat) (hm : a.t.length ≤ maxLen) (hok : okL a.t) (hn : n ≤ 1000000) (w : World) (hQ : Que w base p g m n L F) (hA : Vals w A' a.t) :
    Calls Tryz.prog 33 #[.pointer (some ⟨p, 0, none⟩), .agg #[.int .i64 a.w, .int .i64 a.q, .int .i64 a.d, .slice A' a.t.length c']] w fun e w' => e = .returned (eV (puE L F a)) ∧
      ∃ g', Que w' base p g' m (if puE L F a = 0 then n + 1 else n) (if puE L F a = 0 then L ++ [a] else L) (if puE L F a = 0 then (fun y => if y = a.w then a.q else F y) else F) ∧ Chs (QM p g m) w w' ∧ Nw g g' w.heap.size := by
  have cc := fun W (hW : Below w.heap.size w W) => qcheck_any a A' c' hm hok W (hA.below hW (Nat.le_refl _))
  obtain ⟨A, c, X, h1, h2, h3, h4, h5⟩ := hQ.there
  obtain ⟨mm, hs, f, hv, hf⟩ := hQ.map
  have hb0 : Below w.heap.size w (w.alloc (.cells #[.int .i64 a.w, .int .i64 a.q, .int .i64 a.d, .slice A' a.t.length c'] 33)) := bal1 _ _
  by_cases e0 : qcE a = 0
  · obtain ⟨hw, hd, t0, t5, hli, htu⟩ := qcE_zero e0
    rw [e0, eV_zero] at cc
    have CC := Lib.hid cc; clear cc
    have hwf := wf_who hw
    obtain ⟨b0, b1⟩ := hQ.fb a.w
    have HQ := Lib.hid hQ
    have HF := Lib.hid (hf a.w)
    have HFA := Lib.hid hf
    have HW := Lib.hid hwf
    have H5 := Lib.hid h5
    have HB0 := Lib.hid hb0
    have H1 := Lib.hid h1; have HV := Lib.hid hv; have H4 := Lib.hid h4
    clear hwf hf h5 h1 hv h4
    by_cases e1 : a.q < F a.w + 1
    · have hE : puE L F a = 7 := by rw [puE, if_neg (by rw [e0]; decide), if_pos e1]
      rw [hE, if_neg (by decide), if_neg (by decide), if_neg (by decide), show eV 7 = errV 7 from rfl]
      have d1 := decide_eq_true e1
      have HE := Lib.hid e0
      clear hE e1 e0 hQ hA hb0
      obtain ⟨x, q, d, t⟩ := a
      simp only at *
      generalize F x = y at *
      go_enter Tryz.func33, Tryz.ntmps33
      go_wp2_with (go_at_call 72; refine (CC.out _ HB0.out).mono ?_; rintro e w1 ⟨rfl, hb1⟩; have hbw := bcl HB0.out hb1; have P1 := H1.out.below hbw H1.out.lt; have B1 := (AtB.new w _ _).below hb1 (AtB.new w _ _).lt; have p1 := P1.cell (i := 1) rfl; have k0 := B1.cell (i := 0) rfl; have k1 := B1.cell (i := 1) rfl; have hlk := run_lookup_v (w := w1.drew) 133 3 3 lawI Tryz.underlying133 m n mm _ hs f (zeroInt _) ((HV.out.keep hbw).stay rfl) _ _ (keyOf_int_mk Tryz.underlying3 HW.out); rw [HF.out] at hlk)
      go_region
      clear hlk
      go_wp2_with fail
      go_ret
      exact ⟨rfl, g, HQ.out.keep (by first | exact bdr hbw | exact hbw), Chs.of_below _ (by first | exact bdr hbw | exact hbw), Nw.refl _ _⟩
    · by_cases e2 : F a.w + 1 < a.q
      · have hE : puE L F a = 6 := by rw [puE, if_neg (by rw [e0]; decide), if_neg e1, if_pos e2]
        rw [hE, if_neg (by decide), if_neg (by decide), if_neg (by decide), show eV 6 = errV 6 from rfl]
        have d1 := decide_eq_false e1
        have d2 := decide_eq_true e2
        clear e1 e2
        have HE := Lib.hid e0
        clear hE e0 hQ hA hb0
        obtain ⟨x, q, d, t⟩ := a
        simp only at *
        generalize F x = y at *
        go_enter Tryz.func33, Tryz.ntmps33
        go_wp2_with (go_at_call 72; refine (CC.out _ HB0.out).mono ?_; rintro e w1 ⟨rfl, hb1⟩; have hbw := bcl HB0.out hb1; have P1 := H1.out.below hbw H1.out.lt; have B1 := (AtB.new w _ _).below hb1 (AtB.new w _ _).lt; have p1 := P1.cell (i := 1) rfl; have k0 := B1.cell (i := 0) rfl; have k1 := B1.cell (i := 1) rfl; have hlk := run_lookup_v (w := w1.drew) 133 3 3 lawI Tryz.underlying133 m n mm _ hs f (zeroInt _) ((HV.out.keep hbw).stay rfl) _ _ (keyOf_int_mk Tryz.underlying3 HW.out); rw [HF.out] at hlk)
        go_region
        clear hlk
        go_wp2_with fail
        go_ret
        exact ⟨rfl, g, HQ.out.keep (by first | exact bdr hbw | exact hbw), Chs.of_below _ (by first | exact bdr hbw | exact hbw), Nw.refl _ _⟩
      · by_cases e3 : L.length = 30
        · have hE : puE L F a = 4 := by rw [puE, if_neg (by rw [e0]; decide), if_neg e1, if_neg e2, if_pos e3]
          rw [hE, if_neg (by decide), if_neg (by decide), if_neg (by decide), show eV 4 = errV 4 from rfl]
          have d1 := decide_eq_false e1
          have d2 := decide_eq_false e2
          have d3 : (((L.length : Nat) : Int) == 30) = true := by simp; omega
          clear e1 e2 e3
          have HE := Lib.hid e0
          clear hE e0 hQ hA hb0
          obtain ⟨x, q, d, t⟩ := a
          simp only at *
          generalize F x = y at *
          go_enter Tryz.func33, Tryz.ntmps33
          go_wp2_with (go_at_call 72; refine (CC.out _ HB0.out).mono ?_; rintro e w1 ⟨rfl, hb1⟩; have hbw := bcl HB0.out hb1; have P1 := H1.out.below hbw H1.out.lt; have B1 := (AtB.new w _ _).below hb1 (AtB.new w _ _).lt; have p1 := P1.cell (i := 1) rfl; have p0 := P1.cell (i := 0) rfl; have k0 := B1.cell (i := 0) rfl; have k1 := B1.cell (i := 1) rfl; have hlk := run_lookup_v (w := w1.drew) 133 3 3 lawI Tryz.underlying133 m n mm _ hs f (zeroInt _) ((HV.out.keep hbw).stay rfl) _ _ (keyOf_int_mk Tryz.underlying3 HW.out); rw [HF.out] at hlk)
          go_region
          clear hlk
          go_wp2_with fail
          go_ret
          exact ⟨rfl, g, HQ.out.keep (by first | exact bdr hbw | exact hbw), Chs.of_below _ (by first | exact bdr hbw | exact hbw), Nw.refl _ _⟩
        · have hE : puE L F a = 0 := by rw [puE, if_neg (by rw [e0]; decide), if_neg e1, if_neg e2, if_neg e3]
          rw [hE, if_pos rfl, if_pos rfl, if_pos rfl, eV_zero]
          have d1 := decide_eq_false e1
          have d2 := decide_eq_false e2
          have d3 : (((L.length : Nat) : Int) == 30) = false := by simp; omega
          have hql : a.q = F a.w + 1 := by omega
          have HQL := Lib.hid hql
          have cl := fun W (hW : Vals W A' a.t) => clone_any A' c' a.t t0 (by omega) W hW
          have CL := Lib.hid cl
          have T5 := Lib.hid t5
          have HOK := Lib.hid hok
          have HE := Lib.hid e0
          have HA := Lib.hid hA
          have hl30 : L.length < 30 := by have := hQ.len; omega
          have HL := Lib.hid hl30
          have HX := Lib.hid h3
          have HG := Lib.hid h2
          clear hE e0 hQ hA hb0 e1 e2 e3 cl hql t0 t5 hm hok hl30 hli htu hw hd h2 h3
          obtain ⟨x, q, d, t⟩ := a
          simp only at *
          generalize hy : F x = y at *
          have HY := Lib.hid hy
          clear hy
          go_enter Tryz.func33, Tryz.ntmps33
          go_wp2_with (go_at_call 72; refine (CC.out _ HB0.out).mono ?_; rintro e w1 ⟨rfl, hb1⟩; have hbw := bcl HB0.out hb1; have P1 := H1.out.below hbw H1.out.lt; have B1 := (AtB.new w _ _).below hb1 (AtB.new w _ _).lt; have p1 := P1.cell (i := 1) rfl; have p0 := P1.cell (i := 0) rfl; have k3 := B1.cell (i := 3) rfl; have HB1 := Lib.hid hbw; have k0 := B1.cell (i := 0) rfl; have k1 := B1.cell (i := 1) rfl; have hlk := run_lookup_v (w := w1.drew) 133 3 3 lawI Tryz.underlying133 m n mm _ hs f (zeroInt _) ((HV.out.keep hbw).stay rfl) _ _ (keyOf_int_mk Tryz.underlying3 HW.out); rw [HF.out] at hlk)
          go_region
          clear hlk
          have HP1 := Lib.hid (P1.stay (w' := w1.drew) rfl); have HBX := Lib.hid (B1.stay (w' := w1.drew) rfl)
          have HVA := Lib.hid ((HA.out.below HB1.out (Nat.le_refl _)).drew)
          clear P1 B1 hb1 hbw
          go_wp2_with (go_at_call 73; refine (CL.out _ HVA.out).mono ?_; rintro e w2 ⟨A2, c2, rfl, ho2, hb2⟩; have B2 := HBX.out.below hb2 HBX.out.lt; have k2 := B2.cell (i := 3) rfl; have f2 := B2.frozen 3; have HO2 := Lib.hid ho2; have HB2 := Lib.hid hb2; have HBX2 := Lib.hid B2; clear ho2 hb2 B2)
          have hb12 : Below w.heap.size w w2 := bcl (bdr HB1.out) HB2.out
          obtain ⟨w3, hw3⟩ : ∃ w3, w3 = w2.setCell ⟨w.heap.size, 3, none⟩ (.slice A2 t.length c2) := ⟨_, rfl⟩
          rw [← hw3]
          have B3 : AtB w3 w.heap.size #[.int .i64 x, .int .i64 q, .int .i64 d, .slice A2 t.length c2] 33 := by rw [hw3]; exact HBX2.out.set 3 _
          have hb3 : Below w.heap.size w w3 := by rw [hw3]; exact bset hb12 (Nat.le_refl _) _
          have hc3 : Chs (fun b => b = w.heap.size) w2 w3 := by rw [hw3]; exact Chs.set w2 ⟨w.heap.size, 3, none⟩ _
          have P3 := H1.out.below hb3 H1.out.lt
          have W3 := H4.out.keep hb3
          have V3 := HV.out.keep hb3
          have hva := Vin.chs HO2.out.vals (Inn.own (b2 := base) HO2.out) (Nat.le_trans HQ.out.hb hb12.size) hc3 (fun b hb => by subst hb; exact ⟨HQ.out.hb, fun hk => absurd (kin.ne hk HBX2.out.kin) (by decide)⟩)
          have hcap := HO2.out.cap
          have p0' := P3.cell (i := 0) rfl
          have hpz := P3.lt
          have hbz := B3.lt
          have e0 := B3.cell (i := 0) rfl
          have e1 := B3.cell (i := 1) rfl
          have e2 := B3.cell (i := 2) rfl
          have e3 := B3.cell (i := 3) rfl
          have hl2 : L.length ≤ 1000000 := by have := HL.out; omega
          have hbs3 : base ≤ w3.heap.size := Nat.le_trans HQ.out.hb hb3.size
          have hpg : ¬ (Value.slice A L.length c).ownBlock = some p := fun e => kin_ne (H4.out.block e).2 H1.out.kin (by decide) rfl
          have hmg : ¬ (Value.slice A L.length c).ownBlock = some m := fun e => not_kin_of_map HV.out.isMap (H4.out.block e).2
          have hbg : ¬ (Value.slice A L.length c).ownBlock = some w.heap.size := fun e => absurd (H4.out.block e).2.lt (by omega)
          have HPG := Lib.hid hpg; have HMG := Lib.hid hmg; have HBG := Lib.hid hbg
          clear hpg hmg hbg
          have HP3 := Lib.hid P3; have HB3 := Lib.hid B3; have HW3 := Lib.hid W3; have HV3 := Lib.hid V3; have HVA3 := Lib.hid hva; have HCAP := Lib.hid hcap; have HHB3 := Lib.hid hb3
          clear p1 p0 k0 k1 k3 hw3 k2 f2 hb12 hc3 P3 W3 V3 B3 hva hcap hb3
          go_region_law (refine step_append_win rfl _ _ 57 rfl base 33 _ 4 48 Tryz.underlying57 infoAsk rfl (by decide) (.slice A L.length c) L.length (axCells X) rfl (HW3.out.keep (by first | exact bal (bdr (Below.refl _ _)) _ | exact bdr (bal (Below.refl _ _) _) | exact bal (Below.refl _ _) _)) w3.heap.size [.int .i64 x, .int .i64 q, .int .i64 d, .slice A2 t.length c2] rfl rfl (news_at _ #[.int .i64 x, .int .i64 q, .int .i64 d, .slice A2 t.length c2] _) (by simp [Value.oneCell']) hl2 (by decide) (le_al hbs3 _) ?_; intro g4 o4 c4 w4 hW4 hg4 hx4; have hcg : Chs (fun b => (Value.slice A L.length c).ownBlock = some b) w3 w4 := (Chs.of_below _ (by first | exact bal (bdr (Below.refl _ _)) _ | exact bdr (bal (Below.refl _ _) _) | exact bal (Below.refl _ _) _)).trans (Chs.grown hg4) (fun b hb => .inl hb); have P4 := HP3.out.chs hcg HPG.out; have HCG := Lib.hid hcg; have p4 := P4.cell (i := 0) rfl; have f4 := P4.frozen 0; have HP4 := Lib.hid P4; have HW4 := Lib.hid hW4; have HX4 := Lib.hid hx4; clear P4 hW4 hg4 hx4 hcg)
          all_goals
            go_wp2_with fail
            obtain ⟨w5, hw5⟩ : ∃ w5, w5 = w4.setCell ⟨p, 0, none⟩ (.slice (some ⟨g4, o4, none⟩) (L.length + 1) c4) := ⟨_, rfl⟩
            rw [← hw5]
            have hc34 : Chs (QM p g m) w3 w4 := HCG.out.mono fun b hb => .inr (.inl (HG.out.symm.trans hb))
            have hc45 : Chs (fun b => b = p) w4 w5 := by rw [hw5]; exact Chs.set w4 ⟨p, 0, none⟩ _
            have P5 : AtB w5 p #[.slice (some ⟨g4, o4, none⟩) (L.length + 1) c4, .map (some m)] 135 := by rw [hw5]; exact HP4.out.set 0 _
            have hbp : w.heap.size ≠ p := fun e => absurd H1.out.lt (by omega)
            have hmp : m ≠ p := fun e => not_kin_of_map HV.out.isMap (by subst e; exact H1.out.kin)
            have B4 := HB3.out.chs HCG.out HBG.out
            have B5 := B4.chs hc45 hbp
            have hmz : m < w3.heap.size := HV3.out.lt
            have V4 : VMap w4 3 m n mm (.int .i64 0) hs f := HV3.out.stay (HCG.out.block m hmz HMG.out)
            have V5 : VMap w5 3 m n mm (.int .i64 0) hs f := V4.stay (hc45.block m V4.lt hmp)
            obtain ⟨w6, hup, hv6, hg6⟩ := run_update_v (w := w5.drew) 133 3 3 lawI Tryz.underlying133 m n mm _ hs f (V5.stay rfl) (by unfold maxLen; omega) (.int .i64 x) (.int .i64 x) (keyOf_int_mk Tryz.underlying3 HW.out) key_int (.int .i64 q)
            have p5 := P5.cell (i := 1) rfl
            have k5 := B5.cell (i := 0) rfl
            have k6 := B5.cell (i := 1) rfl
            have HP5 := Lib.hid P5; have HV5 := Lib.hid V5; have HV6 := Lib.hid hv6; have HG6 := Lib.hid hg6; have HC34 := Lib.hid hc34; have HC45 := Lib.hid hc45; have HMP := Lib.hid hmp
            clear P5 V5 V4 B4 B5 hv6 hg6 hc34 hc45 hw5 p4 f4 p0' e0 e1 e2 e3 hbp hmz hmp
            go_region
            go_wp2_with fail
            go_ret
            clear hup
            have hc46 : Chs (fun b => b = p ∨ b = m) w4 w6 := ((HC45.out.mono (fun b hb => .inl hb)).trans (Chs.of_below (fun _ => False) (bdr (Below.refl w5.heap.size w5))) (fun b hb => hb.elim)).trans (Chs.grown HG6.out) (fun b hb => .inl (.inr (Option.some.inj hb).symm))
            have hc36 : Chs (QM p g m) w3 w6 := HC34.out.trans hc46 (fun b hb => .inl (hb.elim .inl (fun h => .inr (.inr h))))
            have hc06 : Chs (QM p g m) w w6 := (Chs.of_below _ HHB3.out).trans hc36 (fun b hb => .inl hb)
            have hP6 : AtB w6 p #[.slice (some ⟨g4, o4, none⟩) (L.length + 1) c4, .map (some m)] 135 := (HP5.out.stay (w' := w5.drew) rfl).chs (Chs.grown HG6.out) (fun e => HMP.out (Option.some.inj e))
            have hkin : ∀ W, kin W p 135 → (∀ b, g = some b → kin W b 33) → (∃ es clock, W.heap[m]? = some (.map es clock)) → ∀ b, QM p g m b → base ≤ b ∧ ¬ kin W b 30 := fun W i1 i2 i3 b hb => by
              refine ⟨HQ.out.own b hb, fun hk => ?_⟩
              rcases hb with rfl | hb | rfl
              · exact absurd (kin.ne hk i1) (by decide)
              · exact absurd (kin.ne hk (i2 b hb)) (by decide)
              · exact not_kin_of_map i3 hk
            have hq1 := HQL.out
            have hy := HY.out
            refine ⟨rfl, some g4, ⟨⟨some ⟨g4, o4, none⟩, c4, X ++ [(⟨x, q, d, t⟩, A2, c2)], ?_, rfl, by rw [List.map_append, HX.out]; rfl, ?_, fun z hz => ?_⟩, ?_, HQ.out.hp, HQ.out.hm, Nat.le_trans HQ.out.hb hc06.size, fun z => ?_, by rw [List.length_append, List.length_singleton]; have := HL.out; omega⟩, hc06, ?_⟩
            · rw [List.length_append, List.length_singleton]; exact hP6
            · rw [List.length_append, List.length_singleton, axCells_append]
              refine Win.stay HW4.out fun b hb => ?_
              have hk := HW4.out.block hb
              refine hc46.block b hk.2.lt fun h => ?_
              rcases h with rfl | rfl
              · exact kin_ne hk.2 HP4.out.kin (by decide) rfl
              · obtain ⟨es, clock, hm6⟩ := HV.out.isMap
                exact not_kin_of_map ⟨es, clock, by rw [← hm6]; exact (HCG.out.block b HV3.out.lt HMG.out).trans (HHB3.out.block b HV.out.lt)⟩ hk.2
            · rcases List.mem_append.1 hz with hz | hz
              · obtain ⟨j1, j2, j3, j4⟩ := H5.out z hz
                obtain ⟨j5, j6⟩ := Vin.chs j1 j4 HQ.out.hb hc06 (hkin w HQ.out.pkin (fun b hb => (HQ.out.gkin hb).2) HV.out.isMap)
                exact ⟨j5, j2, j3, j6⟩
              · rw [List.mem_singleton] at hz
                subst hz
                obtain ⟨j5, j6⟩ := Vin.chs HVA3.out.1 HVA3.out.2 hbs3 hc36 (hkin w3 HP3.out.kin (fun b hb => (HW3.out.block (HG.out.trans hb)).2) HV3.out.isMap)
                exact ⟨j5, HCAP.out.1, HCAP.out.2, j6⟩
            · refine ⟨_, _, _, HV6.out, fun z => ?_⟩
              by_cases e : z = x
              · subst e; simp
              · simp only [if_neg (show ¬ (Lit.int .i64 z = Lit.int .i64 x) from fun h => e (by injection h)), if_neg e]; exact HFA.out z
            · obtain ⟨j1, j2⟩ := HQ.out.fb z
              show 0 ≤ (if z = x then q else F z) ∧ (if z = x then q else F z) ≤ ((n + 1 : Nat) : Int)
              by_cases e : z = x
              · rw [if_pos e]; omega
              · rw [if_neg e]; omega
            · rcases HX4.out with h | h
              · exact .inl (h.symm.trans HG.out)
              · exact .inr ⟨g4, rfl, by have := HHB3.out.size; simp at h; omega⟩
  · have hE : puE L F a = qcE a := by rw [puE, if_pos e0]
    rw [hE, if_neg e0, if_neg e0, if_neg e0, eV_of e0]
    rw [eV_of e0] at cc
    generalize qcE a = E at *
    have CC := Lib.hid cc; clear cc hE e0 h1 h2 h3 h4 h5 hv hf
    go_enter Tryz.func33, Tryz.ntmps33
    go_wp2_with (go_at_call 72; refine (CC.out _ hb0).mono ?_; rintro e w1 ⟨rfl, hb1⟩)
    go_ret
    exact ⟨rfl, g, hQ.keep (bcl hb0 hb1), Chs.of_below _ (bcl hb0 hb1), Nw.refl _ _⟩
end Go.Proofs.YtpgemofkolmabaaGreatDoor
