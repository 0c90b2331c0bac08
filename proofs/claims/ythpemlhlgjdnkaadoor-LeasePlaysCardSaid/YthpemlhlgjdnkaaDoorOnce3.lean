/- Two spaces and two of the reference's, side by side. -/
import Derived.Test.YthpemlhlgjdnkaaDoorSpJoin
import Derived.Test.YthpemlhlgjdnkaaDoorOnce2
namespace Go.Proofs.YthpemlhlgjdnkaaDoor
open Go.ChangeShapes Go.WideShapes Go.ChangeAt Go.RowKit
set_option linter.unusedVariables false

/-- no block is of both -/
def Dis (p : Nat) (g : Option Nat) (q : Nat) (h : Option Nat) : Prop := ∀ b, RM p g b → ¬ RM q h b
theorem Dis.symm {p q : Nat} {g h : Option Nat} (d : Dis p g q h) : Dis q h p g := fun b h1 h2 => d b h2 h1
theorem Dis.grow {p q n : Nat} {g g' h : Option Nat} (d : Dis p g q h) (k : Nwb g g' n) (hl : ∀ b, RM q h b → b < n) : Dis p g' q h := fun b h1 h2 => by
  rcases h1 with h1 | h1
  · exact d b (.inl h1) h2
  · rcases k b h1 with h3 | h3
    · exact d b (.inr h3) h2
    · have := hl b h2; omega
theorem Nw.nwb {g g' : Option Nat} {n : Nat} (k : Nw g g' n) : Nwb g g' n := fun b hb => by
  rcases k with rfl | ⟨c, rfl, hc⟩
  · exact .inl hb
  · injection hb with hb; subst hb; exact .inr hc
section
variable {w w' : World} {base p : Nat} {g : Option Nat} {L : List (List Va)}
theorem Spc.own (j : Spc w base p g L) : ∀ b, RM p g b → base ≤ b ∧ ¬ Go.Proofs.YthpemlhlgjdnkaaDoor.kin w b 28 := by
  rintro b (rfl | hb)
  · exact ⟨j.hp, fun h => kin_ne h j.kin (by decide) rfl⟩
  · exact ⟨(j.gkin hb).1, fun h => kin_ne h (j.gkin hb).2 (by decide) rfl⟩
theorem Spc.lts (j : Spc w base p g L) : ∀ b, RM p g b → b < w.heap.size := by
  rintro b (rfl | hb)
  · exact j.lt
  · exact (j.gkin hb).2.lt
theorem RSp.lts (j : RSp w base p g L) : ∀ b, RM p g b → b < w.heap.size := by
  rintro b (rfl | hb)
  · exact j.lt
  · exact (j.gkin hb).2.lt
theorem Spc.farD {M : Nat → Prop} (j : Spc w base p g L) (k : Chs M w w') (ho : ∀ b, M b → base ≤ b ∧ ¬ Go.Proofs.YthpemlhlgjdnkaaDoor.kin w b 28) (d : ∀ b, RM p g b → ¬ M b) : Spc w' base p g L :=
  j.farC k fun b hb => ⟨(ho b hb).1, (ho b hb).2, fun e => d b (.inl e) hb, fun e => d b (.inr e) hb⟩
theorem RSp.farD {M : Nat → Prop} (j : RSp w base p g L) (k : Chs M w w') (ho : ∀ b, M b → base ≤ b ∧ ¬ Go.Proofs.YthpemlhlgjdnkaaDoor.kin w b 28) (d : ∀ b, RM p g b → ¬ M b) : RSp w' base p g L :=
  j.far k fun b hb => ⟨(ho b hb).1, (ho b hb).2, fun e => d b (.inl e) hb, fun e => d b (.inr e) hb⟩
end
/-- two spaces, and two of the reference's -/
structure J4 (w0 w : World) (p : Nat) (g : Option Nat) (q : Nat) (h : Option Nat) (p2 : Nat) (g2 : Option Nat) (q2 : Nat) (h2 : Option Nat) (L K L2 K2 : List (List Va)) : Prop where
  h0 : HG w0
  b : Below w0.heap.size w0 w
  s : Spc w w0.heap.size p g L
  o : Spc w w0.heap.size q h K
  m : RSp w w0.heap.size p2 g2 L2
  k : RSp w w0.heap.size q2 h2 K2
  dso : Dis p g q h
  dsm : Dis p g p2 g2
  dsk : Dis p g q2 h2
  dom : Dis q h p2 g2
  dok : Dis q h q2 h2
  dmk : Dis p2 g2 q2 h2
section
variable {w0 w w' : World} {p q p2 q2 : Nat} {g h g2 h2 G : Option Nat} {L K L2 K2 X : List (List Va)}
theorem J4.hg (j : J4 w0 w p g q h p2 g2 q2 h2 L K L2 K2) : HG w := j.h0.below j.b
theorem J4.keep (j : J4 w0 w p g q h p2 g2 q2 h2 L K L2 K2) (hb : Below w.heap.size w w') : J4 w0 w' p g q h p2 g2 q2 h2 L K L2 K2 := ⟨j.h0, bcl j.b hb, j.s.keep hb, j.o.keep hb, j.m.keep hb, j.k.keep hb, j.dso, j.dsm, j.dsk, j.dom, j.dok, j.dmk⟩
theorem J4.vals (j : J4 w0 w p g q h p2 g2 q2 h2 L K L2 K2) {A : Option Addr} {t : List Va} (hA : Vals w0 A t) : Vals w A t := hA.below j.b (Nat.le_refl _)
theorem J4.vin (j : J4 w0 w p g q h p2 g2 q2 h2 L K L2 K2) {A : Option Addr} {t : List Va} (hA : Vals w0 A t) : Vin w w0.heap.size A t := (Vin.of_arg hA (Nat.le_refl _)).below j.b (Nat.le_refl _) (Nat.le_refl _)
theorem J4.s_ (j : J4 w0 w p g q h p2 g2 q2 h2 L K L2 K2) (c : Chs (RM p g) w w') (hs : Spc w' w0.heap.size p G X) (n : Nwb g G w.heap.size) : J4 w0 w' p G q h p2 g2 q2 h2 X K L2 K2 :=
  ⟨j.h0, j.b.trans (c.below (fun b hb => (j.s.own b hb).1) j.s.hb), hs, j.o.farD c j.s.own (j.dso.symm), j.m.farD c j.s.own (j.dsm.symm), j.k.farD c j.s.own (j.dsk.symm), j.dso.grow n j.o.lts, j.dsm.grow n j.m.lts, j.dsk.grow n j.k.lts, j.dom, j.dok, j.dmk⟩
theorem J4.o_ (j : J4 w0 w p g q h p2 g2 q2 h2 L K L2 K2) (c : Chs (RM q h) w w') (hs : Spc w' w0.heap.size q G X) (n : Nwb h G w.heap.size) : J4 w0 w' p g q G p2 g2 q2 h2 L X L2 K2 :=
  ⟨j.h0, j.b.trans (c.below (fun b hb => (j.o.own b hb).1) j.s.hb), j.s.farD c j.o.own (j.dso), hs, j.m.farD c j.o.own (j.dom.symm), j.k.farD c j.o.own (j.dok.symm), (j.dso.symm.grow n j.s.lts).symm, j.dsm, j.dsk, j.dom.grow n j.m.lts, j.dok.grow n j.k.lts, j.dmk⟩
theorem J4.m_ (j : J4 w0 w p g q h p2 g2 q2 h2 L K L2 K2) (c : Chs (RM p2 g2) w w') (hs : RSp w' w0.heap.size p2 G X) (n : Nwb g2 G w.heap.size) : J4 w0 w' p g q h p2 G q2 h2 L K X K2 :=
  ⟨j.h0, j.b.trans (c.below (fun b hb => (j.m.own b hb).1) j.s.hb), j.s.farD c j.m.own (j.dsm), j.o.farD c j.m.own (j.dom), hs, j.k.farD c j.m.own (j.dmk.symm), j.dso, (j.dsm.symm.grow n j.s.lts).symm, j.dsk, (j.dom.symm.grow n j.o.lts).symm, j.dok, j.dmk.grow n j.k.lts⟩
theorem J4.k_ (j : J4 w0 w p g q h p2 g2 q2 h2 L K L2 K2) (c : Chs (RM q2 h2) w w') (hs : RSp w' w0.heap.size q2 G X) (n : Nwb h2 G w.heap.size) : J4 w0 w' p g q h p2 g2 q2 G L K L2 X :=
  ⟨j.h0, j.b.trans (c.below (fun b hb => (j.k.own b hb).1) j.s.hb), j.s.farD c j.k.own (j.dsk), j.o.farD c j.k.own (j.dok), j.m.farD c j.k.own (j.dmk), hs, j.dso, j.dsm, (j.dsk.symm.grow n j.s.lts).symm, j.dom, (j.dok.symm.grow n j.o.lts).symm, (j.dmk.symm.grow n j.m.lts).symm⟩
theorem J4.so_ {H : Option Nat} {Y : List (List Va)} (j : J4 w0 w p g q h p2 g2 q2 h2 L K L2 K2) (c : Chs (fun b => RM p g b ∨ RM q h b) w w') (hs : Spc w' w0.heap.size p g X) (ho : Spc w' w0.heap.size q H Y) (n : Nwb h H w.heap.size) : J4 w0 w' p g q H p2 g2 q2 h2 X Y L2 K2 :=
  have own : ∀ b, (RM p g b ∨ RM q h b) → w0.heap.size ≤ b ∧ ¬ kin w b 28 := fun b hb => hb.elim (j.s.own b) (j.o.own b)
  ⟨j.h0, j.b.trans (c.below (fun b hb => (own b hb).1) j.s.hb), hs, ho, j.m.farD c own (fun b h1 h2 => h2.elim (fun h3 => j.dsm b h3 h1) (fun h3 => j.dom b h3 h1)), j.k.farD c own (fun b h1 h2 => h2.elim (fun h3 => j.dsk b h3 h1) (fun h3 => j.dok b h3 h1)), (j.dso.symm.grow n j.s.lts).symm, j.dsm, j.dsk, j.dom.grow n j.m.lts, j.dok.grow n j.k.lts, j.dmk⟩
end
set_option maxHeartbeats 1600000 in
set_option maxRecDepth 100000 in
theorem move_chs (base p1 p2 : Nat) (g1 g2 : Option Nat) (L1 L2 : List (List Va)) (hp : p1 ≠ p2) (A : Option Addr) (c : Nat) (a : List Va) (hm : a.length ≤ maxLen) (hok : okL a) (w : World) (hA : Vin w base A a) (h1 : Spc w base p1 g1 L1) (h2 : Spc w base p2 g2 L2) (hg : ∀ b, g1 = some b → g2 ≠ some b) (h : liE a = 0) :
    Calls Tryd.prog 61 #[.pointer (some ⟨p1, 0, none⟩), .pointer (some ⟨p2, 0, none⟩), .slice A a.length c] w fun e w' =>
      ∃ (n : Nat) (M1 M2 : List (List Va)) (g2' : Option Nat), e = .returned (.tuple #[.int .i64 n, .nilIface]) ∧ Moved w' base p1 p2 a L1 L2 n M1 M2 g1 g2' ∧ (plc a M1 < 0 ∨ M2.length = 20) ∧ Chs (fun b => RM p1 g1 b ∨ RM p2 g2 b) w w' ∧ Nwb g2 g2' w.heap.size := by
  have hbs := h1.hb
  have c1 := tlike_any A c a hm hok w hA.1
  rw [h, eV_zero] at c1
  have C1 := Lib.hid c1; have HL := Lib.hid h; have HM := Lib.hid hm; have HO := Lib.hid hok
  have HA := Lib.hid hA; have H1 := Lib.hid h1; have H2 := Lib.hid h2; have HG := Lib.hid hg
  have hlen1 := h1.len
  obtain ⟨E1', m1', hp1', _⟩ := h1.there
  obtain ⟨E2', m2', hp2', _⟩ := h2.there
  have hp1' : AtP w p1 (.slice E1' L1.length m1') := hp1'
  have hp2' : AtP w p2 (.slice E2' L2.length m2') := hp2'
  have HP1 := Lib.hid hp1'; have HP2 := Lib.hid hp2'
  clear c1 h hm hok hA h1 h2 hg hp1' hp2'
  go_enter Tryd.func61, Tryd.ntmps61
  go_wp2_with (go_at_call 56; refine C1.out.mono ?_; rintro e w1 ⟨rfl, hb1⟩; have hrun := ptr_ne (HP1.out.below hb1) (HP2.out.below hb1) hp)
  clear hrun
  go_loopw [9] (fun i wr => ∃ (n : Nat) (M1 M2 : List (List Va)) (g2' : Option Nat), i = .int .i64 n ∧ Hid (Moved wr base p1 p2 a L1 L2 n M1 M2 g1 g2') ∧ Hid (Vin wr base A a) ∧ Hid (Chs (fun b => RM p1 g1 b ∨ RM p2 g2 b) w wr) ∧ Hid (Nwb g2 g2' w.heap.size)) (fun i _ => 21 - (intOf i).toNat)
  case atStart => exact ⟨0, L1, L2, g2, rfl, ⟨Mv.zero, H1.out.keep hb1, H2.out.keep hb1, HG.out⟩, HA.out.below hb1 (Nat.le_refl _) hbs, Chs.of_below _ hb1, Nwb.refl _ _⟩
  case round =>
    obtain ⟨n, M1, M2, g2', rfl, HX, HV, HK, HNW⟩ := hrel
    have hn20 : M1.length + n ≤ 20 := by have := HX.out.mv.len; omega
    obtain ⟨E2, m2, x1, x2, x3⟩ := HX.out.two.there
    have x1 : AtP wr p2 (.slice E2 M2.length m2) := x1
    have cf := spfull_any p2 M2.length m2 E2 wr x1.cell
    by_cases hfull : M2.length = 20
    · rw [show (((M2.length : Nat) : Int) == 20) = true by simp; omega] at cf
      have CF := Lib.hid cf; have HF := Lib.hid hfull; clear cf x1 x2 x3 hfull
      go_wp2_with (go_at_call 75; refine CF.out.mono ?_; rintro e w2 ⟨rfl, rfl⟩)
      go_ret2
      exact ⟨n, M1, M2, g2', rfl, HX.out, .inr HF.out, HK.out, HNW.out⟩
    · rw [show (((M2.length : Nat) : Int) == 20) = false by simp; omega] at cf
      have CF := Lib.hid cf; have HF := Lib.hid hfull; clear cf x1 x2 x3 hfull
      by_cases hpl : plc a M1 < 0
      · have hfe : finE a M1 = 5 := by rw [finE, if_neg (by rw [HL.out]; decide), if_pos hpl]
        have ct := sptake_no base p1 g1 M1 A c a HM.out HO.out wr HX.out.one HV.out.1 (by rw [hfe]; decide)
        rw [hfe] at ct
        have CT := Lib.hid ct; have HPL := Lib.hid hpl; clear ct hfe hpl
        go_wp2_with (first | (go_at_call 75; refine CF.out.mono ?_; rintro e w2 ⟨rfl, rfl⟩) | (go_at_call 52; refine CT.out.mono ?_; rintro e w3 ⟨rfl, hb3⟩))
        go_ret2
        exact ⟨n, M1, M2, g2', rfl, ⟨HX.out.mv, HX.out.one.keep hb3, HX.out.two.keep hb3, HX.out.apart⟩, .inl HPL.out, HK.out.trans (Chs.of_below (fun b => RM p1 g1 b ∨ RM p2 g2 b) hb3) (fun b hb => .inl hb), HNW.out⟩
      · have hfe : finE a M1 = 0 := by rw [finE, if_neg (by rw [HL.out]; decide), if_neg hpl]
        obtain ⟨k, hk, hpk, hf, hff, ct⟩ := sptake_ok base p1 g1 M1 A c a HM.out HO.out wr HX.out.one HV.out.1 hfe
        have hmem : gg M1 k ∈ M1 := by simp only [gg, List.getD_eq_getElem?_getD, List.getElem?_eq_getElem hk, Option.getD_some]; exact List.getElem_mem hk
        obtain ⟨ho1, ht1⟩ := HX.out.one.ok _ hmem
        have htl := (tu_len ht1).2
        have hpe : putE M2 (gg M1 k) = 0 := by rw [putE, if_neg (by rw [ht1]; decide), if_neg HF.out]
        have cp := fun (W : World) (B : Option Addr) (C : Nat) (hS : Spc W base p2 g2' M2) (hv : Vals W B (gg M1 k)) => spput_any base p2 g2' M2 B C (gg M1 k) (by unfold maxLen; omega) ho1 W hS hv
        rw [putL, hpe, if_pos rfl, eV_zero] at cp
        have HMV := Lib.hid (HX.out.mv.step hk hf hff HF.out)
        have CT := Lib.hid ct; have CP := Lib.hid cp
        clear ct cp hpe hmem ho1 ht1 htl hf hff hpk hfe hpl
        generalize gg M1 k = t at *
        go_wp2_with (first | (go_at_call 75; refine CF.out.mono ?_; rintro e w2 ⟨rfl, rfl⟩) | (go_at_call 52; refine CT.out.mono ?_; rintro e w3 ⟨B, C, rfl, hv, hc1, hc2, hin, hs1, hx⟩; have hs2 := HX.out.two.far hx hp.symm HX.out.one.kin HX.out.one.hp (fun b e => ⟨(HX.out.one.gkin e).1, (HX.out.one.gkin e).2, HX.out.apart b e⟩); have HS1 := Lib.hid hs1; have HX3 := Lib.hid hx; clear hin hs1 hx) | (go_at_call 31; refine (CP.out _ _ _ hs2 hv).mono ?_; rintro e w4 ⟨rfl, g3, hs3, hy, hnw⟩))
        have hap : ∀ b, g1 = some b → g3 ≠ some b := fun b e => by
          rcases hnw with h | ⟨d, h, hd⟩
          · rw [h]; exact HX.out.apart b e
          · rw [h]; intro e2; injection e2 with e2
            have := (HS1.out.gkin e).2.lt
            omega
        have hs1' := HS1.out.far hy hp hs2.kin hs2.hp (fun b e => ⟨(hs2.gkin e).1, (hs2.gkin e).2, fun e2 => HX.out.apart b e2 e⟩)
        have hv1 := (HV.out.chg HX.out.one HX3.out).chg hs2 hy
        have hk3 := HK.out.trans (M' := RM p1 g1) HX3.out.chs (fun b hb => .inl (.inl hb))
        have hk4 := hk3.trans (M' := RM p2 g2') hy.chs (fun b hb => by
          rcases hb with hb | hb
          · exact .inl (.inr (.inl hb))
          · rcases HNW.out b hb with h | h
            · exact .inl (.inr (.inr h))
            · exact .inr h)
        have hnw4 : Nwb g2 g3 w.heap.size := fun b hb => by
          rcases hnw with h | ⟨d, h, hd⟩
          · rw [h] at hb; exact HNW.out b hb
          · rw [h] at hb; injection hb with hb; subst hb
            exact .inr (Nat.le_trans hk3.size hd)
        have HK4 := Lib.hid hk4; have HN4 := Lib.hid hnw4
        have HR := Lib.hid (show Moved w4 base p1 p2 a L1 L2 (n + 1) (M1.eraseIdx k) (M2 ++ [t]) g1 g3 from ⟨HMV.out, hs1', hs3, hap⟩)
        clear hap hs1' hs3 hy hnw hs2 hv hk3 hk4 hnw4
        go_roundw
        case rel => exact ⟨n + 1, M1.eraseIdx k, M2 ++ [t], g3, by go_num, HR, hv1, HK4, HN4⟩
        case measure => simp [intOf]; omega
theorem ptr_same (p : Nat) (w : World) : (binOp .eql 45 (.pointer (some ⟨p, 0, none⟩)) (.pointer (some ⟨p, 0, none⟩))).run Tryd.prog w = .ok (.bool true) w := by
  obtain ⟨i0, hi0, _⟩ := info_parts infoSp
  exact run_eql_ptr_same _ _ Tryd.underlying45 hi0
set_option maxHeartbeats 400000 in
set_option maxRecDepth 100000 in
theorem move_same (p : Nat) (v : Value) (A : Option Addr) (c : Nat) (a : List Va) (hm : a.length ≤ maxLen) (hok : okL a) (w : World) (hA : Vals w A a) (h : liE a = 0) :
    Calls Tryd.prog 61 #[.pointer (some ⟨p, 0, none⟩), .pointer (some ⟨p, 0, none⟩), .slice A a.length c] w fun e w' => e = .returned (.tuple #[.int .i64 0, errV 3]) ∧ Below w.heap.size w w' := by
  have c1 := tlike_any A c a hm hok w hA
  rw [h, eV_zero] at c1
  have C1 := Lib.hid c1; clear c1 h
  go_enter Tryd.func61, Tryd.ntmps61
  go_wp2_with (go_at_call 56; refine C1.out.mono ?_; rintro e w1 ⟨rfl, hb1⟩; have hrun := ptr_same p w1)
  go_ret2
  exact ⟨rfl, hb1⟩
theorem Mv.same {a : List Va} {L1 L2 : List (List Va)} {n : Nat} : ∀ {M1 M2 N1 N2 : List (List Va)}, Mv a L1 L2 n M1 M2 → Mv a L1 L2 n N1 N2 → M1 = N1 ∧ M2 = N2 := by
  induction n with
  | zero => intro M1 M2 N1 N2 h k; cases h; cases k; exact ⟨rfl, rfl⟩
  | succ n ih =>
    intro M1 M2 N1 N2 h k
    cases h with
    | step h hk hf hn h2 =>
      cases k with
      | step h' hk' hf' hn' h2' =>
        obtain ⟨rfl, rfl⟩ := ih h h'
        rename_i x y
        have : x = y := by
          rcases Nat.lt_trichotomy x y with e | e | e
          · rw [hn' x e] at hf; cases hf
          · exact e
          · rw [hn y e] at hf'; cases hf'
        subst this
        exact ⟨rfl, rfl⟩
theorem Mv.less {a : List Va} {L1 L2 M1 M2 : List (List Va)} {n m : Nat} (h : Mv a L1 L2 n M1 M2) (hm : m < n) : ∃ N1 N2 k, Mv a L1 L2 m N1 N2 ∧ k < N1.length ∧ fitB a (gg N1 k) = true ∧ N2.length ≠ 20 := by
  induction h with
  | zero => omega
  | @step n M1 M2 k h hk hf hn h2 ih =>
    by_cases e : m = n
    · subst e; exact ⟨M1, M2, k, h, hk, hf, h2⟩
    · exact ih (by omega)
/-- where Move ends is settled -/
theorem Mv.det {a : List Va} {L1 L2 M1 M2 N1 N2 : List (List Va)} {n m : Nat} (h : Mv a L1 L2 n M1 M2) (he : plc a M1 < 0 ∨ M2.length = 20) (k : Mv a L1 L2 m N1 N2) (ke : plc a N1 < 0 ∨ N2.length = 20) : n = m ∧ M1 = N1 ∧ M2 = N2 := by
  have no : ∀ {n m : Nat} {M1 M2 N1 N2 : List (List Va)}, Mv a L1 L2 n M1 M2 → (plc a M1 < 0 ∨ M2.length = 20) → Mv a L1 L2 m N1 N2 → ¬ n < m := fun h he k hl => by
    obtain ⟨X, Y, z, q1, q2, q3, q4⟩ := k.less hl
    obtain ⟨rfl, rfl⟩ := h.same q1
    rcases he with he | he
    · have := idx_neg.1 he z q2
      rw [q3] at this; cases this
    · exact q4 he
  have e : n = m := by
    have h1 := no h he k
    have h2 := no k ke h
    omega
  subst e
  exact ⟨rfl, h.same k⟩
end Go.Proofs.YthpemlhlgjdnkaaDoor
