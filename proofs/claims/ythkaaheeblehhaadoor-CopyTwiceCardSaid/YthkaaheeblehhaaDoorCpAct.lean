/- Package mirror: put and get of a copy. -/
import Derived.Test.YthkaaheeblehhaaDoorCpMem
import Derived.Test.YthkaaheeblehhaaDoorCpPure2
namespace Go.Proofs.YthkaaheeblehhaaDoor
open Go.ChangeShapes Go.WideShapes Go.ChangeAt Go.RowKit Go.Maps Go.WideMaps
set_option linter.unusedVariables false

def akv (a : Ak) (A : Option Addr) (c : Nat) : Value := .agg #[.int .i64 a.w, .int .i64 a.q, .int .i64 a.d, .slice A a.t.length c]
theorem spread_v {base : Nat} (p : Nat) (g : Option Nat) (L : List (List Va)) (A : Option Addr) (c : Nat) (a : List Va) (hm : a.length ≤ maxLen) (hok : okL a) (w : World) (hS : Spc w base p g L) (hA : Vals w A a) :
    Calls Tryd.prog 24 #[.pointer (some ⟨p, 0, none⟩), .slice A a.length c] w fun e w' => ∃ B C, e = .returned (.tuple #[.slice B (rT a L).length C, eV (finE a L)]) ∧ Vals w' B (rT a L) ∧ Below w.heap.size w w' := by
  obtain ⟨E, n, q1, q2, q3⟩ := hS.there
  have q1 : AtP w p (.slice E L.length n) := q1
  have hl := hS.len
  have c1 := spfind_any p A c a hm hok E n L (by unfold maxLen; omega) w hA q3.many q1.cell
  by_cases h : finE a L = 0
  · obtain ⟨k, hk, hp, h1, h2⟩ := fin_at h
    rw [finV, if_pos h, h, eV_zero, hp] at c1
    rw [h, h1, eV_zero]
    have hmem : gg L k ∈ L := gg_mem hk
    obtain ⟨z0, z5⟩ := tu_len (hS.ok _ hmem).2
    have cc := fun (W : World) (B : Option Addr) (C : Nat) (hW : Vals W B (gg L k)) => clone_any B C (gg L k) z0 (by omega) W hW
    have hb0 := hS.hb
    have C1 := Lib.hid c1; have CC := Lib.hid cc; have HB0 := Lib.hid hb0; clear c1 cc z0 z5 hmem h1 h2 h hp hS hb0 q2 hA hok hm
    go_enter Tryd.func24, Tryd.ntmps24
    go_wp2_with (first | (go_at_call 59; refine C1.out.mono ?_; rintro e w1 ⟨rfl, hb1⟩; have hc1 := (q1.below hb1).cell; have q4 := q3.keep vals_stay HB0.out hb1; obtain ⟨b, B, C, rfl, hcc, hv, hC1, hC2, hin⟩ := q4.vat hk; have HV := Lib.hid hv; clear hv hin q4) | (go_at_call 56; refine (CC.out _ _ _ HV.out).mono ?_; rintro e w2 ⟨A2, c2, rfl, ho2, hb2⟩; have HO2 := Lib.hid ho2; clear ho2))
    go_ret2
    exact ⟨A2, c2, rfl, HO2.out.vals, bcl hb1 hb2⟩
  · rw [finV, if_neg h, eV_of h] at c1
    rw [rT, if_neg h, eV_of h]
    generalize finE a L = X at *
    have C1 := Lib.hid c1; clear c1 h hS q1 q2 q3 hA hok hm
    go_enter Tryd.func24, Tryd.ntmps24
    go_wp2_with (go_at_call 59; refine C1.out.mono ?_; rintro e w1 ⟨rfl, hb1⟩)
    go_ret2
    exact ⟨none, 0, rfl, vals_nil, hb1⟩
section
variable {w : World} {base p q m : Nat} {g : Option Nat} {R : List Ru} {s : Cs}
set_option maxHeartbeats 1600000 in
set_option maxRecDepth 100000 in
theorem cpput_any (hC : Cpy w base p q g m R s) (a : Ak) (A : Option Addr) (c : Nat) (hok : okL a.t) (hq : qcE a = 0) (hd : a.d = 0) (hA : Vals w A a.t) :
    Calls Tryd.prog 44 #[.pointer (some ⟨p, 0, none⟩), akv a A c] w fun e w' => e = .returned (.tuple #[.string (if nwE R s a = 0 then nwS s a else ⟨#[]⟩), eV (nwE R s a)]) ∧
      ∃ g', Cpy w' base p q g' m R ⟨if nwE R s a = 0 then nwL s a else s.L, s.F, s.n⟩ ∧ Chg q g w w' ∧ Nw g g' w.heap.size := by
  obtain ⟨RA, rc, h1, h2⟩ := hC.there
  obtain ⟨_, _, t0, t5, _, htu⟩ := qcE_zero hq
  have hR8 := (rulE_zero hC.rul).1
  have hmx : a.t.length ≤ maxLen := by unfold maxLen; omega
  have cl := fun (W : World) (hb : Below w.heap.size w W) => let_any RA rc R (by unfold maxLen; omega) a.w a.d A c a.t W (h2.stay hC.hb hb.size fun b hb' _ => hb.block b hb').rls (hA.below hb (Nat.le_refl _))
  have cp := fun (W : World) (hb : Below w.heap.size w W) => spput_any base q g s.L A c a.t hmx hok W (hC.spc.keep hb) (hA.below hb (Nat.le_refl _))
  have hpz := hC.pkin.lt
  have hqz := hC.spc.lt
  obtain ⟨W1, hW1⟩ : ∃ W1, W1 = w.alloc (.cells #[.int .i64 a.w, .int .i64 a.q, .int .i64 a.d, .slice A a.t.length c] 24) := ⟨_, rfl⟩
  have hb01 : Below w.heap.size w W1 := by rw [hW1]; exact bal1 _ _
  have P1 := h1.below hb01 h1.lt
  have B1 : AtB W1 w.heap.size #[.int .i64 a.w, .int .i64 a.q, .int .i64 a.d, .slice A a.t.length c] 24 := by rw [hW1]; exact AtB.new _ _ _
  have p0 : W1.cell? ⟨p, 0, none⟩ = some (.slice RA R.length rc) := P1.cell rfl
  have p1 : W1.cell? ⟨p, 1, none⟩ = some (.pointer (some ⟨q, 0, none⟩)) := P1.cell rfl
  have k0 : W1.cell? ⟨w.heap.size, 0, none⟩ = some (.int .i64 a.w) := B1.cell rfl
  have k2 : W1.cell? ⟨w.heap.size, 2, none⟩ = some (.int .i64 a.d) := B1.cell rfl
  have k3 : W1.cell? ⟨w.heap.size, 3, none⟩ = some (.slice A a.t.length c) := B1.cell rfl
  have hz1 : w.heap.size < W1.heap.size := B1.lt
  have hpz1 : p < W1.heap.size := P1.lt
  have HC := Lib.hid hC; have HB := Lib.hid hb01; have HW := Lib.hid hW1
  by_cases e1 : letR R a.w a.d a.t = true
  · have hE : nwE R s a = 0 := by rw [nwE, if_pos hd, if_pos e1]
    rw [hE, if_pos rfl, eV_zero, if_pos rfl]
    rw [e1] at cl
    obtain ⟨E, n, q1, q2, q3⟩ := hC.spc.there
    have q1 : AtP w q (.slice E s.L.length n) := q1
    have hS : nwS s a = if s.L.length = 20 then txFull else txOk := by rw [nwS, if_pos hd]
    have hL : nwL s a = putL s.L a.t := by rw [nwL, if_pos hd]
    have cf := fun (W : World) (hb : Below w.heap.size w W) => spfull_any q s.L.length n E W (q1.below hb).cell
    by_cases e2 : s.L.length = 20
    · have hput : putL s.L a.t = s.L := by rw [putL, if_neg]; rw [putE, if_neg (by rw [htu hd]; decide), if_pos e2]; decide
      rw [hS, if_pos e2, hL, hput]
      rw [show (((s.L.length : Nat) : Int) == 20) = true by simp; omega] at cf
      have CL := Lib.hid cl; have CF := Lib.hid cf
      clear cl cf cp hC h1 h2 hok hA hE e1 e2 hput hS hL htu hq hd q1 q2 q3 hb01 hW1 P1 B1 t0 t5 hR8 hmx
      obtain ⟨x, q', d, t⟩ := a
      simp only [akv] at *
      go_enter Tryd.func44, Tryd.ntmps44
      go_wp2_with fail
      rw [← HW.out]
      go_region_held3 (fun w' => w'.cell? ⟨p, 0, none⟩ = some (.slice RA R.length rc) ∧ w'.cell? ⟨w.heap.size, 0, none⟩ = some (.int .i64 x) ∧ w'.cell? ⟨w.heap.size, 2, none⟩ = some (.int .i64 d) ∧ w'.cell? ⟨w.heap.size, 3, none⟩ = some (.slice A t.length c)) (first | go_keep | exact ⟨(hb1.cell (p := ⟨p, 0, none⟩) hpz1).trans p0, (hb1.cell (p := ⟨w.heap.size, 0, none⟩) hz1).trans k0, (hb1.cell (p := ⟨w.heap.size, 2, none⟩) hz1).trans k2, (hb1.cell (p := ⟨w.heap.size, 3, none⟩) hz1).trans k3⟩) ((go_at_call 80; refine (CL.out _ (bdr HB.out)).mono ?_; rintro e w1 ⟨rfl, hb1⟩))
      have hbx : Below w.heap.size w w1 := bcl (bdr HB.out) hb1
      have HBX := Lib.hid hbx
      have r1 := (hb1.cell (p := ⟨p, 1, none⟩) hpz1).trans p1
      have hpz2 : p < w1.heap.size := Nat.lt_of_lt_of_le hpz1 hb1.size
      clear hb1 hbx
      go_wp2_with (go_at_call 55; refine (CF.out _ HBX.out).mono ?_; rintro e w2 ⟨rfl, rfl⟩)
      go_ret2
      exact ⟨rfl, g, HC.out.keep HBX.out, Chg.of_below HBX.out, Nw.refl _ _⟩
    · have hput : putE s.L a.t = 0 := by rw [putE, if_neg (by rw [htu hd]; decide), if_neg e2]
      rw [hS, if_neg e2, hL]
      rw [hput, eV_zero] at cp
      rw [show (((s.L.length : Nat) : Int) == 20) = false by simp; omega] at cf
      have CL := Lib.hid cl; have CF := Lib.hid cf; have CP := Lib.hid cp
      clear cl cf cp hC h1 h2 hok hA hE e1 e2 hput hS hL htu hq hd q1 q2 q3 hb01 hW1 P1 B1 t0 t5 hR8 hmx
      obtain ⟨x, q', d, t⟩ := a
      simp only [akv] at *
      go_enter Tryd.func44, Tryd.ntmps44
      go_wp2_with fail
      rw [← HW.out]
      go_region_held3 (fun w' => w'.cell? ⟨p, 0, none⟩ = some (.slice RA R.length rc) ∧ w'.cell? ⟨w.heap.size, 0, none⟩ = some (.int .i64 x) ∧ w'.cell? ⟨w.heap.size, 2, none⟩ = some (.int .i64 d) ∧ w'.cell? ⟨w.heap.size, 3, none⟩ = some (.slice A t.length c)) (first | go_keep | exact ⟨(hb1.cell (p := ⟨p, 0, none⟩) hpz1).trans p0, (hb1.cell (p := ⟨w.heap.size, 0, none⟩) hz1).trans k0, (hb1.cell (p := ⟨w.heap.size, 2, none⟩) hz1).trans k2, (hb1.cell (p := ⟨w.heap.size, 3, none⟩) hz1).trans k3⟩) ((go_at_call 80; refine (CL.out _ (bdr HB.out)).mono ?_; rintro e w1 ⟨rfl, hb1⟩))
      have hbx : Below w.heap.size w w1 := bcl (bdr HB.out) hb1
      have HBX := Lib.hid hbx
      have r1 := (hb1.cell (p := ⟨p, 1, none⟩) hpz1).trans p1
      have r3 := (hb1.cell (p := ⟨w.heap.size, 3, none⟩) hz1).trans k3
      have hpz2 : p < w1.heap.size := Nat.lt_of_lt_of_le hpz1 hb1.size
      have hz2 : w.heap.size < w1.heap.size := Nat.lt_of_lt_of_le hz1 hb1.size
      clear hb1 hbx
      go_wp2_with (go_at_call 55; refine (CF.out _ HBX.out).mono ?_; rintro e w2 ⟨rfl, rfl⟩)
      have hs1 := HC.out.spc.keep HBX.out
      have hne : p ≠ q := fun e => absurd (kin.ne HC.out.pkin (by rw [e]; exact HC.out.spc.kin)) (by decide)
      have hng : ∀ b, g = some b → p ≠ b ∧ w.heap.size ≠ b := fun b hb => ⟨fun e => absurd (kin.ne HC.out.pkin (by rw [e]; exact (HC.out.spc.gkin hb).2)) (by decide), fun e => by have := (HC.out.spc.gkin hb).2.lt; omega⟩
      have HNE := Lib.hid (And.intro hne hng)
      clear hs1 hne hng
      go_region_held3 (fun w' => w'.cell? ⟨p, 1, none⟩ = some (.pointer (some ⟨q, 0, none⟩)) ∧ w'.cell? ⟨w.heap.size, 3, none⟩ = some (.slice A t.length c)) (first | go_keep | exact ⟨(World.cell?_of_block (hg3.block p hpz2 HNE.out.1 fun e => (HNE.out.2 p e.symm).1 rfl)).trans r1, (World.cell?_of_block (hg3.block w.heap.size hz2 (by omega) fun e => (HNE.out.2 _ e.symm).2 rfl)).trans r3⟩) ((go_at_call 21; refine (CP.out _ (bdr HBX.out)).mono ?_; rintro e w3 ⟨rfl, g3, hs3, hg3, hn3⟩))
      go_wp2_with fail
      go_ret2
      exact ⟨rfl, g3, (HC.out.keep (bdr HBX.out)).space hg3 hs3, (Chg.of_below (bdr HBX.out)).trans hg3 (Nw.refl _ _), hn3.elim .inl fun ⟨b, e, h⟩ => .inr ⟨b, e, Nat.le_trans (bdr HBX.out).size h⟩⟩
  · have hE : nwE R s a = 8 := by rw [nwE, if_pos hd, if_neg e1]
    rw [hE, if_neg (by decide), if_neg (by decide), show eV 8 = errV 8 from rfl]
    rw [Bool.not_eq_true] at e1
    rw [e1] at cl
    have CL := Lib.hid cl
    clear cl cp hC h1 h2 hok hA hE e1 htu hq hd hb01 hW1 P1 B1 t0 t5 hR8 hmx
    obtain ⟨x, q', d, t⟩ := a
    simp only [akv] at *
    go_enter Tryd.func44, Tryd.ntmps44
    go_wp2_with fail
    rw [← HW.out]
    go_region_held3 (fun w' => w'.cell? ⟨p, 0, none⟩ = some (.slice RA R.length rc) ∧ w'.cell? ⟨w.heap.size, 0, none⟩ = some (.int .i64 x) ∧ w'.cell? ⟨w.heap.size, 2, none⟩ = some (.int .i64 d) ∧ w'.cell? ⟨w.heap.size, 3, none⟩ = some (.slice A t.length c)) (first | go_keep | exact ⟨(hb1.cell (p := ⟨p, 0, none⟩) hpz1).trans p0, (hb1.cell (p := ⟨w.heap.size, 0, none⟩) hz1).trans k0, (hb1.cell (p := ⟨w.heap.size, 2, none⟩) hz1).trans k2, (hb1.cell (p := ⟨w.heap.size, 3, none⟩) hz1).trans k3⟩) ((go_at_call 80; refine (CL.out _ (bdr HB.out)).mono ?_; rintro e w1 ⟨rfl, hb1⟩))
    have hbx : Below w.heap.size w w1 := bcl (bdr HB.out) hb1
    have HBX := Lib.hid hbx
    clear hb1 hbx
    go_wp2_with fail
    go_ret2
    exact ⟨rfl, g, HC.out.keep HBX.out, Chg.of_below HBX.out, Nw.refl _ _⟩
/-- what is had stays had -/
theorem Vin.keepB {w w' w0 : World} {base : Nat} {A : Option Addr} {t : List Va} (h : Vin w base A t) (hb : base ≤ w0.heap.size) (hb0 : Below w0.heap.size w0 w) (k : Below w.heap.size w w') : Vin w' base A t := by
  rcases Nat.eq_zero_or_pos t.length with h0 | h0
  · exact ⟨by unfold Vals; rw [h0]; exact Sl.zero, fun h => by omega⟩
  · have hI := h.2 h0
    have hst : ∀ a, A = some a → w'.heap[a.block]? = w.heap[a.block]? := fun a ha => k.block _ (hI.lt (Nat.le_trans hb hb0.size) ha)
    exact ⟨vals_stay _ _ _ _ k.size hst h.1, fun _ => hI.stay hst⟩
set_option maxHeartbeats 3200000 in
set_option maxRecDepth 100000 in
theorem cpget_any (hC : Cpy w base p q g m R s) (ht : ∀ W, Below base w W → TT W) (a : Ak) (A : Option Addr) (c : Nat) (hok : okL a.t) (hq : qcE a = 0) (hd : a.d ≠ 0) (hA : Vals w A a.t) :
    Calls Tryd.prog 43 #[.pointer (some ⟨p, 0, none⟩), akv a A c] w fun e w' => e = .returned (.tuple #[.string (if nwE R s a = 0 then nwS s a else ⟨#[]⟩), eV (nwE R s a)]) ∧
      ∃ g', Cpy w' base p q g' m R ⟨if nwE R s a = 0 then nwL s a else s.L, s.F, s.n⟩ ∧ Chg q g w w' ∧ Nw g g' w.heap.size := by
  obtain ⟨RA, rc, h1, h2⟩ := hC.there
  obtain ⟨_, _, t0, t5, hli, _⟩ := qcE_zero hq
  have hR8 := (rulE_zero hC.rul).1
  have hmx : a.t.length ≤ maxLen := by unfold maxLen; omega
  have cl := fun (T : Option Addr) (n : Nat) (W : World) (hb : Below w.heap.size w W) (hT : Vals W T (rT a.t s.L)) => let_any RA rc R (by unfold maxLen; omega) a.w a.d T n (rT a.t s.L) W (h2.stay hC.hb hb.size fun b hb' _ => hb.block b hb').rls hT
  have hpz := hC.pkin.lt
  have hqz := hC.spc.lt
  obtain ⟨W1, hW1⟩ : ∃ W1, W1 = w.alloc (.cells #[.int .i64 a.w, .int .i64 a.q, .int .i64 a.d, .slice A a.t.length c] 24) := ⟨_, rfl⟩
  have hb01 : Below w.heap.size w W1 := by rw [hW1]; exact bal1 _ _
  have P1 := h1.below hb01 h1.lt
  have B1 : AtB W1 w.heap.size #[.int .i64 a.w, .int .i64 a.q, .int .i64 a.d, .slice A a.t.length c] 24 := by rw [hW1]; exact AtB.new _ _ _
  have p0 : W1.cell? ⟨p, 0, none⟩ = some (.slice RA R.length rc) := P1.cell rfl
  have p1 : W1.cell? ⟨p, 1, none⟩ = some (.pointer (some ⟨q, 0, none⟩)) := P1.cell rfl
  have k0 : W1.cell? ⟨w.heap.size, 0, none⟩ = some (.int .i64 a.w) := B1.cell rfl
  have k2 : W1.cell? ⟨w.heap.size, 2, none⟩ = some (.int .i64 a.d) := B1.cell rfl
  have k3 : W1.cell? ⟨w.heap.size, 3, none⟩ = some (.slice A a.t.length c) := B1.cell rfl
  have hz1 : w.heap.size < W1.heap.size := B1.lt
  have hpz1 : p < W1.heap.size := P1.lt
  have HC := Lib.hid hC; have HB := Lib.hid hb01; have HW := Lib.hid hW1; have HTT := Lib.hid ht
  clear ht
  by_cases f : finE a.t s.L = 0
  · have hrt := rT_mem hC.ok f
    obtain ⟨_, r5, hrg⟩ := rgt_of (tuE_zero hrt.2).1
    have cr := fun (W : World) (hb : Below w.heap.size w W) => spread_any base q g s.L A c a.t hmx hok W (hC.spc.keep hb) (hA.below hb (Nat.le_refl _)) f
    have cw := fun (T : Option Addr) (n : Nat) (W : World) (hT : Vals W T (rT a.t s.L)) (hW : TT W) => tword_any T n (rT a.t s.L) (by omega) hrg W hT hW
    have CR := Lib.hid cr; have CW := Lib.hid cw
    clear cr cw
    by_cases e1 : letR R a.w a.d (rT a.t s.L) = true
    · have hE : nwE R s a = 0 := by rw [nwE, if_neg hd, if_neg (fun h => h f), if_pos e1]
      have hS : nwS s a = lin (rT a.t s.L) := by rw [nwS, if_neg hd, if_neg (fun h => h f)]
      have hL : nwL s a = if a.d = 2 then rL a.t s.L else s.L := by rw [nwL, if_neg hd]
      rw [hE, if_pos rfl, eV_zero, if_pos rfl, hS, hL]
      rw [e1] at cl
      by_cases d2 : a.d = 2
      · rw [if_pos d2]
        have ctk := fun (W : World) (hb : Below w.heap.size w W) => sptake_ok base q g s.L A c a.t hmx hok W (hC.spc.keep hb) (hA.below hb (Nat.le_refl _)) f
        have hrl : ∀ k : Nat, plc a.t s.L = (k : Int) → s.L.eraseIdx k = rL a.t s.L := fun k hk => by rw [rL, if_pos f, hk]; rfl
        have CT := Lib.hid (fun (W : World) (hb : Below w.heap.size w W) => (show Calls Tryd.prog 51 #[.pointer (some ⟨q, 0, none⟩), .slice A a.t.length c] W fun e w' => (∃ B n C, e = .returned (.tuple #[.slice B n C, .nilIface])) ∧ Spc w' base q g (rL a.t s.L) ∧ Chg q g W w' from by
          obtain ⟨k, _, hk, _, _, hcall⟩ := ctk W hb
          refine hcall.mono fun e w' ⟨B, C, h1, _, _, _, _, h2, h3⟩ => ⟨⟨B, _, C, h1⟩, hrl k hk ▸ h2, h3⟩))
        have d2' : (a.d == 2) = true := by simp [d2]
        have CL := Lib.hid cl
        clear cl e1 hE hS hL d2 ctk hrl f
        have HT0 := Lib.hid (tu_len hrt.2).1
        clear hC h1 h2 hok hA hq hb01 hW1 P1 B1 t0 t5 hR8 hmx hd hrt r5 hrg hli
        generalize rT a.t s.L = T at *
        obtain ⟨x, q', d, t⟩ := a
        simp only [akv] at *
        go_enter Tryd.func43, Tryd.ntmps43
        go_wp2_with fail
        rw [← HW.out]
        go_region_held3 (fun w' => w'.cell? ⟨p, 1, none⟩ = some (.pointer (some ⟨q, 0, none⟩)) ∧ w'.cell? ⟨w.heap.size, 3, none⟩ = some (.slice A t.length c)) (first | go_keep | exact ⟨(hb1.cell (p := ⟨p, 1, none⟩) hpz1).trans p1, (hb1.cell (p := ⟨w.heap.size, 3, none⟩) hz1).trans k3⟩) ((go_at_call 24; refine (CR.out _ (bdr HB.out)).mono ?_; rintro e w1 ⟨B, n, rfl, hv1, hb1⟩; have HV1 := Lib.hid hv1; clear hv1))
        have hbx : Below w.heap.size w w1 := bcl (bdr HB.out) hb1
        have HB1 := Lib.hid hbx
        have r0 := (hb1.cell (p := ⟨p, 0, none⟩) hpz1).trans p0
        have r1 := (hb1.cell (p := ⟨p, 1, none⟩) hpz1).trans p1
        have l0 := (hb1.cell (p := ⟨w.heap.size, 0, none⟩) hz1).trans k0
        have l2 := (hb1.cell (p := ⟨w.heap.size, 2, none⟩) hz1).trans k2
        have l3 := (hb1.cell (p := ⟨w.heap.size, 3, none⟩) hz1).trans k3
        have hpz2 : p < w1.heap.size := Nat.lt_of_lt_of_le hpz1 hb1.size
        have hz2 : w.heap.size < w1.heap.size := Nat.lt_of_lt_of_le hz1 hb1.size
        clear hb1 hbx
        go_wp2_with fail
        go_region_held3 (fun w' => w'.cell? ⟨p, 0, none⟩ = some (.slice RA R.length rc) ∧ w'.cell? ⟨w.heap.size, 0, none⟩ = some (.int .i64 x) ∧ w'.cell? ⟨w.heap.size, 2, none⟩ = some (.int .i64 d)) (first | go_keep | exact ⟨(hb2.cell (p := ⟨p, 0, none⟩) hpz2).trans r0, (hb2.cell (p := ⟨w.heap.size, 0, none⟩) hz2).trans l0, (hb2.cell (p := ⟨w.heap.size, 2, none⟩) hz2).trans l2⟩) ((go_at_call 80; refine (CL.out B n _ (bdr HB1.out) HV1.out.1.drew).mono ?_; rintro e w2 ⟨rfl, hb2⟩))
        have hbx : Below w.heap.size w w2 := bcl (bdr HB1.out) hb2
        have HB2 := Lib.hid hbx
        have t1 := (hb2.cell (p := ⟨p, 1, none⟩) hpz2).trans r1
        have m2 := (hb2.cell (p := ⟨w.heap.size, 2, none⟩) hz2).trans l2
        have m3 := (hb2.cell (p := ⟨w.heap.size, 3, none⟩) hz2).trans l3
        have hpz3 : p < w2.heap.size := Nat.lt_of_lt_of_le hpz2 hb2.size
        have hz3 : w.heap.size < w2.heap.size := Nat.lt_of_lt_of_le hz2 hb2.size
        have HV2 := Lib.hid (Vin.keepB HV1.out HC.out.hb HB1.out (bcl (bdr (Below.refl _ _)) hb2))
        clear hb2 hbx
        go_wp2_with fail
        have hne : p ≠ q := fun e => absurd (kin.ne HC.out.pkin (by rw [e]; exact HC.out.spc.kin)) (by decide)
        have hng : ∀ b, g = some b → p ≠ b ∧ w.heap.size ≠ b := fun b hb => ⟨fun e => absurd (kin.ne HC.out.pkin (by rw [e]; exact (HC.out.spc.gkin hb).2)) (by decide), fun e => by have := (HC.out.spc.gkin hb).2.lt; omega⟩
        have HNE := Lib.hid (And.intro hne hng)
        clear hne hng
        go_region_held3 (fun w' => w'.cell? ⟨p, 1, none⟩ = some (.pointer (some ⟨q, 0, none⟩)) ∧ w'.cell? ⟨w.heap.size, 3, none⟩ = some (.slice A t.length c)) (first | go_keep | exact ⟨(World.cell?_of_block (hg3.block p hpz3 HNE.out.1 fun e => (HNE.out.2 p e.symm).1 rfl)).trans t1, (World.cell?_of_block (hg3.block w.heap.size hz3 (by omega) fun e => (HNE.out.2 _ e.symm).2 rfl)).trans m3⟩) ((go_at_call 51; refine (CT.out _ (bdr HB2.out)).mono ?_; rintro e w3 ⟨⟨B3, n3, C3, rfl⟩, hs3, hg3⟩))
        have hv3 : Vals w3 B T := vals_stay _ _ _ _ hg3.size ((HC.out.spc.keep (bdr HB2.out)).inn hg3 ((HV2.out.2 HT0.out).stay fun _ _ => rfl)) HV2.out.1.drew
        have hc3 := (HC.out.keep (bdr HB2.out)).space hg3 hs3
        have hg03 := (Chg.of_below (p := q) (g := g) (bdr HB2.out)).trans hg3 (Nw.refl _ _)
        have htt := HTT.out w3 (hg03.below HC.out.spc.hp (fun b e => (HC.out.spc.gkin e).1) HC.out.hb)
        have HG3 := Lib.hid hg03; have HC3 := Lib.hid hc3; have HV3 := Lib.hid hv3; have HTT3 := Lib.hid htt
        clear hg3 hs3 hv3 hc3 hg03 htt
        go_wp2_with (go_at_call 46; refine (CW.out B n _ HV3.out HTT3.out).mono ?_; rintro e w4 ⟨rfl, hb4⟩)
        go_ret2
        exact ⟨rfl, g, HC3.out.keep hb4, HG3.out.then_below hb4, Nw.refl _ _⟩
      · rw [if_neg d2]
        have d2' : (a.d == 2) = false := by simp [d2]
        have CL := Lib.hid cl
        clear cl e1 hE hS hL d2 f
        have HT0 := Lib.hid (tu_len hrt.2).1
        clear hC h1 h2 hok hA hq hb01 hW1 P1 B1 t0 t5 hR8 hmx hd hrt r5 hrg hli
        generalize rT a.t s.L = T at *
        obtain ⟨x, q', d, t⟩ := a
        simp only [akv] at *
        go_enter Tryd.func43, Tryd.ntmps43
        go_wp2_with fail
        rw [← HW.out]
        go_region_held3 (fun w' => w'.cell? ⟨p, 1, none⟩ = some (.pointer (some ⟨q, 0, none⟩)) ∧ w'.cell? ⟨w.heap.size, 3, none⟩ = some (.slice A t.length c)) (first | go_keep | exact ⟨(hb1.cell (p := ⟨p, 1, none⟩) hpz1).trans p1, (hb1.cell (p := ⟨w.heap.size, 3, none⟩) hz1).trans k3⟩) ((go_at_call 24; refine (CR.out _ (bdr HB.out)).mono ?_; rintro e w1 ⟨B, n, rfl, hv1, hb1⟩; have HV1 := Lib.hid hv1; clear hv1))
        have hbx : Below w.heap.size w w1 := bcl (bdr HB.out) hb1
        have HB1 := Lib.hid hbx
        have r0 := (hb1.cell (p := ⟨p, 0, none⟩) hpz1).trans p0
        have r1 := (hb1.cell (p := ⟨p, 1, none⟩) hpz1).trans p1
        have l0 := (hb1.cell (p := ⟨w.heap.size, 0, none⟩) hz1).trans k0
        have l2 := (hb1.cell (p := ⟨w.heap.size, 2, none⟩) hz1).trans k2
        have l3 := (hb1.cell (p := ⟨w.heap.size, 3, none⟩) hz1).trans k3
        have hpz2 : p < w1.heap.size := Nat.lt_of_lt_of_le hpz1 hb1.size
        have hz2 : w.heap.size < w1.heap.size := Nat.lt_of_lt_of_le hz1 hb1.size
        clear hb1 hbx
        go_wp2_with fail
        go_region_held3 (fun w' => w'.cell? ⟨p, 0, none⟩ = some (.slice RA R.length rc) ∧ w'.cell? ⟨w.heap.size, 0, none⟩ = some (.int .i64 x) ∧ w'.cell? ⟨w.heap.size, 2, none⟩ = some (.int .i64 d)) (first | go_keep | exact ⟨(hb2.cell (p := ⟨p, 0, none⟩) hpz2).trans r0, (hb2.cell (p := ⟨w.heap.size, 0, none⟩) hz2).trans l0, (hb2.cell (p := ⟨w.heap.size, 2, none⟩) hz2).trans l2⟩) ((go_at_call 80; refine (CL.out B n _ (bdr HB1.out) HV1.out.1.drew).mono ?_; rintro e w2 ⟨rfl, hb2⟩))
        have hbx : Below w.heap.size w w2 := bcl (bdr HB1.out) hb2
        have HB2 := Lib.hid hbx
        have t1 := (hb2.cell (p := ⟨p, 1, none⟩) hpz2).trans r1
        have m2 := (hb2.cell (p := ⟨w.heap.size, 2, none⟩) hz2).trans l2
        have m3 := (hb2.cell (p := ⟨w.heap.size, 3, none⟩) hz2).trans l3
        have hpz3 : p < w2.heap.size := Nat.lt_of_lt_of_le hpz2 hb2.size
        have hz3 : w.heap.size < w2.heap.size := Nat.lt_of_lt_of_le hz2 hb2.size
        have HV2 := Lib.hid (Vin.keepB HV1.out HC.out.hb HB1.out (bcl (bdr (Below.refl _ _)) hb2))
        clear hb2 hbx
        go_wp2_with fail
        have htt := HTT.out w2 (HB2.out.mono HC.out.hb)
        have HTT3 := Lib.hid htt
        clear htt
        go_wp2_with (go_at_call 46; refine (CW.out B n _ HV2.out.1 HTT3.out).mono ?_; rintro e w4 ⟨rfl, hb4⟩)
        go_ret2
        exact ⟨rfl, g, HC.out.keep (bcl HB2.out hb4), Chg.of_below (bcl HB2.out hb4), Nw.refl _ _⟩
    · have hE : nwE R s a = 8 := by rw [nwE, if_neg hd, if_neg (fun h => h f), if_neg e1]
      rw [hE, if_neg (by decide), if_neg (by decide), show eV 8 = errV 8 from rfl]
      rw [Bool.not_eq_true] at e1
      rw [e1] at cl
      have CL := Lib.hid cl
      clear cl e1 hE f
      have HT0 := Lib.hid (tu_len hrt.2).1
      clear hC h1 h2 hok hA hq hb01 hW1 P1 B1 t0 t5 hR8 hmx hd hrt r5 hrg hli
      generalize rT a.t s.L = T at *
      obtain ⟨x, q', d, t⟩ := a
      simp only [akv] at *
      go_enter Tryd.func43, Tryd.ntmps43
      go_wp2_with fail
      rw [← HW.out]
      go_region_held3 (fun w' => w'.cell? ⟨p, 1, none⟩ = some (.pointer (some ⟨q, 0, none⟩)) ∧ w'.cell? ⟨w.heap.size, 3, none⟩ = some (.slice A t.length c)) (first | go_keep | exact ⟨(hb1.cell (p := ⟨p, 1, none⟩) hpz1).trans p1, (hb1.cell (p := ⟨w.heap.size, 3, none⟩) hz1).trans k3⟩) ((go_at_call 24; refine (CR.out _ (bdr HB.out)).mono ?_; rintro e w1 ⟨B, n, rfl, hv1, hb1⟩; have HV1 := Lib.hid hv1; clear hv1))
      have hbx : Below w.heap.size w w1 := bcl (bdr HB.out) hb1
      have HB1 := Lib.hid hbx
      have r0 := (hb1.cell (p := ⟨p, 0, none⟩) hpz1).trans p0
      have r1 := (hb1.cell (p := ⟨p, 1, none⟩) hpz1).trans p1
      have l0 := (hb1.cell (p := ⟨w.heap.size, 0, none⟩) hz1).trans k0
      have l2 := (hb1.cell (p := ⟨w.heap.size, 2, none⟩) hz1).trans k2
      have l3 := (hb1.cell (p := ⟨w.heap.size, 3, none⟩) hz1).trans k3
      have hpz2 : p < w1.heap.size := Nat.lt_of_lt_of_le hpz1 hb1.size
      have hz2 : w.heap.size < w1.heap.size := Nat.lt_of_lt_of_le hz1 hb1.size
      clear hb1 hbx
      go_wp2_with fail
      go_region_held3 (fun w' => w'.cell? ⟨p, 0, none⟩ = some (.slice RA R.length rc) ∧ w'.cell? ⟨w.heap.size, 0, none⟩ = some (.int .i64 x) ∧ w'.cell? ⟨w.heap.size, 2, none⟩ = some (.int .i64 d)) (first | go_keep | exact ⟨(hb2.cell (p := ⟨p, 0, none⟩) hpz2).trans r0, (hb2.cell (p := ⟨w.heap.size, 0, none⟩) hz2).trans l0, (hb2.cell (p := ⟨w.heap.size, 2, none⟩) hz2).trans l2⟩) ((go_at_call 80; refine (CL.out B n _ (bdr HB1.out) HV1.out.1.drew).mono ?_; rintro e w2 ⟨rfl, hb2⟩))
      have hbx : Below w.heap.size w w2 := bcl (bdr HB1.out) hb2
      have HB2 := Lib.hid hbx
      have t1 := (hb2.cell (p := ⟨p, 1, none⟩) hpz2).trans r1
      have m2 := (hb2.cell (p := ⟨w.heap.size, 2, none⟩) hz2).trans l2
      have m3 := (hb2.cell (p := ⟨w.heap.size, 3, none⟩) hz2).trans l3
      have hpz3 : p < w2.heap.size := Nat.lt_of_lt_of_le hpz2 hb2.size
      have hz3 : w.heap.size < w2.heap.size := Nat.lt_of_lt_of_le hz2 hb2.size
      have HV2 := Lib.hid (Vin.keepB HV1.out HC.out.hb HB1.out (bcl (bdr (Below.refl _ _)) hb2))
      clear hb2 hbx
      go_wp2_with fail
      go_ret2
      exact ⟨rfl, g, HC.out.keep HB2.out, Chg.of_below HB2.out, Nw.refl _ _⟩
  · have hE : nwE R s a = 0 := by rw [nwE, if_neg hd, if_pos f]
    have hS : nwS s a = txNone := by rw [nwS, if_neg hd, if_pos f]
    have hrl : rL a.t s.L = s.L := by rw [rL, if_neg f]
    have hL : nwL s a = s.L := by rw [nwL, if_neg hd, hrl, ite_self]
    clear hrl
    have hrT : rT a.t s.L = [] := by rw [rT, if_neg f]
    rw [hE, if_pos rfl, eV_zero, if_pos rfl, hS, hL]
    have cr := fun (W : World) (hb : Below w.heap.size w W) => spread_v q g s.L A c a.t hmx hok W (hC.spc.keep hb) (hA.below hb (Nat.le_refl _))
    rw [eV_of f, hrT] at cr
    have CR := Lib.hid cr
    clear cr cl hE hS hL hrT f
    clear hC h1 h2 hok hA hq hb01 hW1 P1 B1 t0 t5 hR8 hmx hd hli
    generalize finE a.t s.L = X at *
    obtain ⟨x, q', d, t⟩ := a
    simp only [akv] at *
    go_enter Tryd.func43, Tryd.ntmps43
    go_wp2_with fail
    rw [← HW.out]
    go_region_held3 (fun w' => w'.cell? ⟨p, 1, none⟩ = some (.pointer (some ⟨q, 0, none⟩)) ∧ w'.cell? ⟨w.heap.size, 3, none⟩ = some (.slice A t.length c)) (first | go_keep | exact ⟨(hb1.cell (p := ⟨p, 1, none⟩) hpz1).trans p1, (hb1.cell (p := ⟨w.heap.size, 3, none⟩) hz1).trans k3⟩) ((go_at_call 24; refine (CR.out _ (bdr HB.out)).mono ?_; rintro e w1 ⟨B, n, rfl, _, hb1⟩))
    have hbx : Below w.heap.size w w1 := bcl (bdr HB.out) hb1
    go_wp2_with fail
    go_ret2
    exact ⟨rfl, g, HC.out.keep hbx, Chg.of_below hbx, Nw.refl _ _⟩
end
end Go.Proofs.YthkaaheeblehhaaDoor
