/- Package log: Do where nothing is redone. -/
import Derived.Test.YtpgemofkolmabaaGreatDoorLogAg
namespace Go.Proofs.YtpgemofkolmabaaGreatDoor
open Go.ChangeShapes Go.WideShapes Go.ChangeAt Go.RowKit Go.Joins Go.Deep Go.Maps Go.WideMaps
set_option linter.unusedVariables false

section
variable {w w' : World} {base P p q m : Nat} {g : Option Nat} {R : List Ru} {s : Cs} {b : ByteArray} {sf mn : Nat} {lf : Int} {st : Bool}
theorem Chs.lm {w w' : World} (k : Chs (CM p q g m) w w') : Chs (LM P p q g m) w w' := k.mono fun _ h => .inr h
set_option maxHeartbeats 3200000 in
set_option maxRecDepth 100000 in
theorem lgdo_no (h : Lg w base P p q g m R s b sf mn lf false) (ht : ∀ W, Below base w W → TT W) (hn : s.n ≤ 1000000) (a : Ak) (A : Option Addr) (c : Nat) (hm : a.t.length ≤ maxLen) (hok : okL a.t) (hw64 : I64 a.w) (hq64 : I64 a.q) (hA : Vals w A a.t)
    (hno : doE R s a ≠ 0 ∨ agB s a = true) :
    Calls Tryz.prog 12 #[.pointer (some ⟨P, 0, none⟩), akv a A c] w fun e w' => e = .returned (.tuple #[.string (doS R s a), eV (doE R s a)]) ∧
      ∃ g', Lg w' base P p q g' m R s b sf mn lf false ∧ Chs (LM P p q g m) w w' ∧ Nw g g' w.heap.size := by
  obtain ⟨W1, hW1⟩ : ∃ W1, W1 = w.alloc (.cells #[.int .i64 a.w, .int .i64 a.q, .int .i64 a.d, .slice A a.t.length c] 33) := ⟨_, rfl⟩
  have hb01 : Below w.heap.size w W1 := by rw [hW1]; exact bal1 _ _
  have B1 : AtB W1 w.heap.size #[.int .i64 a.w, .int .i64 a.q, .int .i64 a.d, .slice A a.t.length c] 33 := by rw [hW1]; exact AtB.new _ _ _
  have h1 := h.keep hb01
  have hd : doC R s a = s := hno.elim doC_no doC_ag
  have cc := fun (W : World) (hb : Below W1.heap.size W1 W) => cpdo_any ((h1.keep hb).cpy) (fun W' hb' => ht W' ((hb01.mono h.hb).trans ((hb.mono (Nat.le_trans h.hb hb01.size)).trans hb'))) hn a A c hm hok hq64 (hA.below (bcl hb01 hb) (Nat.le_refl _))
  rw [hd] at cc
  have ca := fun (W : World) (hb : Below W1.heap.size W1 W) => cpagain_any (h1.keep hb).cpy a A c hw64
  have hnc : ¬ CM p q g m w.heap.size := fun e => absurd (h.cpy.lts _ e) (by omega)
  have HB := Lib.hid hb01; have HW := Lib.hid hW1; have BX := Lib.hid B1; have HL := Lib.hid h1; have HNO := Lib.hid hnc
  clear hnc
  obtain ⟨p1, _, _, _, _, p6⟩ := h1.cells
  have hnw : ∀ g' : Option Nat, Nw g g' W1.heap.size → Nw g g' w.heap.size := fun _ k => nw_le k hb01.size
  have HNW := Lib.hid hnw
  clear hb01 hW1 h1 hd ht h hA hok hm hq64 hw64 hn hnw
  by_cases hE : doE R s a = 0
  · have hg : agB s a = true := hno.resolve_left fun e => e hE
    rw [hE, eV_zero] at cc ⊢
    rw [hg] at ca
    have CC := Lib.hid cc; have CA := Lib.hid ca
    clear cc ca hE hg hno
    generalize doS R s a = S at *
    obtain ⟨x, q', d, t⟩ := a
    simp only [akv] at *
    have d0 : W1.cell? ⟨w.heap.size, 0, none⟩ = some (.int .i64 x) := B1.cell rfl
    have d1 : W1.cell? ⟨w.heap.size, 1, none⟩ = some (.int .i64 q') := B1.cell rfl
    have d2 : W1.cell? ⟨w.heap.size, 2, none⟩ = some (.int .i64 d) := B1.cell rfl
    have d3 : W1.cell? ⟨w.heap.size, 3, none⟩ = some (.slice A t.length c) := B1.cell rfl
    clear B1
    go_enter Tryz.func12, Tryz.ntmps12
    go_upto_region 1 with fail
    rw [← HW.out]
    go_wp2_with fail
    go_region_held3 (fun w' => w'.cell? ⟨P, 1, none⟩ = some (.pointer (some ⟨p, 0, none⟩)) ∧ w'.cell? ⟨w.heap.size, 0, none⟩ = some (.int .i64 x) ∧ w'.cell? ⟨w.heap.size, 1, none⟩ = some (.int .i64 q') ∧ w'.cell? ⟨w.heap.size, 2, none⟩ = some (.int .i64 d) ∧ w'.cell? ⟨w.heap.size, 3, none⟩ = some (.slice A t.length c)) (first | exact ⟨p1, d0, d1, d2, d3⟩ | exact ⟨z1, y0, y1, y2, y3⟩ | go_keep) ((go_at_call 40; refine (CA.out _ (bdr (Below.refl _ _))).mono ?_; rintro e w2 ⟨rfl, hb2⟩; have HB2 := Lib.hid (bcl (bdr (Below.refl W1.heap.size W1)) hb2); have y := BX.out.below HB2.out BX.out.lt; have BX2 := Lib.hid (show AtB w2.drew w.heap.size #[.int .i64 x, .int .i64 q', .int .i64 d, .slice A t.length c] 33 from y); have y0 : w2.cell? ⟨w.heap.size, 0, none⟩ = some (.int .i64 x) := y.cell rfl; have y1 : w2.cell? ⟨w.heap.size, 1, none⟩ = some (.int .i64 q') := y.cell rfl; have y2 : w2.cell? ⟨w.heap.size, 2, none⟩ = some (.int .i64 d) := y.cell rfl; have y3 : w2.cell? ⟨w.heap.size, 3, none⟩ = some (.slice A t.length c) := y.cell rfl; obtain ⟨z1, _, _, _, _, _⟩ := (HL.out.keep HB2.out).cells; clear y; clear hb2))
    go_wp2_with fail
    go_region_held3 (fun w' => w'.cell? ⟨P, 1, none⟩ = some (.pointer (some ⟨p, 0, none⟩)) ∧ w'.cell? ⟨w.heap.size, 0, none⟩ = some (.int .i64 x) ∧ w'.cell? ⟨w.heap.size, 1, none⟩ = some (.int .i64 q') ∧ w'.cell? ⟨w.heap.size, 2, none⟩ = some (.int .i64 d) ∧ w'.cell? ⟨w.heap.size, 3, none⟩ = some (.slice A t.length c)) (first | exact ⟨z1, y0, y1, y2, y3⟩ | exact ⟨u1, v0, v1, v2, v3⟩ | go_keep) ((go_at_call 35; refine (CC.out _ (bdr HB2.out)).mono ?_; rintro e w3 ⟨rfl, g3, hc3, hk3, hn3⟩; have HL3 := Lib.hid ((HL.out.keep (bdr HB2.out)).copied hc3 hk3); have HK3 := Lib.hid hk3; have HN3 := Lib.hid hn3; have y := BX2.out.chs hk3 HNO.out; have v0 : w3.cell? ⟨w.heap.size, 0, none⟩ = some (.int .i64 x) := y.cell rfl; have v1 : w3.cell? ⟨w.heap.size, 1, none⟩ = some (.int .i64 q') := y.cell rfl; have v2 : w3.cell? ⟨w.heap.size, 2, none⟩ = some (.int .i64 d) := y.cell rfl; have v3 : w3.cell? ⟨w.heap.size, 3, none⟩ = some (.slice A t.length c) := y.cell rfl; obtain ⟨u1, _, _, u4, _, _⟩ := HL3.out.cells; clear y hc3 hk3 hn3))
    go_wp2_with fail
    go_ret2
    exact ⟨rfl, g3, HL3.out, (Chs.of_below _ (bcl HB.out (bdr HB2.out))).trans HK3.out.lm (fun _ h => .inl h), HNW.out _ (nw_le HN3.out (bdr HB2.out).size)⟩
  · rw [eV_of hE] at cc ⊢
    generalize agB s a = ag at *
    have CC := Lib.hid cc; have CA := Lib.hid ca
    clear cc ca hE hno
    generalize doS R s a = S at *
    generalize doE R s a = E at *
    obtain ⟨x, q', d, t⟩ := a
    simp only [akv] at *
    have d0 : W1.cell? ⟨w.heap.size, 0, none⟩ = some (.int .i64 x) := B1.cell rfl
    have d1 : W1.cell? ⟨w.heap.size, 1, none⟩ = some (.int .i64 q') := B1.cell rfl
    have d2 : W1.cell? ⟨w.heap.size, 2, none⟩ = some (.int .i64 d) := B1.cell rfl
    have d3 : W1.cell? ⟨w.heap.size, 3, none⟩ = some (.slice A t.length c) := B1.cell rfl
    clear B1
    go_enter Tryz.func12, Tryz.ntmps12
    go_upto_region 1 with fail
    rw [← HW.out]
    go_wp2_with fail
    go_region_held3 (fun w' => w'.cell? ⟨P, 1, none⟩ = some (.pointer (some ⟨p, 0, none⟩)) ∧ w'.cell? ⟨w.heap.size, 0, none⟩ = some (.int .i64 x) ∧ w'.cell? ⟨w.heap.size, 1, none⟩ = some (.int .i64 q') ∧ w'.cell? ⟨w.heap.size, 2, none⟩ = some (.int .i64 d) ∧ w'.cell? ⟨w.heap.size, 3, none⟩ = some (.slice A t.length c)) (first | exact ⟨p1, d0, d1, d2, d3⟩ | exact ⟨z1, y0, y1, y2, y3⟩ | go_keep) ((go_at_call 40; refine (CA.out _ (bdr (Below.refl _ _))).mono ?_; rintro e w2 ⟨rfl, hb2⟩; have HB2 := Lib.hid (bcl (bdr (Below.refl W1.heap.size W1)) hb2); have y := BX.out.below HB2.out BX.out.lt; have BX2 := Lib.hid (show AtB w2.drew w.heap.size #[.int .i64 x, .int .i64 q', .int .i64 d, .slice A t.length c] 33 from y); have y0 : w2.cell? ⟨w.heap.size, 0, none⟩ = some (.int .i64 x) := y.cell rfl; have y1 : w2.cell? ⟨w.heap.size, 1, none⟩ = some (.int .i64 q') := y.cell rfl; have y2 : w2.cell? ⟨w.heap.size, 2, none⟩ = some (.int .i64 d) := y.cell rfl; have y3 : w2.cell? ⟨w.heap.size, 3, none⟩ = some (.slice A t.length c) := y.cell rfl; obtain ⟨z1, _, _, _, _, _⟩ := (HL.out.keep HB2.out).cells; clear y; clear hb2))
    go_wp2_with fail
    go_region_held3 (fun w' => w'.cell? ⟨P, 1, none⟩ = some (.pointer (some ⟨p, 0, none⟩)) ∧ w'.cell? ⟨w.heap.size, 0, none⟩ = some (.int .i64 x) ∧ w'.cell? ⟨w.heap.size, 1, none⟩ = some (.int .i64 q') ∧ w'.cell? ⟨w.heap.size, 2, none⟩ = some (.int .i64 d) ∧ w'.cell? ⟨w.heap.size, 3, none⟩ = some (.slice A t.length c)) (first | exact ⟨z1, y0, y1, y2, y3⟩ | exact ⟨u1, v0, v1, v2, v3⟩ | go_keep) ((go_at_call 35; refine (CC.out _ (bdr HB2.out)).mono ?_; rintro e w3 ⟨rfl, g3, hc3, hk3, hn3⟩; have HL3 := Lib.hid ((HL.out.keep (bdr HB2.out)).copied hc3 hk3); have HK3 := Lib.hid hk3; have HN3 := Lib.hid hn3; have y := BX2.out.chs hk3 HNO.out; have v0 : w3.cell? ⟨w.heap.size, 0, none⟩ = some (.int .i64 x) := y.cell rfl; have v1 : w3.cell? ⟨w.heap.size, 1, none⟩ = some (.int .i64 q') := y.cell rfl; have v2 : w3.cell? ⟨w.heap.size, 2, none⟩ = some (.int .i64 d) := y.cell rfl; have v3 : w3.cell? ⟨w.heap.size, 3, none⟩ = some (.slice A t.length c) := y.cell rfl; obtain ⟨u1, _, _, u4, _, _⟩ := HL3.out.cells; clear y hc3 hk3 hn3))
    go_wp2_with fail
    go_ret2
    exact ⟨rfl, g3, HL3.out, (Chs.of_below _ (bcl HB.out (bdr HB2.out))).trans HK3.out.lm (fun _ h => .inl h), HNW.out _ (nw_le HN3.out (bdr HB2.out).size)⟩
set_option maxHeartbeats 3200000 in
set_option maxRecDepth 100000 in
theorem lgdo_new (h : Lg w base P p q g m R s b sf mn lf false) (ht : ∀ W, Below base w W → TT W) (hn : s.n ≤ 999999) (a : Ak) (A : Option Addr) (c : Nat) (hm : a.t.length ≤ maxLen) (hok : okL a.t) (hw64 : I64 a.w) (hq64 : I64 a.q) (hV : Vin w base A a.t)
    (hE : doE R s a = 0) (hg : agB s a = false) (hmn : mn ≠ 30) (hm2 : mn ≤ 1000000) (hl0 : -1 ≤ lf) (hl1 : lf ≤ 9223372036854775807) (hlf : lf ≠ 0) (hbs : b.size ≤ 1000000) :
    Calls Tryz.prog 12 #[.pointer (some ⟨P, 0, none⟩), akv a A c] w fun e w' => e = .returned (.tuple #[.string (doS R s a), .nilIface]) ∧
      ∃ g', Lg w' base P p q g' m R (doC R s a) (b ++ recB a) sf (mn + 1) (lfN lf) false ∧ Chs (LM P p q g m) w w' ∧ Nw g g' w.heap.size := by
  have hrc := rcd_of h.cpy.ok hn hE hg
  have hrs := recB_size hrc
  obtain ⟨W1, hW1⟩ : ∃ W1, W1 = w.alloc (.cells #[.int .i64 a.w, .int .i64 a.q, .int .i64 a.d, .slice A a.t.length c] 33) := ⟨_, rfl⟩
  have hb01 : Below w.heap.size w W1 := by rw [hW1]; exact bal1 _ _
  have B1 : AtB W1 w.heap.size #[.int .i64 a.w, .int .i64 a.q, .int .i64 a.d, .slice A a.t.length c] 33 := by rw [hW1]; exact AtB.new _ _ _
  have h1 := h.keep hb01
  have hV1 := hV.chsV h.hb (Chs.of_below (fun _ => False) hb01) (fun _ h => h.elim)
  have hno : ¬ CM p q g m w.heap.size := fun e => absurd (h.cpy.lts _ e) (by omega)
  have hT1 : ∀ W, Below base W1 W → TT W := fun W hb => ht W ((hb01.mono h.hb).trans hb)
  have cc := fun (W : World) (hb : Below W1.heap.size W1 W) => cpdo_any ((h1.keep hb).cpy) (fun W' hb' => hT1 W' ((hb.mono h1.hb).trans hb')) (Nat.le_trans hn (by decide)) a A c hm hok hq64 (hV1.1.below hb (Nat.le_refl _))
  rw [hE, eV_zero] at cc
  have ca := fun (W : World) (hb : Below W1.heap.size W1 W) => cpagain_any (h1.keep hb).cpy a A c hw64
  rw [hg] at ca
  have hback : ∀ W2 W3, Below W1.heap.size W1 W2 → Chs (CM p q g m) W2 W3 → Vals W3 A a.t ∧ Below base W1 W3 := fun W2 W3 hb hk => by
    have h2 := h1.keep hb
    refine ⟨((hV1.chsV h1.hb (Chs.of_below (fun _ => False) hb) (fun _ h => h.elim)).chsV h2.hb hk fun x hx => ⟨h2.cpy.own x hx, (h2.cpy.kinds x hx).1⟩).1, ?_⟩
    exact (hb.mono h1.hb).trans (hk.below h2.cpy.own h2.hb)
  have cr := fun (W2 W3 : World) (hb : Below W1.heap.size W1 W2) (hk : Chs (CM p q g m) W2 W3) => rec_any a hrc A c W3 (fun W hb' => hT1 W ((hback W2 W3 hb hk).2.trans (hb'.mono (Nat.le_trans h1.hb (Nat.le_trans hb.size hk.size))))) (hback W2 W3 hb hk).1
  have cs := fun (W : World) (g' : Option Nat) (s' : Cs) (h' : Lg W base P p q g' m R s' b sf mn lf false) => lgstep_any h' hl0 hl1
  rw [decide_eq_false hlf] at cs
  have HB := Lib.hid hb01; have HW := Lib.hid hW1; have BX := Lib.hid B1; have HL := Lib.hid h1; have HNO := Lib.hid hno
  obtain ⟨p1, _, _, _, _, p6⟩ := h1.cells
  have hnw : ∀ g' : Option Nat, Nw g g' W1.heap.size → Nw g g' w.heap.size := fun _ k => nw_le k hb01.size
  have HNW := Lib.hid hnw
  have CA := Lib.hid ca; have CC := Lib.hid cc; have CR := Lib.hid cr; have CS := Lib.hid cs
  have HMN := Lib.hid (show ((mn : Int) == 30) = false from beq_eq_false_iff_ne.2 (by omega))
  have hcat : (b ++ recB a).size = b.size + (recB a).size := size_app _ _
  clear hb01 hW1 h1 hT1 hback ht h hV hV1 hok hm hq64 hw64 hn hnw ca cc cr cs hrc hE hg hno hlf hmn
  generalize doS R s a = S at *
  generalize doC R s a = C at *
  generalize recB a = rb at *
  obtain ⟨x, q', d, t⟩ := a
  simp only [akv] at *
  have d0 : W1.cell? ⟨w.heap.size, 0, none⟩ = some (.int .i64 x) := B1.cell rfl
  have d1 : W1.cell? ⟨w.heap.size, 1, none⟩ = some (.int .i64 q') := B1.cell rfl
  have d2 : W1.cell? ⟨w.heap.size, 2, none⟩ = some (.int .i64 d) := B1.cell rfl
  have d3 : W1.cell? ⟨w.heap.size, 3, none⟩ = some (.slice A t.length c) := B1.cell rfl
  clear B1
  go_enter Tryz.func12, Tryz.ntmps12
  go_upto_region 1 with fail
  rw [← HW.out]
  go_wp2_with fail
  go_region_held3 (fun w' => w'.cell? ⟨P, 1, none⟩ = some (.pointer (some ⟨p, 0, none⟩)) ∧ w'.cell? ⟨w.heap.size, 0, none⟩ = some (.int .i64 x) ∧ w'.cell? ⟨w.heap.size, 1, none⟩ = some (.int .i64 q') ∧ w'.cell? ⟨w.heap.size, 2, none⟩ = some (.int .i64 d) ∧ w'.cell? ⟨w.heap.size, 3, none⟩ = some (.slice A t.length c)) (first | exact ⟨p1, d0, d1, d2, d3⟩ | exact ⟨z1, y0, y1, y2, y3⟩ | go_keep) ((go_at_call 40; refine (CA.out _ (bdr (Below.refl _ _))).mono ?_; rintro e w2 ⟨rfl, hb2⟩; have HB2 := Lib.hid (bcl (bdr (Below.refl W1.heap.size W1)) hb2); have y := BX.out.below HB2.out BX.out.lt; have BX2 := Lib.hid (show AtB w2.drew w.heap.size #[.int .i64 x, .int .i64 q', .int .i64 d, .slice A t.length c] 33 from y); have y0 : w2.cell? ⟨w.heap.size, 0, none⟩ = some (.int .i64 x) := y.cell rfl; have y1 : w2.cell? ⟨w.heap.size, 1, none⟩ = some (.int .i64 q') := y.cell rfl; have y2 : w2.cell? ⟨w.heap.size, 2, none⟩ = some (.int .i64 d) := y.cell rfl; have y3 : w2.cell? ⟨w.heap.size, 3, none⟩ = some (.slice A t.length c) := y.cell rfl; obtain ⟨z1, _, _, _, _, _⟩ := (HL.out.keep HB2.out).cells; clear y; clear hb2))
  go_wp2_with fail
  go_region_held3 (fun w' => w'.cell? ⟨P, 1, none⟩ = some (.pointer (some ⟨p, 0, none⟩)) ∧ w'.cell? ⟨w.heap.size, 0, none⟩ = some (.int .i64 x) ∧ w'.cell? ⟨w.heap.size, 1, none⟩ = some (.int .i64 q') ∧ w'.cell? ⟨w.heap.size, 2, none⟩ = some (.int .i64 d) ∧ w'.cell? ⟨w.heap.size, 3, none⟩ = some (.slice A t.length c)) (first | exact ⟨z1, y0, y1, y2, y3⟩ | exact ⟨u1, v0, v1, v2, v3⟩ | go_keep) ((go_at_call 35; refine (CC.out _ (bdr HB2.out)).mono ?_; rintro e w3 ⟨rfl, g3, hc3, hk3, hn3⟩; have HL3 := Lib.hid ((HL.out.keep (bdr HB2.out)).copied hc3 hk3); have HK3 := Lib.hid hk3; have HN3 := Lib.hid hn3; have y := BX2.out.chs hk3 HNO.out; have v0 : w3.cell? ⟨w.heap.size, 0, none⟩ = some (.int .i64 x) := y.cell rfl; have v1 : w3.cell? ⟨w.heap.size, 1, none⟩ = some (.int .i64 q') := y.cell rfl; have v2 : w3.cell? ⟨w.heap.size, 2, none⟩ = some (.int .i64 d) := y.cell rfl; have v3 : w3.cell? ⟨w.heap.size, 3, none⟩ = some (.slice A t.length c) := y.cell rfl; obtain ⟨u1, _, _, u4, _, _⟩ := HL3.out.cells; clear y hc3 hk3 hn3))
  have hmn := HMN.out
  go_wp2_with (first
    | (go_at_call 42; refine (CR.out _ _ (bdr HB2.out) HK3.out).mono ?_; rintro e w4 ⟨rfl, hb4⟩; have HL4 := Lib.hid (HL3.out.keep hb4); have HB4 := Lib.hid hb4; clear hb4)
    | (go_at_call 43; refine (CS.out _ _ _ HL4.out).mono ?_; rintro e w5 ⟨rfl, hL5, hk5⟩; have HL5 := Lib.hid hL5; have HK5 := Lib.hid hk5; obtain ⟨_, u2, _, u5, _, _⟩ := hL5.cells; have f2 := hL5.frozen 2; have f4 := hL5.frozen 4; have l5 := hL5.pkin.lt; clear hL5 hk5))
  go_ret2
  have k6 : Chs (fun x => x = P) w5 ((w5.setCell ⟨P, 2, none⟩ (.string (b ++ rb))).setCell ⟨P, 4, none⟩ (.int .i64 ((mn : Int) + 1))) := (Chs.set w5 ⟨P, 2, none⟩ _).trans (Chs.set _ ⟨P, 4, none⟩ _) (fun b hb => .inl hb)
  refine ⟨rfl, g3, HL5.out.wrote k6 (fun A c hA => (hA.set 2 _).set 4 _), ?_, HNW.out _ (nw_le HN3.out (bdr HB2.out).size)⟩
  refine (Chs.of_below (LM P p q g m) (bcl HB.out (bdr HB2.out))).trans ((HK3.out.lm (P := P)).trans ((Chs.of_below (LM P p q g m) HB4.out).trans (((HK5.out.trans k6 (fun b hb => .inl hb)).mono (fun x e => .inl e) : Chs (LM P p q g m) _ _)) (fun b hb => .inl hb)) (fun b hb => .inl hb)) (fun b hb => .inl hb)
end
end Go.Proofs.YtpgemofkolmabaaGreatDoor
