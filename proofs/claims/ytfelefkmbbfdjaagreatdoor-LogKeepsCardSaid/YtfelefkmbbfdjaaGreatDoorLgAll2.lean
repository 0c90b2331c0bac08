/- Package log: Do when it is full, and when it stops. strings.LastIndex at an end of a line. Package log: Crash. Package log: Sync, Fail, Mark, Safe. -/
import Derived.Test.YtfelefkmbbfdjaaGreatDoorLgAll
import Derived.BigRegion
import Derived.Test.YtfelefkmbbfdjaaGreatDoorTpAll
import Derived.Test.YtfelefkmbbfdjaaGreatDoorMem
import Derived.WalkKit
import Derived.WalkLawsBesides
import Derived.WalkSpells
import Derived.RegionTactic
import Derived.Outline
namespace Go.Proofs.YtfelefkmbbfdjaaGreatDoor
open Go.ChangeShapes Go.WideShapes Go.ChangeAt Go.RowKit Go.Joins Go.Deep Go.Maps Go.WideMaps
set_option linter.unusedVariables false

/-- the log's blocks are old ones, or new -/
def NwL (n P p q : Nat) (g : Option Nat) (m p' q' : Nat) (g' : Option Nat) (m' : Nat) : Prop := ∀ b, LM P p' q' g' m' b → LM P p q g m b ∨ n ≤ b
section
variable {w w' : World} {base P p q m : Nat} {g : Option Nat} {R : List Ru} {s : Cs} {b : ByteArray} {sf mn : Nat} {lf : Int} {st : Bool} {D : List Ak}
set_option maxHeartbeats 3200000 in
set_option maxRecDepth 100000 in
theorem lgdo_full (h : Lg w base P p q g m R (cpD R D) (recs D) sf 30 lf false) (ht : ∀ W, Below base w W → TT W ∧ EE W ∧ AS W) (hD : VdD R D) (hl : D.length ≤ 30) (a : Ak) (A : Option Addr) (c : Nat) (hm : a.t.length ≤ maxLen) (hok : okL a.t) (hw64 : I64 a.w) (hq64 : I64 a.q) (hV : Vin w base A a.t)
    (hE : doE R (cpD R D) a = 0) (hg : agB (cpD R D) a = false) :
    Calls Tryz.prog 5 #[.pointer (some ⟨P, 0, none⟩), akv a A c] w fun e w' => e = .returned (.tuple #[.string ⟨#[]⟩, errV 4]) ∧
      ∃ p' q' m' g', Lg w' base P p' q' g' m' R (cpD R D) (recs D) sf 30 lf false ∧ Chs (LM P p q g m) w w' ∧ NwL w.heap.size P p q g m p' q' g' m' := by
  obtain ⟨W1, hW1⟩ : ∃ W1, W1 = w.alloc (.cells #[.int .i64 a.w, .int .i64 a.q, .int .i64 a.d, .slice A a.t.length c] 38) := ⟨_, rfl⟩
  have hb01 : Below w.heap.size w W1 := by rw [hW1]; exact bal1 _ _
  have B1 : AtB W1 w.heap.size #[.int .i64 a.w, .int .i64 a.q, .int .i64 a.d, .slice A a.t.length c] 38 := by rw [hW1]; exact AtB.new _ _ _
  have h1 := h.keep hb01
  have hV1 := hV.chsV h.hb (Chs.of_below (fun _ => False) hb01) (fun _ h => h.elim)
  have hno : ¬ CM p q g m w.heap.size := fun e => absurd (h.cpy.lts _ e) (by omega)
  have hT1 : ∀ W, Below base W1 W → TT W := fun W hb => (ht W ((hb01.mono h.hb).trans hb)).1
  have hn : (cpD R D).n ≤ 1000000 := by rw [hD.n]; omega
  have cc := fun (W : World) (hb : Below W1.heap.size W1 W) => cpdo_any ((h1.keep hb).cpy) (fun W' hb' => hT1 W' ((hb.mono h1.hb).trans hb')) hn a A c hm hok hq64 (hV1.1.below hb (Nat.le_refl _))
  rw [hE, eV_zero] at cc
  have ca := fun (W : World) (hb : Below W1.heap.size W1 W) => cpagain_any (h1.keep hb).cpy a A c hw64
  rw [hg] at ca
  have hback : ∀ W2 W3, Below W1.heap.size W1 W2 → Chs (CM p q g m) W2 W3 → Below base w W3 := fun W2 W3 hb hk => by
    have h2 := h1.keep hb
    exact (hb01.mono h.hb).trans ((hb.mono h1.hb).trans (hk.below h2.cpy.own h2.hb))
  have cb := fun (W : World) (g' : Option Nat) (s' : Cs) (h' : Lg W base P p q g' m R s' (recs D) sf 30 lf false) (hW : Below base w W) => lgback h' (fun W' hb => ht W' (hW.trans hb)) hD (Nat.le_trans hl (by decide))
  have HB := Lib.hid hb01; have HW := Lib.hid hW1; have BX := Lib.hid B1; have HL := Lib.hid h1; have HNO := Lib.hid hno; have HBK := Lib.hid hback
  obtain ⟨p1, _, _, _, _, p6⟩ := h1.cells
  have CA := Lib.hid ca; have CC := Lib.hid cc; have CB := Lib.hid cb
  clear hb01 hW1 h1 hT1 hback ht h hV hV1 hok hm hq64 hw64 hn ca cc cb hE hg hno hD hl
  generalize doS R (cpD R D) a = S at *
  generalize doC R (cpD R D) a = C at *
  generalize cpD R D = s0 at *
  generalize recs D = rb at *
  obtain ⟨x, q', d, t⟩ := a
  simp only [akv] at *
  have d0 : W1.cell? ⟨w.heap.size, 0, none⟩ = some (.int .i64 x) := B1.cell rfl
  have d1 : W1.cell? ⟨w.heap.size, 1, none⟩ = some (.int .i64 q') := B1.cell rfl
  have d2 : W1.cell? ⟨w.heap.size, 2, none⟩ = some (.int .i64 d) := B1.cell rfl
  have d3 : W1.cell? ⟨w.heap.size, 3, none⟩ = some (.slice A t.length c) := B1.cell rfl
  clear B1
  go_enter Tryz.func5, Tryz.ntmps5
  go_upto_region 1 with fail
  rw [← HW.out]
  go_wp2_with fail
  go_region_held3 (fun w' => w'.cell? ⟨P, 1, none⟩ = some (.pointer (some ⟨p, 0, none⟩)) ∧ w'.cell? ⟨w.heap.size, 0, none⟩ = some (.int .i64 x) ∧ w'.cell? ⟨w.heap.size, 1, none⟩ = some (.int .i64 q') ∧ w'.cell? ⟨w.heap.size, 2, none⟩ = some (.int .i64 d) ∧ w'.cell? ⟨w.heap.size, 3, none⟩ = some (.slice A t.length c)) (first | exact ⟨p1, d0, d1, d2, d3⟩ | exact ⟨z1, y0, y1, y2, y3⟩ | go_keep) ((go_at_call 20; refine (CA.out _ (bdr (Below.refl _ _))).mono ?_; rintro e w2 ⟨rfl, hb2⟩; have HB2 := Lib.hid (bcl (bdr (Below.refl W1.heap.size W1)) hb2); have y := BX.out.below HB2.out BX.out.lt; have BX2 := Lib.hid (show AtB w2.drew w.heap.size #[.int .i64 x, .int .i64 q', .int .i64 d, .slice A t.length c] 38 from y); have y0 : w2.cell? ⟨w.heap.size, 0, none⟩ = some (.int .i64 x) := y.cell rfl; have y1 : w2.cell? ⟨w.heap.size, 1, none⟩ = some (.int .i64 q') := y.cell rfl; have y2 : w2.cell? ⟨w.heap.size, 2, none⟩ = some (.int .i64 d) := y.cell rfl; have y3 : w2.cell? ⟨w.heap.size, 3, none⟩ = some (.slice A t.length c) := y.cell rfl; obtain ⟨z1, _, _, _, _, _⟩ := (HL.out.keep HB2.out).cells; clear y; clear hb2))
  go_wp2_with fail
  go_region_held3 (fun w' => w'.cell? ⟨P, 1, none⟩ = some (.pointer (some ⟨p, 0, none⟩)) ∧ w'.cell? ⟨w.heap.size, 0, none⟩ = some (.int .i64 x) ∧ w'.cell? ⟨w.heap.size, 1, none⟩ = some (.int .i64 q') ∧ w'.cell? ⟨w.heap.size, 2, none⟩ = some (.int .i64 d) ∧ w'.cell? ⟨w.heap.size, 3, none⟩ = some (.slice A t.length c)) (first | exact ⟨z1, y0, y1, y2, y3⟩ | exact ⟨u1, v0, v1, v2, v3⟩ | go_keep) ((go_at_call 21; refine (CC.out _ (bdr HB2.out)).mono ?_; rintro e w3 ⟨rfl, g3, hc3, hk3, hn3⟩; have HL3 := Lib.hid ((HL.out.keep (bdr HB2.out)).copied hc3 hk3); have HK3 := Lib.hid hk3; have HN3 := Lib.hid hn3; have y := BX2.out.chs hk3 HNO.out; have v0 : w3.cell? ⟨w.heap.size, 0, none⟩ = some (.int .i64 x) := y.cell rfl; have v1 : w3.cell? ⟨w.heap.size, 1, none⟩ = some (.int .i64 q') := y.cell rfl; have v2 : w3.cell? ⟨w.heap.size, 2, none⟩ = some (.int .i64 d) := y.cell rfl; have v3 : w3.cell? ⟨w.heap.size, 3, none⟩ = some (.slice A t.length c) := y.cell rfl; obtain ⟨u1, _, _, u4, _, _⟩ := HL3.out.cells; clear y hc3 hk3 hn3))
  go_wp2_with (go_at_call 22; refine (CB.out _ _ _ HL3.out (HBK.out _ _ (bdr HB2.out) HK3.out)).mono ?_; rintro e w4 ⟨rfl, p', q', m', g', hL4, hk4, hn4⟩; have HL4 := Lib.hid hL4; have HK4 := Lib.hid hk4; have HN4 := Lib.hid hn4; clear hL4 hk4 hn4)
  go_ret2
  refine ⟨rfl, p', q', m', g', HL4.out, ?_, fun b hb => ?_⟩
  · exact (Chs.of_below (LM P p q g m) (bcl HB.out (bdr HB2.out))).trans ((HK3.out.lm (P := P)).trans (HK4.out.mono (fun x e => .inl e) : Chs (LM P p q g m) _ _) (fun b hb => .inl hb)) (fun b hb => .inl hb)
  · rcases hb with e | e
    · exact .inl (.inl e)
    · have := HN4.out b e
      have := HK3.out.size
      have := (bcl HB.out (bdr HB2.out)).size
      exact .inr (by omega)
/-- half a record -/
def halfB (a : Ak) : ByteArray := (recB a).extract 0 ((recB a).size / 2)
set_option maxHeartbeats 3200000 in
set_option maxRecDepth 100000 in
theorem lgdo_stop (h : Lg w base P p q g m R (cpD R D) (recs D) sf mn 0 false) (ht : ∀ W, Below base w W → TT W ∧ EE W ∧ AS W) (hD : VdD R D) (hl : D.length ≤ 30) (a : Ak) (A : Option Addr) (c : Nat) (hm : a.t.length ≤ maxLen) (hok : okL a.t) (hw64 : I64 a.w) (hq64 : I64 a.q) (hV : Vin w base A a.t)
    (hE : doE R (cpD R D) a = 0) (hg : agB (cpD R D) a = false) (hmn : mn ≠ 30) (hm2 : mn ≤ 1000000) :
    Calls Tryz.prog 5 #[.pointer (some ⟨P, 0, none⟩), akv a A c] w fun e w' => e = .returned (.tuple #[.string ⟨#[]⟩, errV 6]) ∧
      ∃ p' q' m' g', Lg w' base P p' q' g' m' R (cpD R D) (recs D ++ halfB a) sf mn (-1) true ∧ Chs (LM P p q g m) w w' ∧ NwL w.heap.size P p q g m p' q' g' m' := by
  have hrc := rcd_of h.cpy.ok (by rw [hD.n]; omega) hE hg
  have hrs := recB_size hrc
  have hds := recs_size D (hD.all (by omega))
  have hbs : (recs D).size ≤ 1000000 := by omega
  have hv4 := recB_four a
  obtain ⟨W1, hW1⟩ : ∃ W1, W1 = w.alloc (.cells #[.int .i64 a.w, .int .i64 a.q, .int .i64 a.d, .slice A a.t.length c] 38) := ⟨_, rfl⟩
  have hb01 : Below w.heap.size w W1 := by rw [hW1]; exact bal1 _ _
  have B1 : AtB W1 w.heap.size #[.int .i64 a.w, .int .i64 a.q, .int .i64 a.d, .slice A a.t.length c] 38 := by rw [hW1]; exact AtB.new _ _ _
  have h1 := h.keep hb01
  have hV1 := hV.chsV h.hb (Chs.of_below (fun _ => False) hb01) (fun _ h => h.elim)
  have hno : ¬ CM p q g m w.heap.size := fun e => absurd (h.cpy.lts _ e) (by omega)
  have hT1 : ∀ W, Below base W1 W → TT W := fun W hb => (ht W ((hb01.mono h.hb).trans hb)).1
  have hn : (cpD R D).n ≤ 1000000 := by rw [hD.n]; omega
  have cc := fun (W : World) (hb : Below W1.heap.size W1 W) => cpdo_any ((h1.keep hb).cpy) (fun W' hb' => hT1 W' ((hb.mono h1.hb).trans hb')) hn a A c hm hok hq64 (hV1.1.below hb (Nat.le_refl _))
  rw [hE, eV_zero] at cc
  have ca := fun (W : World) (hb : Below W1.heap.size W1 W) => cpagain_any (h1.keep hb).cpy a A c hw64
  rw [hg] at ca
  have hback : ∀ W2 W3, Below W1.heap.size W1 W2 → Chs (CM p q g m) W2 W3 → Vals W3 A a.t ∧ Below base w W3 ∧ Below base W1 W3 := fun W2 W3 hb hk => by
    have h2 := h1.keep hb
    have h3 := (hb.mono h1.hb).trans (hk.below h2.cpy.own h2.hb)
    exact ⟨((hV1.chsV h1.hb (Chs.of_below (fun _ => False) hb) (fun _ h => h.elim)).chsV h2.hb hk fun x hx => ⟨h2.cpy.own x hx, (h2.cpy.kinds x hx).1⟩).1, (hb01.mono h.hb).trans h3, h3⟩
  have cr := fun (W2 W3 : World) (hb : Below W1.heap.size W1 W2) (hk : Chs (CM p q g m) W2 W3) => rec_any a hrc A c W3 (fun W hb' => hT1 W ((hback W2 W3 hb hk).2.2.trans (hb'.mono (Nat.le_trans h1.hb (Nat.le_trans hb.size hk.size))))) (hback W2 W3 hb hk).1
  have cs := fun (W : World) (g' : Option Nat) (s' : Cs) (h' : Lg W base P p q g' m R s' (recs D) sf mn 0 false) => lgstep_any h' (by decide) (by decide)
  rw [show decide ((0 : Int) = 0) = true from rfl, show lfN 0 = -1 by decide] at cs
  have cb := fun (W : World) (g' : Option Nat) (s' : Cs) (h' : Lg W base P p q g' m R s' (recs D) sf mn (-1) true) (hW : Below base w W) => lgback h' (fun W' hb => ht W' (hW.trans hb)) hD (Nat.le_trans hl (by decide))
  have HB := Lib.hid hb01; have HW := Lib.hid hW1; have BX := Lib.hid B1; have HL := Lib.hid h1; have HNO := Lib.hid hno
  have hbk2 : ∀ W2 W3, Below W1.heap.size W1 W2 → Chs (CM p q g m) W2 W3 → Below base w W3 := fun W2 W3 hb hk => (hback W2 W3 hb hk).2.1
  have HBK := Lib.hid hbk2
  have HBS := Lib.hid h.hb; have HPP := Lib.hid h.hp
  obtain ⟨p1, _, _, _, _, p6⟩ := h1.cells
  have CA := Lib.hid ca; have CC := Lib.hid cc; have CR := Lib.hid cr; have CS := Lib.hid cs; have CB := Lib.hid cb
  have HMN := Lib.hid (show ((mn : Int) == 30) = false from beq_eq_false_iff_ne.2 (by omega))
  have hcat : (recs D ++ halfB a).size = (recs D).size + (halfB a).size := size_app _ _
  have hhs : (halfB a).size ≤ 445 := by
    show ((recB a).extract 0 ((recB a).size / 2)).size ≤ 445
    rw [ByteArray.size_extract]; omega
  have HHB := Lib.hid (show (recB a).extract 0 ((recB a).size / 2) = halfB a from rfl)
  clear hb01 hW1 h1 hT1 hback hbk2 ht h hV hV1 hok hm hq64 hw64 hn ca cc cr cs cb hrc hE hg hno hmn hD hl hds
  generalize doS R (cpD R D) a = S at *
  generalize doC R (cpD R D) a = C at *
  generalize cpD R D = s0 at *
  generalize recs D = rd at *
  generalize halfB a = hf at *
  generalize recB a = rb at *
  obtain ⟨x, q', d, t⟩ := a
  simp only [akv] at *
  have d0 : W1.cell? ⟨w.heap.size, 0, none⟩ = some (.int .i64 x) := B1.cell rfl
  have d1 : W1.cell? ⟨w.heap.size, 1, none⟩ = some (.int .i64 q') := B1.cell rfl
  have d2 : W1.cell? ⟨w.heap.size, 2, none⟩ = some (.int .i64 d) := B1.cell rfl
  have d3 : W1.cell? ⟨w.heap.size, 3, none⟩ = some (.slice A t.length c) := B1.cell rfl
  clear B1
  go_enter Tryz.func5, Tryz.ntmps5
  go_upto_region 1 with fail
  rw [← HW.out]
  go_wp2_with fail
  go_region_held3 (fun w' => w'.cell? ⟨P, 1, none⟩ = some (.pointer (some ⟨p, 0, none⟩)) ∧ w'.cell? ⟨w.heap.size, 0, none⟩ = some (.int .i64 x) ∧ w'.cell? ⟨w.heap.size, 1, none⟩ = some (.int .i64 q') ∧ w'.cell? ⟨w.heap.size, 2, none⟩ = some (.int .i64 d) ∧ w'.cell? ⟨w.heap.size, 3, none⟩ = some (.slice A t.length c)) (first | exact ⟨p1, d0, d1, d2, d3⟩ | exact ⟨z1, y0, y1, y2, y3⟩ | go_keep) ((go_at_call 20; refine (CA.out _ (bdr (Below.refl _ _))).mono ?_; rintro e w2 ⟨rfl, hb2⟩; have HB2 := Lib.hid (bcl (bdr (Below.refl W1.heap.size W1)) hb2); have y := BX.out.below HB2.out BX.out.lt; have BX2 := Lib.hid (show AtB w2.drew w.heap.size #[.int .i64 x, .int .i64 q', .int .i64 d, .slice A t.length c] 38 from y); have y0 : w2.cell? ⟨w.heap.size, 0, none⟩ = some (.int .i64 x) := y.cell rfl; have y1 : w2.cell? ⟨w.heap.size, 1, none⟩ = some (.int .i64 q') := y.cell rfl; have y2 : w2.cell? ⟨w.heap.size, 2, none⟩ = some (.int .i64 d) := y.cell rfl; have y3 : w2.cell? ⟨w.heap.size, 3, none⟩ = some (.slice A t.length c) := y.cell rfl; obtain ⟨z1, _, _, _, _, _⟩ := (HL.out.keep HB2.out).cells; clear y; clear hb2))
  go_wp2_with fail
  go_region_held3 (fun w' => w'.cell? ⟨P, 1, none⟩ = some (.pointer (some ⟨p, 0, none⟩)) ∧ w'.cell? ⟨w.heap.size, 0, none⟩ = some (.int .i64 x) ∧ w'.cell? ⟨w.heap.size, 1, none⟩ = some (.int .i64 q') ∧ w'.cell? ⟨w.heap.size, 2, none⟩ = some (.int .i64 d) ∧ w'.cell? ⟨w.heap.size, 3, none⟩ = some (.slice A t.length c)) (first | exact ⟨z1, y0, y1, y2, y3⟩ | exact ⟨u1, v0, v1, v2, v3⟩ | go_keep) ((go_at_call 21; refine (CC.out _ (bdr HB2.out)).mono ?_; rintro e w3 ⟨rfl, g3, hc3, hk3, hn3⟩; have HL3 := Lib.hid ((HL.out.keep (bdr HB2.out)).copied hc3 hk3); have HK3 := Lib.hid hk3; have HN3 := Lib.hid hn3; have y := BX2.out.chs hk3 HNO.out; have v0 : w3.cell? ⟨w.heap.size, 0, none⟩ = some (.int .i64 x) := y.cell rfl; have v1 : w3.cell? ⟨w.heap.size, 1, none⟩ = some (.int .i64 q') := y.cell rfl; have v2 : w3.cell? ⟨w.heap.size, 2, none⟩ = some (.int .i64 d) := y.cell rfl; have v3 : w3.cell? ⟨w.heap.size, 3, none⟩ = some (.slice A t.length c) := y.cell rfl; obtain ⟨u1, _, _, u4, _, _⟩ := HL3.out.cells; clear y hc3 hk3 hn3))
  have hmn := HMN.out
  go_wp2_with (first
    | (go_at_call 23; refine (CR.out _ _ (bdr HB2.out) HK3.out).mono ?_; rintro e w4 ⟨rfl, hb4⟩; have HL4 := Lib.hid (HL3.out.keep hb4); have HB4 := Lib.hid hb4; clear hb4)
    | (go_at_call 24; refine (CS.out _ _ _ HL4.out).mono ?_; rintro e w5 ⟨rfl, hL5, hk5⟩; have HL5 := Lib.hid hL5; have HK5 := Lib.hid hk5; clear hL5 hk5)
    | (go_at_call 22; refine (CB.out _ _ _ HL5.out ((HBK.out _ _ (bdr HB2.out) HK3.out).trans ((HB4.out.mono (HL3.out.hb)).trans (HK5.out.below (fun b e => by obtain rfl : b = P := e; exact HPP.out) HL4.out.hb)))).mono ?_; rintro e w6 ⟨rfl, p', q', m', g', hL6, hk6, hn6⟩; obtain ⟨_, u2, _, _, _, _⟩ := hL6.cells; have f2 := hL6.frozen 2; have l6 := hL6.pkin.lt; have HL6 := Lib.hid hL6; have HK6 := Lib.hid hk6; have HN6 := Lib.hid hn6; clear hL6 hk6 hn6))
  clear HBK CA CC CR CS CB HMN
  go_region
  rw [HHB.out]
  go_wp2_with fail
  go_ret2
  have k7 := Chs.set w6 ⟨P, 2, none⟩ (.string (rd ++ hf))
  have k8 : Chs (fun x => x = P) w6 (w6.setCell ⟨P, 2, none⟩ (.string (rd ++ hf))).drew := ⟨k7.os, k7.tape, k7.output, k7.size, k7.block⟩
  refine ⟨rfl, p', q', m', g', HL6.out.wrote k8 (fun A c hA => hA.set 2 _), ?_, fun b hb => ?_⟩
  · refine (Chs.of_below (LM P p q g m) (bcl HB.out (bdr HB2.out))).trans ((HK3.out.lm (P := P)).trans ((Chs.of_below (LM P p q g m) HB4.out).trans ((((HK5.out.trans HK6.out (fun b hb => .inl hb)).trans k8 (fun b hb => .inl hb)).mono (fun x e => .inl e) : Chs (LM P p q g m) _ _)) (fun b hb => .inl hb)) (fun b hb => .inl hb)) (fun b hb => .inl hb)
  · rcases hb with e | e
    · exact .inl (.inl e)
    · have := HN6.out b e
      have := HK5.out.size
      have := HB4.out.size
      have := HK3.out.size
      have := (bcl HB.out (bdr HB2.out)).size
      exact .inr (by omega)
end
end Go.Proofs.YtfelefkmbbfdjaaGreatDoor
namespace Go.Proofs.YtfelefkmbbfdjaaGreatDoor
open Go.RowKit
set_option linter.unusedVariables false

/-- where the last end of a line stands -/
def LS (s : ByteArray) (n : Int) : Prop := (n = -1 ∧ ∀ k : Nat, s.data.toList[k]? ≠ some 10) ∨ ∃ i : Nat, n = i ∧ i < s.size ∧ s.data.toList[i]? = some 10 ∧ ∀ k : Nat, i < k → s.data.toList[k]? ≠ some 10
set_option maxHeartbeats 800000 in
set_option maxRecDepth 100000 in
theorem lastb_any (s : ByteArray) (hs : s.size ≤ 1000000000) (w : World) :
    Calls Tryz.prog 47 #[.string s, .int .u8 10] w fun e w' => (∃ n : Int, e = .returned (.int .i64 n) ∧ LS s n) ∧ w = w' := by
  go_enter Tryz.func47, Tryz.ntmps47
  go_wp2_with fail
  go_loopw [5] (fun s5 wr => ∃ (x : Int) (j : Nat), x = (j : Int) - 1 ∧ j ≤ s.size ∧ s5 = .int .i64 x ∧ wr = w ∧ Hid (∀ k : Nat, j ≤ k → s.data.toList[k]? ≠ some 10)) (fun s5 _ => (intOf s5 + 1).toNat)
  case atStart => exact ⟨_, s.size, rfl, Nat.le_refl _, rfl, rfl, Lib.hid (fun k hk e => by
    have := (List.getElem?_eq_some_iff.1 e).1
    rw [Array.length_toList] at this
    have h2 : s.data.size = s.size := rfl
    omega)⟩
  case round =>
    obtain ⟨x, j, hx, hj, rfl, rfl, HK⟩ := hrel
    rcases Nat.eq_zero_or_pos j with rfl | hp
    · obtain rfl : x = -1 := by omega
      clear hx
      go_wp2_with fail
      go_ret
      exact ⟨⟨_, rfl, .inl ⟨rfl, fun k => HK.out k (Nat.zero_le _)⟩⟩, rfl⟩
    · obtain ⟨i, rfl⟩ : ∃ i : Nat, x = (i : Int) := ⟨j - 1, by omega⟩
      obtain rfl : j = i + 1 := by omega
      have hlt : i < s.size := by omega
      clear hx hp
      have i0 : (0 : Int) ≤ (i : Int) := by omega
      have i1 : (i : Int) < (s.size : Int) := by omega
      have hat := list_at hlt
      by_cases hb : s[i] = 10
      · have q : (((s[i]'hlt).toNat : Int) == 10) = true := by rw [hb]; rfl
        rw [hb] at hat
        have HAT := Lib.hid hat
        clear hat hb
        go_wp2_with fail
        go_ret
        exact ⟨⟨_, rfl, .inr ⟨i, rfl, hlt, HAT.out, fun k hk => HK.out k (by omega)⟩⟩, rfl⟩
      · have q : (((s[i]'hlt).toNat : Int) == 10) = false := beq_eq_false_iff_ne.2 fun e => hb (UInt8.toNat_inj.1 (by show (s[i]).toNat = 10; omega))
        have hk2 : ∀ k : Nat, i ≤ k → s.data.toList[k]? ≠ some 10 := fun k hk => by
          by_cases e : k = i
          · subst e; rw [hat]; intro e2; exact hb (Option.some.inj e2)
          · exact HK.out k (by omega)
        have HK2 := Lib.hid hk2
        clear hat hb hk2
        go_wp2_with fail
        go_roundw
        case rel => exact ⟨(i : Int) - 1, i, rfl, by omega, by go_num, by first | rfl | trivial, HK2⟩
        case measure => simp [intOf]
theorem lasti_any (s : ByteArray) (hs : s.size ≤ 1000000000) (w : World) :
    Calls Tryz.prog 25 #[.string s, .string ⟨#[10]⟩] w fun e w' => (∃ n : Int, e = .returned (.int .i64 n) ∧ LS s n) ∧ w = w' := by
  have c := lastb_any s hs w
  have C := Lib.hid c
  clear c
  go_enter Tryz.func25, Tryz.ntmps25
  go_wp2_with (go_at_call 47; refine C.out.mono ?_; rintro e w' ⟨⟨n, rfl, hn⟩, rfl⟩)
  go_ret
  exact ⟨⟨n, rfl, hn⟩, rfl⟩
end Go.Proofs.YtfelefkmbbfdjaaGreatDoor
namespace Go.Proofs.YtfelefkmbbfdjaaGreatDoor
open Go.ChangeShapes Go.WideShapes Go.ChangeAt Go.RowKit Go.Joins Go.Deep
set_option linter.unusedVariables false

/-- how far the bytes are kept -/
def hiN (sf : Nat) (b : ByteArray) (keep : Int) : Nat := sf + (max 0 (min keep ((b.size : Int) - sf))).toNat
/-- so many records are whole up to there -/
def CutAt (D : List Ak) (hi k : Nat) : Prop := k ≤ D.length ∧ (recs (D.take k)).size ≤ hi ∧ ∀ j, k < j → j ≤ D.length → hi < (recs (D.take j)).size
theorem ext_to (s : ByteArray) (i : Nat) : (s.extract 0 i).data.toList = s.data.toList.take i := by rw [ext_take]
theorem recs_data (D : List Ak) : (⟨(recs D).data⟩ : ByteArray) = recs D := rfl
section
variable {w w' : World} {base P p q m : Nat} {g : Option Nat} {R : List Ru} {s : Cs} {b jk : ByteArray} {sf mn : Nat} {lf : Int} {st : Bool} {D : List Ak}
/-- where the last end of a line stands among what is kept -/
theorem cut_last (hD : VdD R D) (hl : D.length ≤ 30) (hj : ∀ x ∈ jk.data.toList, x ≠ 10) (hi : Nat) {n : Int} (hn : LS ((recs D ++ jk).extract 0 hi) n) :
    ∃ k, CutAt D hi k ∧ n + 1 = ((recs (D.take k)).size : Nat) ∧ ((recs D ++ jk).extract 0 hi).extract 0 (recs (D.take k)).size = recs (D.take k) ∧ (recs (D.take k)).size ≤ ((recs D ++ jk).extract 0 hi).size := by
  obtain ⟨k, q, h1, h2, h3, h4, h5⟩ := recs_cut D (hD.all (by omega)) jk.data.toList hj hi
  have hb : ((recs D ++ jk).extract 0 hi).data.toList = (recs (D.take k)).data.toList ++ q := by
    rw [ext_to, ByteArray.data_append, Array.toList_append]; exact h2
  have hlen : ((recs (D.take k)).data.toList).length = (recs (D.take k)).size := Array.length_toList
  refine ⟨k, ⟨h1, h4, h5⟩, ?_, ?_, ?_⟩
  · obtain ⟨e1, e2⟩ := last_end (recs_end (D.take k)) h3
    rcases hn with ⟨rfl, hk⟩ | ⟨i, rfl, _, hi, hk⟩
    · have := e2 (fun k => by rw [← hb]; exact hk k)
      rw [this] at hlen
      have hl0 : (0 : Nat) = (recs (D.take k)).size := hlen
      omega
    · have := e1 i (by rw [← hb]; exact hi) (fun k hlt => by rw [← hb]; exact hk k hlt)
      omega
  · refine bytes_eq ?_
    rw [ext_to, hb, ← hlen, List.take_left]
  · have : (((recs D ++ jk).extract 0 hi).data.toList).length = ((recs D ++ jk).extract 0 hi).size := Array.length_toList
    rw [← this, hb, List.length_append]
    omega
set_option maxHeartbeats 800000 in
set_option maxRecDepth 100000 in
theorem lgcrash (h : Lg w base P p q g m R s (recs D ++ jk) sf mn lf st) (ht : ∀ W, Below base w W → TT W ∧ EE W ∧ AS W) (hD : VdD R D) (hl : D.length ≤ 30) (hj : ∀ x ∈ jk.data.toList, x ≠ 10) (hjs : jk.size ≤ 1000) (hsf : sf ≤ (recs D ++ jk).size) (keep : Int) :
    Calls Tryz.prog 7 #[.pointer (some ⟨P, 0, none⟩), .int .i64 keep] w fun e w' => (∃ v, e = .returned v) ∧ ∃ k p' q' m' g', CutAt D (hiN sf (recs D ++ jk) keep) k ∧
      Lg w' base P p' q' g' m' R (cpD R (D.take k)) (recs (D.take k)) (recs (D.take k)).size k (-1) false ∧ Chs (fun x => x = P) w w' ∧ ∀ x, CM p' q' g' m' x → w.heap.size ≤ x := by
  obtain ⟨_, c2, c3, _⟩ := h.cells
  have hPl := h.pkin.lt
  have hds := recs_size D (hD.all (by omega))
  have hbs : (recs D ++ jk).size ≤ 1000000 := by rw [size_app]; omega
  have cl := fun (W : World) => lasti_any ((recs D ++ jk).extract 0 (hiN sf (recs D ++ jk) keep)) (by rw [ByteArray.size_extract]; omega) W
  have cut := fun (n : Int) (hn : LS ((recs D ++ jk).extract 0 (hiN sf (recs D ++ jk) keep)) n) => cut_last hD hl hj _ hn
  have cr := fun (W : World) (hb : Below w.heap.size w W) (k : Nat) (hk : k ≤ D.length) => callsIn_wide.1 (redo_in (h.keep hb) (fun W' hb' => ht W' ((hb.mono h.hb).trans hb')) (D.take k) (hD.take k) (by rw [List.length_take]; omega))
  have H := Lib.hid h; have CL := Lib.hid cl; have CUT := Lib.hid cut; have CR := Lib.hid cr
  generalize hhi : hiN sf (recs D ++ jk) keep = hi at *
  have hlen := fun (k : Nat) (hk : k ≤ D.length) => show (D.take k).length = k from by rw [List.length_take]; omega
  have HLEN := Lib.hid hlen
  unfold hiN at hhi
  generalize recs D ++ jk = b at *
  have hx : ((sf : Int) + max 0 (min keep ((b.size : Int) - sf))).toNat = hi := by omega
  have HX := Lib.hid hx; have HHI := Lib.hid hhi
  clear h cl cut cr hhi hx hds ht hD hl hj hjs hlen
  go_enter Tryz.func7, Tryz.ntmps7
  go_wp2_with fail
  go_region
  rw [HX.out]
  have hbb : (b.extract 0 hi).size ≤ 1000000 := by rw [ByteArray.size_extract]; omega
  generalize b.extract 0 hi = bb at *
  go_wp2_with (first
    | (go_at_call 25; refine (CL.out _).mono ?_; rintro e w' ⟨⟨n, rfl, hn⟩, rfl⟩; obtain ⟨k, hk, hk1, hk2, hk3⟩ := CUT.out n hn; obtain ⟨rk, hrk⟩ : ∃ rk, rk = (recs (D.take k)).size := ⟨_, rfl⟩; rw [← hrk] at hk1 hk2 hk3; obtain rfl : n = (rk : Int) - 1 := (by omega); have hrm : rk ≤ 1000000 := (by omega); obtain ⟨rq, hrq⟩ : ∃ rq, rq = recs (D.take k) := ⟨_, rfl⟩; have cr := fun (W : World) (hb : Below w.heap.size w W) => CR.out W hb k hk.1; rw [← hrq] at cr hk2 hrk; rw [HLEN.out k hk.1] at cr; have CR2 := Lib.hid cr; have HK := Lib.hid hk; have HK2 := Lib.hid hk2; have HRK := Lib.hid hrk; have HRQ := Lib.hid hrq; clear hn hk hk1 hk2 hrk hrq cr)
    | (go_at_call 26; rw [HK2.out]; refine (CR2.out _ (bdr (Below.refl _ _))).mono ?_; rintro e w1 ⟨p', q', m', g', rfl, hc, hb, h1, h2, h3, h4⟩; have x := H.out.keep (bcl (bdr (Below.refl w.heap.size w)) hb); have f1 := x.frozen 1; have f2 := x.frozen 2; have f3 := x.frozen 3; have f4 := x.frozen 4; have f5 := x.frozen 5; have f6 := x.frozen 6; have hl1 := x.pkin.lt; obtain ⟨u1, u2, u3, u4, u5, u6⟩ := x.cells; have HC := Lib.hid hc; have HB := Lib.hid (bcl (bdr (Below.refl w.heap.size w)) hb); have H4 := Lib.hid (show ∀ x, CM p' q' g' m' x → w.heap.size ≤ x from h4); clear hc hb h4 x))
  go_end0
  obtain ⟨A, cc, hA, hR⟩ := (H.out.keep HB.out).there
  have hm := (H.out.keep HB.out).mine P (.inl rfl)
  have hpk := (H.out.keep HB.out).pkin
  have hz := HB.out.size
  have hrq := HRQ.out
  have kc := (((((Chs.set w1 ⟨P, 1, none⟩ (.pointer (some ⟨p', 0, none⟩))).trans (Chs.set _ ⟨P, 4, none⟩ (.int .i64 k)) (fun b hb => .inl hb)).trans (Chs.set _ ⟨P, 2, none⟩ (.string rq)) (fun b hb => .inl hb)).trans (Chs.set _ ⟨P, 3, none⟩ (.int .i64 rq.size)) (fun b hb => .inl hb)).trans (Chs.set _ ⟨P, 5, none⟩ (.int .i64 (-1))) (fun b hb => .inl hb)).trans (Chs.set _ ⟨P, 6, none⟩ (.bool false)) (fun b hb => .inl hb)
  refine ⟨⟨_, rfl⟩, k, p', q', m', g', HK.out, ?_, (Chs.of_below _ HB.out).trans kc (fun b e => .inl e), H4.out⟩
  rw [← hrq]
  refine ⟨⟨A, cc, (((((hA.set 1 _).set 4 _).set 2 _).set 3 _).set 5 _).set 6 _, hR.stay (H.out.keep HB.out).hb kc.size fun x hx hkx => kc.block x hx fun e => ?_⟩, HC.out.far kc fun x e => ?_, H.out.hp⟩
  · obtain rfl : x = P := e
    rcases hkx with hk1 | hk1 | hk1
    · omega
    · exact hm.2.1 hk1
    · exact hm.2.2 hk1
  · obtain rfl : x = P := e
    have hd : w.drew.heap.size = w.heap.size := rfl
    have hPw := H.out.pkin.lt
    exact ⟨hm.1, hm.2.1, hm.2.2, fun e => by
      rcases e with e | e | e | e
      · omega
      · omega
      · exact absurd (kin.ne hpk (HC.out.spc.gkin e).2) (by decide)
      · omega⟩
end
end Go.Proofs.YtfelefkmbbfdjaaGreatDoor
namespace Go.Proofs.YtfelefkmbbfdjaaGreatDoor
open Go.ChangeShapes Go.WideShapes Go.ChangeAt Go.RowKit Go.Joins Go.Deep
set_option linter.unusedVariables false

section
variable {w w' : World} {base P p q m : Nat} {g : Option Nat} {R : List Ru} {s : Cs} {b : ByteArray} {sf mn : Nat} {lf : Int} {st : Bool}
theorem lgsafe_any (h : Lg w base P p q g m R s b sf mn lf st) : Calls Tryz.prog 10 #[.pointer (some ⟨P, 0, none⟩)] w fun e w' => e = .returned (.int .i64 sf) ∧ w = w' := by
  obtain ⟨_, _, c3, _⟩ := h.cells
  go_enter Tryz.func10, Tryz.ntmps10
  go_wp2_with fail
  go_ret
  exact ⟨rfl, rfl⟩
theorem lgmark_any (h : Lg w base P p q g m R s b sf mn lf st) (ht : ∀ W, Below base w W → TT W) :
    Calls Tryz.prog 8 #[.pointer (some ⟨P, 0, none⟩)] w fun e w' => e = .returned (.tuple #[.int .i64 s.n, .int .i64 (mkV s)]) ∧ Below w.heap.size w w' := by
  obtain ⟨c1, _⟩ := h.cells
  have c := cpmark_any h.cpy ht
  have C := Lib.hid c
  clear c h ht
  go_enter Tryz.func8, Tryz.ntmps8
  go_wp2_with (go_at_call 27; refine C.out.mono ?_; rintro e w1 ⟨rfl, hb1⟩)
  go_ret2
  exact ⟨rfl, hb1⟩
set_option maxHeartbeats 800000 in
theorem lgfail_any (h : Lg w base P p q g m R s b sf mn lf st) (n : Int) : Calls Tryz.prog 14 #[.pointer (some ⟨P, 0, none⟩), .int .i64 n] w fun e w' => (∃ v, e = .returned v) ∧ Lg w' base P p q g m R s b sf mn (max (-1) n) st ∧ Chs (fun x => x = P) w w' := by
  have f5 := h.frozen 5
  have hl := h.pkin.lt
  obtain ⟨_, _, _, _, c5, _⟩ := h.cells
  have hc := Chs.set w ⟨P, 5, none⟩ (.int .i64 (max (-1) n))
  have h2 : Lg (w.setCell ⟨P, 5, none⟩ (.int .i64 (max (-1) n))) base P p q g m R s b sf mn (max (-1) n) st := h.wrote hc fun A c hA => hA.set 5 _
  have HC := Lib.hid hc; have H2 := Lib.hid h2
  clear hc h2 h
  go_enter Tryz.func14, Tryz.ntmps14
  go_wp2_with fail
  go_end0
  exact ⟨⟨_, rfl⟩, H2.out, HC.out⟩
/-- a step that does not stop, and the bytes are safe -/
theorem lgsync_ok (h : Lg w base P p q g m R s b sf mn lf false) (h0 : -1 ≤ lf) (h1 : lf ≤ 9223372036854775807) (hne : lf ≠ 0) :
    Calls Tryz.prog 6 #[.pointer (some ⟨P, 0, none⟩)] w fun e w' => e = .returned .nilIface ∧ Lg w' base P p q g m R s b b.size mn (lfN lf) false ∧ Chs (fun x => x = P) w w' := by
  have c := lgstep_any h h0 h1
  rw [decide_eq_false hne] at c
  obtain ⟨_, _, _, _, _, c6⟩ := h.cells
  have C := Lib.hid c
  clear c h h0 h1 hne
  go_enter Tryz.func6, Tryz.ntmps6
  go_wp2_with (go_at_call 24; refine C.out.mono ?_; rintro e w1 ⟨rfl, hL, hk⟩; obtain ⟨_, d2, d3, _⟩ := hL.cells; have f3 := hL.frozen 3; have hl := hL.pkin.lt; have HL := Lib.hid hL; have HK := Lib.hid hk; clear hL hk)
  go_ret
  have hc := Chs.set w1 ⟨P, 3, none⟩ (.int .i64 b.size)
  exact ⟨rfl, HL.out.wrote hc (fun A c hA => hA.set 3 _), HK.out.trans hc (fun b hb => .inl hb)⟩
theorem lgsync_stop (h : Lg w base P p q g m R s b sf mn 0 false) :
    Calls Tryz.prog 6 #[.pointer (some ⟨P, 0, none⟩)] w fun e w' => e = .returned (errV 6) ∧ Lg w' base P p q g m R s b sf mn (-1) true ∧ Chs (fun x => x = P) w w' := by
  have c := lgstep_any h (by decide) (by decide)
  rw [show decide ((0 : Int) = 0) = true from rfl, show lfN 0 = -1 by decide] at c
  obtain ⟨_, _, _, _, _, c6⟩ := h.cells
  have C := Lib.hid c
  clear c h
  go_enter Tryz.func6, Tryz.ntmps6
  go_wp2_with (go_at_call 24; refine C.out.mono ?_; rintro e w1 ⟨rfl, hL, hk⟩)
  go_ret
  exact ⟨rfl, hL, hk⟩
theorem lgsync_no (h : Lg w base P p q g m R s b sf mn lf true) :
    Calls Tryz.prog 6 #[.pointer (some ⟨P, 0, none⟩)] w fun e w' => e = .returned (errV 6) ∧ w = w' := by
  obtain ⟨_, _, _, _, _, c6⟩ := h.cells
  clear h
  go_enter Tryz.func6, Tryz.ntmps6
  go_wp2_with fail
  go_ret
  exact ⟨rfl, rfl⟩
/-- when it has stopped nothing is done -/
theorem lgdo_stopped (h : Lg w base P p q g m R s b sf mn lf true) (a : Ak) (A : Option Addr) (c : Nat) :
    Calls Tryz.prog 5 #[.pointer (some ⟨P, 0, none⟩), akv a A c] w fun e w' => e = .returned (.tuple #[.string ⟨#[]⟩, errV 6]) ∧ Below w.heap.size w w' := by
  obtain ⟨W1, hW1⟩ : ∃ W1, W1 = w.alloc (.cells #[.int .i64 a.w, .int .i64 a.q, .int .i64 a.d, .slice A a.t.length c] 38) := ⟨_, rfl⟩
  have hb01 : Below w.heap.size w W1 := by rw [hW1]; exact bal1 _ _
  obtain ⟨_, _, _, _, _, p6⟩ := (h.keep hb01).cells
  have HB := Lib.hid hb01; have HW := Lib.hid hW1
  clear hb01 hW1 h
  obtain ⟨x, q', d, t⟩ := a
  simp only [akv] at *
  go_enter Tryz.func5, Tryz.ntmps5
  go_upto_region 1 with fail
  rw [← HW.out]
  go_wp2_with fail
  go_ret2
  exact ⟨rfl, HB.out⟩
end
end Go.Proofs.YtfelefkmbbfdjaaGreatDoor
