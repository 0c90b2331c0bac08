/- Package lease: Put. -/
import Derived.Test.YthpemlhlgjdnkaaDoorLeOps
namespace Go.Proofs.YthpemlhlgjdnkaaDoor
open Go.ChangeShapes Go.WideShapes Go.ChangeAt Go.RowKit
set_option linter.unusedVariables false

def lpE (T last : Int) (L : List On) (u : Int) (t : List Va) : Int := if tuE t ≠ 0 then tuE t else if ahB T u = false then 1 else if L.length = 20 ∨ last = 10000 then 4 else 0
theorem news_at3 (w : World) (a b d : Value) (t : TypeId) : ∀ j u, [a, b, d][j]? = some u → (w.alloc (.cells #[a, b, d] t)).cell? ⟨w.heap.size, j, none⟩ = some u := fun j u hj => by
  have := (AtB.new w #[a, b, d] t).cell (i := j) (v := u) (by simpa using hj)
  exact this
theorem les_put {base p : Nat} {g : Option Nat} {T last u : Int} {L : List On} {t : List Va} {w w3 w4 w5 : World} {A A2 : Option Addr} {c c2 g5 o5 c5 b2 : Nat} {X : List Ox} (HQ : Les w base p g T last L) (H1 : AtB w p #[.int .i64 T, .int .i64 last, .slice A L.length c] 113) (H2 : (Value.slice A L.length c).ownBlock = g) (H3 : X.map (·.1) = L) (H4 : Win w base 115 3 (.slice A L.length c) L.length (oxCells X)) (H5 : ∀ x ∈ X, Oxin w base x)
    (HC3 : Chs (fun b => b = p) w w3) (HP3 : AtB w3 p #[.int .i64 T, .int .i64 (last + 1), .slice A L.length c] 113) (HPG : ¬ (Value.slice A L.length c).ownBlock = some p) (hb4 : Below w3.heap.size w3 w4) (HO2 : OVals w4 b2 A2 c2 t)
    (o : Obj) (HG5 : (w4.alloc o).grownBy w5 (Value.slice A L.length c).ownBlock) (HCG : Chs (fun b => (Value.slice A L.length c).ownBlock = some b) w3 w5) (HP5 : AtB w5 p #[.int .i64 T, .int .i64 (last + 1), .slice A L.length c] 113) (HW5 : Win w5 base 115 3 (.slice (some ⟨g5, o5, none⟩) (L.length + 1) c5) (L.length + 1) (oxCells X ++ [.int .i64 (last + 1), .int .i64 u, .slice A2 t.length c2]))
    (HX5 : (Value.slice A L.length c).ownBlock = some g5 ∨ (w4.alloc o).heap.size ≤ g5) (HOK : okL t) (HT : 0 < t.length ∧ t.length ≤ 5) (HL : L.length < 20) (l1 : last + 1 ≤ 10000) :
    Les (w5.setCell ⟨p, 2, none⟩ (.slice (some ⟨g5, o5, none⟩) (L.length + 1) c5)) base p (some g5) T (last + 1) (L ++ [⟨last + 1, u, t⟩]) ∧ Chs (LM p g) w (w5.setCell ⟨p, 2, none⟩ (.slice (some ⟨g5, o5, none⟩) (L.length + 1) c5)) ∧ Nw g (some g5) w.heap.size := by
  obtain ⟨w6, hw6⟩ : ∃ w6, w6 = w5.setCell ⟨p, 2, none⟩ (.slice (some ⟨g5, o5, none⟩) (L.length + 1) c5) := ⟨_, rfl⟩
  rw [← hw6]
  have P6 : AtB w6 p #[.int .i64 T, .int .i64 (last + 1), .slice (some ⟨g5, o5, none⟩) (L.length + 1) c5] 113 := by rw [hw6]; exact HP5.set 2 _
  have c6 : Chs (fun b => b = p) w5 w6 := by rw [hw6]; exact Chs.set w5 ⟨p, 2, none⟩ _
  have hlen : (L ++ [(⟨last + 1, u, t⟩ : On)]).length = L.length + 1 := by simp
  have hgp : ¬ g5 = p := fun e => kin_ne (HW5.block (g := g5) rfl).2 HP5.kin (by decide) e
  have hb3 : base ≤ w3.heap.size := Nat.le_trans HQ.hb HC3.size
  have hb5 : base ≤ w5.heap.size := Nat.le_trans hb3 HCG.size
  have hk := H1.kin
  have hgk : ∀ b, (Value.slice A L.length c).ownBlock = some b → base ≤ b ∧ kin w3 b 115 := fun b hb => by
    have h6 := HC3.block b (H4.block hb).2.lt (fun e => HPG (by rw [hb, e]))
    obtain ⟨k1, cur, k2⟩ := H4.block hb
    exact ⟨k1, cur, h6.trans k2⟩
  have c46 : Chs (LM p g) w w6 := ((HC3.mono (fun b h => .inl h)).trans HCG (fun b hb => .inl (.inr (H2.symm.trans hb)))).trans c6 (fun b hb => .inl (.inl hb))
  refine ⟨⟨⟨some ⟨g5, o5, none⟩, c5, X ++ [(⟨last + 1, u, t⟩, A2, c2)], by rw [hlen]; exact P6, rfl, by rw [List.map_append, H3]; rfl, ?_, fun x hx => ?_⟩, HQ.hp, Nat.le_trans hb5 c6.size, by rw [hlen]; omega, HQ.t0, by have := HQ.l0; omega⟩, c46, ?_⟩
  · rw [hlen, oxCells_append]
    exact HW5.stay (fun b hb => c6.block b (HW5.block hb).2.lt (fun e => hgp (by simpa [Value.ownBlock] using (hb.symm ▸ congrArg some e : (Value.slice (some ⟨g5, o5, none⟩) (L.length + 1) c5).ownBlock = some p))))
  · rcases List.mem_append.1 hx with h | h
    · have hx3 := (H5 x h).chs HQ.hb HC3 (fun b hb => by subst hb; exact ⟨HQ.hp, fun h => absurd (kin.ne h hk) (by decide)⟩)
      have hx5 := hx3.chs hb3 HCG (fun b hb => ⟨(hgk b hb).1, fun h => absurd (kin.ne h (hgk b hb).2) (by decide)⟩)
      exact hx5.chs hb5 c6 (fun b hb => by subst hb; exact ⟨HQ.hp, fun h => absurd (kin.ne h HP5.kin) (by decide)⟩)
    · rw [List.mem_singleton] at h
      subst h
      have hb4' : base ≤ w4.heap.size := Nat.le_trans hb3 hb4.size
      have hx4 : Oxin w4 base (⟨last + 1, u, t⟩, A2, c2) := ⟨HO2.vals, HO2.cap.1, HO2.cap.2, Inn.own HO2, HOK, HT.1, HT.2⟩
      have hc45 : Chs (fun b => (Value.slice A L.length c).ownBlock = some b) w4 w5 := (Chs.of_below (fun b => (Value.slice A L.length c).ownBlock = some b) (bal1 w4 o)).trans (Chs.grown HG5) (fun b hb => .inl hb)
      have hx5 := hx4.chs hb4' hc45 (fun b hb => ⟨(hgk b hb).1, fun h => by
        obtain ⟨_, hk3⟩ := hgk b hb
        obtain ⟨cur, hc⟩ := hk3
        exact absurd (kin.ne h ⟨cur, (hb4.block b (Array.getElem?_eq_some_iff.1 hc).1).trans hc⟩) (by decide)⟩)
      exact hx5.chs hb5 c6 (fun b hb => by subst hb; exact ⟨HQ.hp, fun h => absurd (kin.ne h HP5.kin) (by decide)⟩)
  · rcases HX5 with h | h
    · exact .inl (h.symm.trans H2)
    · refine .inr ⟨g5, rfl, ?_⟩
      have := HC3.size
      have := hb4.size
      simp at h
      omega
set_option maxHeartbeats 1600000 in
set_option maxRecDepth 100000 in
theorem lput_any (base p : Nat) (g : Option Nat) (T last u : Int) (L : List On) (A' : Option Addr) (c' : Nat) (t : List Va) (hm : t.length ≤ maxLen) (hok : okL t) (hu : I64 u) (w : World) (hQ : Les w base p g T last L) (hA : Vals w A' t) (hI : 0 < t.length → Inn w base 28 A') :
    Calls Tryd.prog 42 #[.pointer (some ⟨p, 0, none⟩), .slice A' t.length c', .int .i64 u] w fun e w' => e = .returned (.tuple #[.int .i64 (if lpE T last L u t = 0 then last + 1 else 0), eV (lpE T last L u t)]) ∧
      ∃ g', Les w' base p g' T (if lpE T last L u t = 0 then last + 1 else last) (if lpE T last L u t = 0 then L ++ [⟨last + 1, u, t⟩] else L) ∧ Chs (LM p g) w w' ∧ Nw g g' w.heap.size := by
  have c1 := tcheck_any A' c' t hm hok w hA
  obtain ⟨A, c, X, h1, h2, h3, h4, h5⟩ := hQ.there
  have hpl := h1.lt
  by_cases e0 : tuE t = 0
  · rw [e0, eV_zero] at c1
    have ca := fun W (hW : AtB W p #[.int .i64 T, .int .i64 last, .slice A L.length c] 113) => lahead_any p T u W (hW.cell (i := 0) rfl)
    have C1 := Lib.hid c1; clear c1
    have H1 := Lib.hid h1
    cases e1 : ahB T u with
    | false =>
      have hE : lpE T last L u t = 1 := by rw [lpE, if_neg (by rw [e0]; decide), if_pos e1]
      rw [hE, if_neg (by decide), if_neg (by decide), if_neg (by decide), show eV 1 = errV 1 from rfl]
      rw [e1] at ca
      have CA := Lib.hid ca; have HQ := Lib.hid hQ
      clear ca hQ hE e1 e0 h1 h2 h3 h4 h5 hA hok hm
      go_enter Tryd.func42, Tryd.ntmps42
      go_wp2_with (first | (go_at_call 45; refine C1.out.mono ?_; rintro e w1 ⟨rfl, hb1⟩) | (go_at_call 83; refine (CA.out _ (H1.out.below hb1 hpl)).mono ?_; rintro e w2 ⟨rfl, hb2⟩))
      go_ret2
      exact ⟨rfl, g, HQ.out.keep (bcl hb1 hb2), Chs.of_below _ (bcl hb1 hb2), Nw.refl _ _⟩
    | true =>
      rw [e1] at ca
      have CA := Lib.hid ca
      by_cases e2 : L.length = 20
      · have hE : lpE T last L u t = 4 := by rw [lpE, if_neg (by rw [e0]; decide), e1, if_neg (by decide), if_pos (.inl e2)]
        rw [hE, if_neg (by decide), if_neg (by decide), if_neg (by decide), show eV 4 = errV 4 from rfl]
        have d1 : (((L.length : Nat) : Int) == 20) = true := by simp; omega
        have HQ := Lib.hid hQ
        clear ca hQ hE e1 e0 h1 h2 h3 h4 h5 hA hok hm e2
        go_enter Tryd.func42, Tryd.ntmps42
        go_wp2_with (first | (go_at_call 45; refine C1.out.mono ?_; rintro e w1 ⟨rfl, hb1⟩) | (go_at_call 83; refine (CA.out _ (H1.out.below hb1 hpl)).mono ?_; rintro e w2 ⟨rfl, hb2⟩; have P2 := H1.out.below (bcl hb1 hb2) hpl; have p1 := P2.cell (i := 1) rfl; have p2 := P2.cell (i := 2) rfl))
        go_ret2
        exact ⟨rfl, g, HQ.out.keep (bcl hb1 hb2), Chs.of_below _ (bcl hb1 hb2), Nw.refl _ _⟩
      · have d1 : (((L.length : Nat) : Int) == 20) = false := by simp; omega
        by_cases e3 : last = 10000
        · have hE : lpE T last L u t = 4 := by rw [lpE, if_neg (by rw [e0]; decide), e1, if_neg (by decide), if_pos (.inr e3)]
          rw [hE, if_neg (by decide), if_neg (by decide), if_neg (by decide), show eV 4 = errV 4 from rfl]
          have d2 : (last == 10000) = true := by simp [e3]
          have HQ := Lib.hid hQ
          clear ca hQ hE e1 e0 h1 h2 h3 h4 h5 hA hok hm e2 e3
          go_enter Tryd.func42, Tryd.ntmps42
          go_wp2_with (first | (go_at_call 45; refine C1.out.mono ?_; rintro e w1 ⟨rfl, hb1⟩) | (go_at_call 83; refine (CA.out _ (H1.out.below hb1 hpl)).mono ?_; rintro e w2 ⟨rfl, hb2⟩; have P2 := H1.out.below (bcl hb1 hb2) hpl; have p1 := P2.cell (i := 1) rfl; have p2 := P2.cell (i := 2) rfl))
          go_ret2
          exact ⟨rfl, g, HQ.out.keep (bcl hb1 hb2), Chs.of_below _ (bcl hb1 hb2), Nw.refl _ _⟩
        · have d2 : (last == 10000) = false := by simp [e3]
          have hE : lpE T last L u t = 0 := by rw [lpE, if_neg (by rw [e0]; decide), e1, if_neg (by decide), if_neg (by rintro (h | h) <;> omega)]
          rw [hE, if_pos rfl, if_pos rfl, if_pos rfl, eV_zero]
          obtain ⟨t0, t5⟩ := tu_len e0
          have hl20 : L.length < 20 := by have := hQ.len; omega
          have hl2 : L.length ≤ 1000000 := by omega
          obtain ⟨l0, l1⟩ := hQ.l0
          have hlr : last + 1 ≤ 10000 := by omega
          have ct := fun (W : World) (hW : Vals W A' t) => clone_any A' c' t t0 (by omega) W hW
          have HQ := Lib.hid hQ; have H2 := Lib.hid h2; have H3 := Lib.hid h3; have H4 := Lib.hid h4; have H5 := Lib.hid h5; have CT := Lib.hid ct; have HA := Lib.hid hA; have HOK := Lib.hid hok; have HT := Lib.hid (And.intro t0 t5); have HL := Lib.hid hl20; have HI := Lib.hid hI
          clear hI ca hQ hE e1 e0 h1 h2 h3 h4 h5 hA hok hm e2 e3 ct t0 t5 hl20
          go_enter Tryd.func42, Tryd.ntmps42
          go_wp2_with (first | (go_at_call 45; refine C1.out.mono ?_; rintro e w1 ⟨rfl, hb1⟩) | (go_at_call 83; refine (CA.out _ (H1.out.below hb1 hpl)).mono ?_; rintro e w2 ⟨rfl, hb2⟩; have P2 := H1.out.below (bcl hb1 hb2) hpl; have p1 := P2.cell (i := 1) rfl; have p2 := P2.cell (i := 2) rfl; have f1 := P2.frozen 1))
          obtain ⟨w3, hw3⟩ : ∃ w3, w3 = w2.setCell ⟨p, 1, none⟩ (.int .i64 (last + 1)) := ⟨_, rfl⟩
          rw [← hw3]
          have hb12 := bcl hb1 hb2
          have P3 : AtB w3 p #[.int .i64 T, .int .i64 (last + 1), .slice A L.length c] 113 := by rw [hw3]; exact P2.set 1 _
          have c3 : Chs (fun b => b = p) w w3 := by rw [hw3]; exact (Chs.of_below (fun b => b = p) hb12).trans (Chs.set _ ⟨p, 1, none⟩ _) (fun b h => .inl h)
          have hpk := H1.out.kin
          have hpg : ¬ (Value.slice A L.length c).ownBlock = some p := fun e => kin_ne (H4.out.block e).2 hpk (by decide) rfl
          have W3 := H4.out.stay (w' := w3) (fun b hb => c3.block b (H4.out.block hb).2.lt (fun e => hpg (by rw [hb, e])))
          have hbs3 : base ≤ w3.heap.size := Nat.le_trans HQ.out.hb c3.size
          obtain ⟨hA3, hI3⟩ := Vin.chs HA.out (HI.out HT.out.1) HQ.out.hb c3 (fun b hb => by subst hb; exact ⟨HQ.out.hp, fun h => absurd (kin.ne h hpk) (by decide)⟩)
          have p1 := P3.cell (i := 1) rfl
          have p2 := P3.cell (i := 2) rfl
          have hp3 := P3.lt
          have HP3 := Lib.hid P3; have HC3 := Lib.hid c3; have HPG := Lib.hid hpg; have HBS3 := Lib.hid hbs3; have HW3 := Lib.hid W3
          clear hw3 P3 c3 hpg W3 hbs3 P2 f1 hb12 hb1 hb2
          go_region_law (first
            | (refine step_append_win rfl _ _ 111 rfl base 115 _ 3 40 Tryd.underlying111 infoOne rfl (by decide) (.slice A L.length c) L.length (oxCells X) rfl (HW3.out.keep (bal hb4 _)) w4.heap.size [.int .i64 (last + 1), .int .i64 u, .slice A2 t.length c2] rfl rfl (news_at3 _ _ _ _ _) (by simp [Value.oneCell']) hl2 (by decide) (le_al (Nat.le_trans HBS3.out hb4.size) _) ?_; intro g5 o5 c5 w5 hW5 hg5 hx5; have hcg : Chs (fun b => (Value.slice A L.length c).ownBlock = some b) w3 w5 := (Chs.of_below _ (bal hb4 _)).trans (Chs.grown hg5) (fun b hb => .inl hb); have P5 := HP3.out.chs hcg HPG.out; have HG5 := Lib.hid hg5; have HCG := Lib.hid hcg; have p1 := P5.cell (i := 1) rfl; have p2 := P5.cell (i := 2) rfl; have f5 := P5.frozen 2; have hl5 := P5.lt; have HP5 := Lib.hid P5; have HW5 := Lib.hid hW5; have HX5 := Lib.hid hx5; clear P5 hW5 hg5 hx5 hcg)
            | (go_simp; go_at_call 72; refine (CT.out _ hA3.drew).mono ?_; rintro e w4 ⟨A2, c2, rfl, ho2, hb2⟩; have hb4 : Below w3.heap.size w3 w4 := bcl (bdr (Below.refl _ _)) hb2; have p1 := (HP3.out.below hb4 hp3).cell (i := 1) rfl; have p2 := (HP3.out.below hb4 hp3).cell (i := 2) rfl; have hp4 := (HP3.out.below hb4 hp3).lt; have HO2 := Lib.hid ho2; clear ho2; try dsimp only))
          all_goals
            go_wp2_with fail
            go_ret2
            obtain ⟨r1, r2, r3⟩ := les_put (u := u) HQ.out H1.out H2.out H3.out H4.out H5.out HC3.out HP3.out HPG.out hb4 HO2.out _ HG5.out HCG.out HP5.out HW5.out HX5.out HOK.out HT.out HL.out hlr
            exact ⟨rfl, some g5, r1, r2, r3⟩
  · have hE : lpE T last L u t = tuE t := by rw [lpE, if_pos e0]
    rw [hE, if_neg e0, if_neg e0, if_neg e0, eV_of e0]
    rw [eV_of e0] at c1
    generalize tuE t = E at *
    have C1 := Lib.hid c1; have HQ := Lib.hid hQ
    clear c1 hQ hE e0 h1 h2 h3 h4 h5 hA hok hm
    go_enter Tryd.func42, Tryd.ntmps42
    go_wp2_with (go_at_call 45; refine C1.out.mono ?_; rintro e w1 ⟨rfl, hb1⟩)
    go_ret2
    exact ⟨rfl, g, HQ.out.keep hb1, Chs.of_below _ hb1, Nw.refl _ _⟩
end Go.Proofs.YthpemlhlgjdnkaaDoor
