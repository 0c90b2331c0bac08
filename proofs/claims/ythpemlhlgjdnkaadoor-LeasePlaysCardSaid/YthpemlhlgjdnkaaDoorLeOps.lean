/- Package lease: New, Now, Put, Renew, Read, Count. -/
import Derived.Test.YthpemlhlgjdnkaaDoorLeDel
namespace Go.Proofs.YthpemlhlgjdnkaaDoor
open Go.ChangeShapes Go.WideShapes Go.ChangeAt Go.RowKit
set_option linter.unusedVariables false

/-- leases at p: it is T, the last one is last, those that are there L, in a block g -/
structure Les (w : World) (base p : Nat) (g : Option Nat) (T last : Int) (L : List On) : Prop where
  there : ∃ A c X, AtB w p #[.int .i64 T, .int .i64 last, .slice A L.length c] 113 ∧ (Value.slice A L.length c).ownBlock = g ∧ X.map (·.1) = L ∧ Win w base 115 3 (.slice A L.length c) L.length (oxCells X) ∧ ∀ x ∈ X, Oxin w base x
  hp : base ≤ p
  hb : base ≤ w.heap.size
  len : L.length ≤ 20
  t0 : 0 ≤ T ∧ T ≤ 10000
  l0 : 0 ≤ last ∧ last ≤ 10000
def LM (p : Nat) (g : Option Nat) (b : Nat) : Prop := b = p ∨ g = some b
section
variable {w w' : World} {base p : Nat} {g : Option Nat} {T last : Int} {L : List On}
theorem Les.gkin (h : Les w base p g T last L) {b : Nat} (hg : g = some b) : base ≤ b ∧ kin w b 115 := by
  obtain ⟨A, c, X, _, h2, _, h4, _⟩ := h.there; exact h4.block (h2.trans hg)
theorem Les.pkin (h : Les w base p g T last L) : kin w p 113 := by obtain ⟨A, c, X, h1, _⟩ := h.there; exact h1.kin
theorem Les.own (h : Les w base p g T last L) : ∀ b, LM p g b → base ≤ b := fun b hb => by
  rcases hb with rfl | hb
  · exact h.hp
  · exact (h.gkin hb).1
/-- leases stay where none of their blocks is changed -/
theorem Les.stay (h : Les w base p g T last L) (hz : w.heap.size ≤ w'.heap.size) (hs : ∀ b, b < w.heap.size → (b < base ∨ kin w b 28 ∨ LM p g b) → w'.heap[b]? = w.heap[b]?) : Les w' base p g T last L := by
  obtain ⟨A, c, X, h1, h2, h3, h4, h5⟩ := h.there
  refine ⟨⟨A, c, X, h1.stay (hs p h1.lt (.inr (.inr (.inl rfl)))), h2, h3, h4.stay fun b hb => hs b (h4.block hb).2.lt (.inr (.inr (.inr (h2.symm.trans hb)))), fun x hx => ?_⟩, h.hp, Nat.le_trans h.hb hz, h.len, h.t0, h.l0⟩
  obtain ⟨k1, k2, k3, k4, k5⟩ := h5 x hx
  have hst : ∀ a, x.2.1 = some a → w'.heap[a.block]? = w.heap[a.block]? := fun a ha => hs _ (k4.lt h.hb ha) (by
    rcases k4 a ha with h | h
    · exact .inl h
    · exact .inr (.inl h))
  exact ⟨vals_stay _ _ _ _ hz hst k1, k2, k3, k4.stay hst, k5⟩
theorem Les.keep (h : Les w base p g T last L) (hb : Below w.heap.size w w') : Les w' base p g T last L := h.stay hb.size fun b h1 _ => hb.block b h1
theorem Les.far {M : Nat → Prop} (h : Les w base p g T last L) (k : Chs M w w') (hM : ∀ b, M b → base ≤ b ∧ ¬ kin w b 28 ∧ ¬ LM p g b) : Les w' base p g T last L :=
  h.stay k.size fun b h1 h2 => k.block b h1 fun h3 => by
    obtain ⟨q1, q2, q3⟩ := hM b h3
    rcases h2 with h2 | h2 | h2
    · omega
    · exact q2 h2
    · exact q3 h2
/-- what ones have stays where blocks of other kinds are changed -/
theorem Oxin.chs {M : Nat → Prop} {x : Ox} (h : Oxin w base x) (hb : base ≤ w.heap.size) (k : Chs M w w') (hM : ∀ b, M b → base ≤ b ∧ ¬ kin w b 28) : Oxin w' base x := by
  obtain ⟨k1, k2, k3, k4, k5⟩ := h
  obtain ⟨j1, j2⟩ := Vin.chs k1 k4 hb k hM
  exact ⟨j1, k2, k3, j2, k5⟩
end
theorem lnew_any (w : World) {base : Nat} (hb : base ≤ w.heap.size) :
    Calls Tryd.prog 41 #[] w fun e w' => ∃ p, e = .returned (.pointer (some ⟨p, 0, none⟩)) ∧ Les w' base p none 0 0 [] ∧ Below w.heap.size w w' ∧ w.heap.size ≤ p := by
  go_enter Tryd.func41, Tryd.ntmps41
  go_wp2
  go_ret
  exact ⟨_, rfl, ⟨⟨none, 0, [], AtB.new _ _ _, rfl, rfl, Win.nil, fun x hx => by simp at hx⟩, hb, le_al hb _, by simp, by omega, by omega⟩, bal1 _ _, Nat.le_refl _⟩
theorem lcount_any (base p : Nat) (g : Option Nat) (T last : Int) (L : List On) (w : World) (hQ : Les w base p g T last L) :
    Calls Tryd.prog 44 #[.pointer (some ⟨p, 0, none⟩)] w fun e w' => e = .returned (.int .i64 L.length) ∧ w = w' := by
  obtain ⟨A, c, X, h1, h2, h3, h4, h5⟩ := hQ.there
  have k0 := h1.cell (i := 2) rfl
  clear h1 h2 h3 h4 h5 hQ
  go_enter Tryd.func44, Tryd.ntmps44
  go_wp2
  go_ret
  exact ⟨rfl, rfl⟩
/-- a time that is to come -/
def ahB (T u : Int) : Bool := decide (T < u) && decide (u ≤ 10000)
theorem lahead_any (p : Nat) (T u : Int) (w : World) (c0 : w.cell? ⟨p, 0, none⟩ = some (.int .i64 T)) :
    Calls Tryd.prog 83 #[.pointer (some ⟨p, 0, none⟩), .int .i64 u] w fun e w' => e = .returned (.bool (ahB T u)) ∧ Below w.heap.size w w' := by
  unfold ahB
  have hlt := lt_of_cell c0
  cases h1 : decide (T < u) with
  | false =>
    rw [Bool.false_and]
    go_enter Tryd.func83, Tryd.ntmps83
    go_wp2_with fail
    first | (go_quiet (fail); go_wp2_with fail) | skip
    go_ret
    exact ⟨rfl, (by repeat (first | exact Below.refl _ _ | assumption | refine bal ?_ _ | refine bdn ?_ _ | refine bdr ?_ | refine bcl ?_ (by assumption)))⟩
  | true =>
    rw [Bool.true_and]
    cases h2 : decide (u ≤ 10000) with
    | false =>
      go_enter Tryd.func83, Tryd.ntmps83
      go_wp2_with fail
      first | (go_quiet (fail); go_wp2_with fail) | skip
      go_ret
      exact ⟨rfl, (by repeat (first | exact Below.refl _ _ | assumption | refine bal ?_ _ | refine bdn ?_ _ | refine bdr ?_ | refine bcl ?_ (by assumption)))⟩
    | true =>
      go_enter Tryd.func83, Tryd.ntmps83
      go_wp2_with fail
      first | (go_quiet (fail); go_wp2_with fail) | skip
      go_ret
      exact ⟨rfl, (by repeat (first | exact Below.refl _ _ | assumption | refine bal ?_ _ | refine bdn ?_ _ | refine bdr ?_ | refine bcl ?_ (by assumption)))⟩
/-! ### Now -/
def nowE (T u : Int) : Int := if u < T ∨ 10000 < u then 1 else 0
theorem filter_map_on (p : On → Bool) (X : List Ox) : (X.filter fun x => p x.1).map (·.1) = (X.map (·.1)).filter p := by
  induction X with
  | nil => rfl
  | cons x X ih => simp only [List.filter_cons, List.map_cons]; split <;> simp [ih]
set_option maxHeartbeats 1600000 in
set_option maxRecDepth 100000 in
theorem lnow_any (base p : Nat) (g : Option Nat) (T last u : Int) (L : List On) (w : World) (hQ : Les w base p g T last L) :
    Calls Tryd.prog 43 #[.pointer (some ⟨p, 0, none⟩), .int .i64 u] w fun e w' => e = .returned (.tuple #[.int .i64 (if nowE T u = 0 then ((L.length : Int) - (L.filter fun x => !decide (x.un ≤ u)).length) else 0), eV (nowE T u)]) ∧
      Les w' base p g (if nowE T u = 0 then u else T) last (if nowE T u = 0 then L.filter fun x => !decide (x.un ≤ u) else L) ∧ Chs (LM p g) w w' := by
  obtain ⟨A, c, X, h1, h2, h3, h4, h5⟩ := hQ.there
  have hpl := h1.lt
  obtain ⟨wb, hwb⟩ : ∃ wb, wb = w.alloc (.cells #[.int .i64 u] 3) := ⟨_, rfl⟩
  have hb0 : Below w.heap.size w wb := by rw [hwb]; exact bal1 _ _
  have hB : AtB wb w.heap.size #[.int .i64 u] 3 := by rw [hwb]; exact AtB.new _ _ _
  have hP : AtB wb p #[.int .i64 T, .int .i64 last, .slice A L.length c] 113 := h1.below hb0 hpl
  have k0 := hB.cell (i := 0) rfl
  have p0 := hP.cell (i := 0) rfl
  have p2 := hP.cell (i := 2) rfl
  by_cases e1 : u < T
  · have hE : nowE T u = 1 := by rw [nowE, if_pos (.inl e1)]
    rw [hE, if_neg (by decide), if_neg (by decide), if_neg (by decide), show eV 1 = errV 1 from rfl]
    have d1 : decide (u < T) = true := decide_eq_true e1
    have HQ := Lib.hid (hQ.keep hb0); have HB0 := Lib.hid hb0
    clear h1 h2 h3 h4 h5 hQ hE e1 hb0
    go_enter Tryd.func43, Tryd.ntmps43
    go_wp2_with fail
    rw [← hwb]
    clear hwb
    go_quiet (fail)
    go_wp2_with fail
    go_ret2
    exact ⟨rfl, HQ.out.keep (bdn (Below.refl _ _) _), Chs.of_below _ (bdn HB0.out _)⟩
  · by_cases e2 : 10000 < u
    · have hE : nowE T u = 1 := by rw [nowE, if_pos (.inr e2)]
      rw [hE, if_neg (by decide), if_neg (by decide), if_neg (by decide), show eV 1 = errV 1 from rfl]
      have d1 : decide (u < T) = false := decide_eq_false e1
      have d2 : decide (10000 < u) = true := decide_eq_true e2
      have HQ := Lib.hid (hQ.keep hb0); have HB0 := Lib.hid hb0
      clear h1 h2 h3 h4 h5 hQ hE e1 e2 hb0
      go_enter Tryd.func43, Tryd.ntmps43
      go_wp2_with fail
      rw [← hwb]
      clear hwb
      go_quiet (fail)
      go_wp2_with fail
      go_ret2
      exact ⟨rfl, HQ.out.keep (bdn (Below.refl _ _) _), Chs.of_below _ (bdn HB0.out _)⟩
    · have hE : nowE T u = 0 := by rw [nowE, if_neg (by omega)]
      rw [hE, if_pos rfl, if_pos rfl, if_pos rfl, eV_zero]
      have d1 : decide (u < T) = false := decide_eq_false e1
      have d2 : decide (10000 < u) = false := decide_eq_false e2
      have HQ := Lib.hid hQ; have HB0 := Lib.hid hb0
      have hfz := hP.frozen 0
      have hLl := hQ.len
      have hXl : L.length = X.length := by rw [← h3, List.length_map]
      have H1 := Lib.hid h1; have H2 := Lib.hid h2; have H3 := Lib.hid h3; have H4 := Lib.hid h4; have H5 := Lib.hid h5; have HP := Lib.hid hP; have HBX := Lib.hid hB; have HX := Lib.hid hXl
      clear h1 h2 h3 h4 h5 hQ hE e1 e2 hb0 hB hP hXl
      go_enter Tryd.func43, Tryd.ntmps43
      go_wp2_with fail
      rw [← hwb]
      clear hwb
      go_quiet (fail)
      go_wp2_with fail
      obtain ⟨w3, hw3⟩ : ∃ w3, w3 = (wb.drewN nq).setCell ⟨p, 0, none⟩ (.int .i64 u) := ⟨_, rfl⟩
      rw [← hw3]
      have hpb : p ≠ w.heap.size := by omega
      have P3 : AtB w3 p #[.int .i64 u, .int .i64 last, .slice A L.length c] 113 := by rw [hw3]; exact (HP.out.stay (w' := wb.drewN nq) rfl).set 0 _
      have B3 : AtB w3 w.heap.size #[.int .i64 u] 3 := by rw [hw3]; exact (HBX.out.stay (w' := wb.drewN nq) rfl).far (p := ⟨p, 0, none⟩) (Ne.symm hpb) _
      have c3 : Chs (fun b => b = p) w w3 := by rw [hw3]; exact (Chs.of_below (fun b => b = p) (bdn HB0.out nq)).trans (Chs.set _ ⟨p, 0, none⟩ _) (fun b h => .inl h)
      have hpg : ¬ (Value.slice A L.length c).ownBlock = some p := fun e => kin_ne (H4.out.block e).2 H1.out.kin (by decide) rfl
      have hbg : ¬ (Value.slice A L.length c).ownBlock = some w.heap.size := fun e => absurd (H4.out.block e).2.lt (by omega)
      have W3 := H4.out.stay (w' := w3) (fun b hb => c3.block b (H4.out.block hb).2.lt (fun e => hpg (by rw [hb, e])))
      have hbs3 : base ≤ w3.heap.size := Nat.le_trans HQ.out.hb c3.size
      rw [HX.out] at W3 hpg hbg
      have HDEL := Lib.hid (ldel_any base A c X (by have := HX.out; omega) 85 (.pointer (some ⟨w.heap.size, 0, none⟩)) (fun x => decide (x.1.un ≤ u)) w3 hbs3 W3 (fun W hW x hx => lnowc_any _ u _ _ ⟨w.heap.size, 0, none⟩ W ((B3.chs hW hbg).cell (i := 0) rfl)) (enters_of Tryd.func85 (by kernel_rfl) rfl))
      have HP3 := Lib.hid P3; have HC3 := Lib.hid c3; have HPG := Lib.hid hpg; have HBS3 := Lib.hid hbs3
      clear hw3 P3 B3 c3 hpg hbg W3 hbs3 k0 p0 p2 hfz
      have hfm : (X.filter fun x => !decide (x.1.un ≤ u)).length = (L.filter fun x => !decide (x.un ≤ u)).length := by rw [← H3.out, ← filter_map_on (fun x => !decide (x.un ≤ u)), List.length_map]
      have HFM := Lib.hid hfm
      clear hfm
      rw [HX.out]
      refine HDEL.out.mono ?_
      rintro e w4 ⟨rfl, W4, c4⟩
      rw [HFM.out] at W4
      rw [HFM.out]
      have hle : (L.filter fun x => !decide (x.un ≤ u)).length ≤ 20 := Nat.le_trans (List.length_filter_le _ _) hLl
      have HM := Lib.hid ((filter_map_on (fun x => !decide (x.un ≤ u)) X).trans (by rw [H3.out]))
      generalize hL' : (L.filter fun x => !decide (x.un ≤ u)) = L' at *
      have P4 := HP3.out.chs c4 HPG.out
      have p2 := P4.cell (i := 2) rfl
      have f2 := P4.frozen 2
      have hpl4 := P4.lt
      have HW4 := Lib.hid W4; have HC4 := Lib.hid c4; have HP4 := Lib.hid P4; have HLL := Lib.hid hL'
      clear W4 c4 P4 HDEL hL'
      have hXl := HX.out
      go_wp2_with fail
      go_ret2
      rw [HLL.out]
      have hog : ∀ n m : Nat, (Value.slice A n c).ownBlock = (Value.slice A m c).ownBlock := fun n m => by cases A <;> rfl
      have P5 := HP4.out.set 2 (.slice A L'.length c)
      have c5 : Chs (fun b => b = p) w4 (w4.setCell ⟨p, 2, none⟩ (.slice A L'.length c)) := Chs.set w4 ⟨p, 2, none⟩ _
      have hpk : p ≠ p ∨ ¬ (Value.slice A L'.length c).ownBlock = some p := .inr (by rw [hog _ X.length]; exact HPG.out)
      have hgk : ∀ b, (Value.slice A X.length c).ownBlock = some b → base ≤ b ∧ kin w3 b 115 := fun b hb => by
        have h6 := (HC3.out.block b (H4.out.block (g := b) (by rw [hog _ X.length]; exact hb)).2.lt (fun e => HPG.out (by rw [hb, e])))
        obtain ⟨k1, cur, k2⟩ := H4.out.block (g := b) (by rw [hog _ X.length]; exact hb)
        exact ⟨k1, cur, h6.trans k2⟩
      refine ⟨by rw [hXl]; rfl, ⟨⟨A, c, _, P5, (hog _ _).trans H2.out, HM.out, HW4.out.stay (fun b hb => c5.block b (HW4.out.block hb).2.lt (fun e => HPG.out (by rw [hog _ L'.length, hb, e]))), fun x hx => ?_⟩, HQ.out.hp, Nat.le_trans HBS3.out (Nat.le_trans HC4.out.size c5.size), hle, by have := HQ.out.t0; simp at d1 d2; omega, HQ.out.l0⟩, ?_⟩
      · have hx0 := H5.out x (List.mem_filter.1 hx).1
        have hk := HQ.out.pkin
        have hx3 := hx0.chs HQ.out.hb HC3.out (fun b hb => by subst hb; exact ⟨HQ.out.hp, fun h => absurd (kin.ne h hk) (by decide)⟩)
        have hx4 := hx3.chs HBS3.out HC4.out (fun b hb => ⟨(hgk b hb).1, fun h => absurd (kin.ne h (hgk b hb).2) (by decide)⟩)
        exact hx4.chs (Nat.le_trans HBS3.out HC4.out.size) c5 (fun b hb => by subst hb; exact ⟨HQ.out.hp, fun h => absurd (kin.ne h HP4.out.kin) (by decide)⟩)
      · refine ((HC3.out.mono (fun b h => .inl h)).trans HC4.out (fun b hb => .inl (.inr (by rw [← H2.out, hog _ X.length]; exact hb)))).trans c5 (fun b hb => .inl (.inl hb))
end Go.Proofs.YthpemlhlgjdnkaaDoor
