/- Package lease: Renew, Read. -/
import Derived.Test.YthpemlhlgjdnkaaDoorLeOps
namespace Go.Proofs.YthpemlhlgjdnkaaDoor
open Go.ChangeShapes Go.WideShapes Go.ChangeAt Go.RowKit
set_option linter.unusedVariables false

theorem Win.setc {w : World} {base k n c : Nat} {e : TypeId} {xs : List Value} {A : Option Addr} {g off : Nat} (h : Win w base e k (.slice A n c) n xs) (hA : A = some ⟨g, off, none⟩) {j : Nat} (hj : j < xs.length) (u : Value) :
    Win (w.setCell ⟨g, off + j, none⟩ u) base e k (.slice A n c) n (xs.set j u) := by
  refine ⟨by rw [List.length_set]; exact h.1, ?_⟩
  rcases h.2 with ⟨h1, _⟩ | ⟨g', off', c', h1, h2, ⟨cur, h3⟩, h4, h5, h6, h7⟩
  · injection h1 with h1; rw [hA] at h1; cases h1
  · injection h1 with h1 _ hc
    rw [hA] at h1
    injection h1 with h1; injection h1 with e1 e2
    subst e1; subst e2; subst hc
    have hs := h7 j (by have := h.1; have := Nat.mul_le_mul_right k h4; omega)
    have hcell : ∀ i, (w.setCell ⟨g, off + j, none⟩ u).cell? ⟨g, off + i, none⟩ = if i = j then some u else w.cell? ⟨g, off + i, none⟩ := fun i => by
      have hB : AtB w g cur e := h3
      have h8 : (w.setCell ⟨g, off + j, none⟩ u).cell? ⟨g, off + i, none⟩ = (cur.setIfInBounds (off + j) u)[off + i]? := cell_of_row _ g (off + i) _ e (0, 0) (hB.set (off + j) u)
      have h9 : ∀ q, w.cell? ⟨g, q, none⟩ = cur[q]? := fun q => cell_of_row w g q cur e (0, 0) h3
      rw [h8, h9]
      rw [h9] at hs
      have hlt : off + j < cur.size := by
        rcases Nat.lt_or_ge (off + j) cur.size with h | h
        · exact h
        · rw [Array.getElem?_eq_none h] at hs; cases hs
      rw [Array.getElem?_setIfInBounds]
      by_cases hij : i = j
      · subst hij; rw [if_pos rfl, if_pos rfl, if_pos hlt]
      · rw [if_neg (by omega), if_neg hij]
    refine .inr ⟨g, off, c, by rw [hA], h2, ⟨_, (show AtB w g cur e from h3).set (off + j) u⟩, h4, h5, fun i v hi => ?_, fun i hi => ?_⟩
    · rw [hcell]
      rw [List.getElem?_set] at hi
      by_cases hij : j = i
      · subst hij; rw [if_pos rfl, if_pos hj] at hi; rw [if_pos rfl]; exact hi
      · rw [if_neg hij] at hi; rw [if_neg (Ne.symm hij)]; exact h6 i v hi
    · rw [hcell]
      split
      · rfl
      · exact h7 i hi
theorem oxCells_un : ∀ (X : List Ox) (i : Nat) (u : Int), i < X.length → oxCells (X.set i (⟨(oxg X i).1.id, u, (oxg X i).1.t⟩, (oxg X i).2)) = (oxCells X).set (i * 3 + 1) (.int .i64 u)
  | x :: X, 0, u, _ => by simp [oxCells, oxg, oxv]
  | x :: X, i + 1, u, h => by
    have := oxCells_un X i u (by simpa using h)
    have e1 : oxg (x :: X) (i + 1) = oxg X i := by simp [oxg]
    rw [e1, List.set_cons_succ]
    simp only [oxCells, List.flatMap_cons] at this ⊢
    rw [this, List.set_append_right _ _ (by simp [oxv]; omega)]
    congr 2
    simp [oxv]; omega
/-- the i-th that is there -/
def ong (L : List On) (i : Nat) : On := L.getD i ⟨0, 0, []⟩
theorem ong_at {L : List On} {i : Nat} (h : i < L.length) : L[i]? = some (ong L i) := by simp [ong, List.getD_eq_getElem?_getD, List.getElem?_eq_getElem h]
theorem ong_oxg {X : List Ox} {L : List On} (h : X.map (·.1) = L) (i : Nat) (hi : i < X.length) : (oxg X i).1 = ong L i := by
  subst h
  simp [oxg, ong, List.getD_eq_getElem?_getD, List.getElem?_eq_getElem hi]
/-- the place of the one with this number -/
def lat (L : List On) (id : Int) : Int := idx (fun i => decide ((ong L i).id = id)) L.length
def lrE (T : Int) (L : List On) (id u : Int) : Int := if lat L id < 0 then 5 else if ahB T u = false ∨ u < (ong L (lat L id).toNat).un then 1 else 0
def lrL (T : Int) (L : List On) (id u : Int) : List On := if lrE T L id u = 0 then L.set (lat L id).toNat ⟨(ong L (lat L id).toNat).id, u, (ong L (lat L id).toNat).t⟩ else L
set_option maxHeartbeats 1600000 in
set_option maxRecDepth 100000 in
theorem lrenew_any (base p : Nat) (g : Option Nat) (T last id u : Int) (L : List On) (w : World) (hQ : Les w base p g T last L) :
    Calls Tryd.prog 46 #[.pointer (some ⟨p, 0, none⟩), .int .i64 id, .int .i64 u] w fun e w' => e = .returned (eV (lrE T L id u)) ∧ Les w' base p g T last (lrL T L id u) ∧ Chs (LM p g) w w' := by
  obtain ⟨A, c, X, h1, h2, h3, h4, h5⟩ := hQ.there
  have hpl := h1.lt
  have hXl : L.length = X.length := by rw [← h3, List.length_map]
  have hll := hQ.len
  obtain ⟨wb, hwb⟩ : ∃ wb, wb = w.alloc (.cells #[.int .i64 id] 3) := ⟨_, rfl⟩
  have hb0 : Below w.heap.size w wb := by rw [hwb]; exact bal1 _ _
  have hB : AtB wb w.heap.size #[.int .i64 id] 3 := by rw [hwb]; exact AtB.new _ _ _
  have hP : AtB wb p #[.int .i64 T, .int .i64 last, .slice A L.length c] 113 := h1.below hb0 hpl
  have hW := h4.keep hb0
  rw [hXl] at hW
  have ci := fun W (hb : Below wb.heap.size wb W) => lidx_any A c X (by unfold maxLen; omega) 89 (.pointer (some ⟨w.heap.size, 0, none⟩)) (fun i => decide ((ong L i).id = id)) W ((hW.keep hb).oxs) (fun W2 hb2 i hi => by
    have hh := lrenewc_any id (oxg X i).1.un 0 (.slice (oxg X i).2.1 (oxg X i).1.t.length (oxg X i).2.2) ⟨w.heap.size, 0, none⟩ W2 ((hB.below (bcl hb hb2) hB.lt).cell (i := 0) rfl) (oxg X i).1.id
    simp only [ong_oxg h3 i hi] at hh ⊢
    exact hh) (enters_of Tryd.func89 (by kernel_rfl) rfl)
  have hlat : idx (fun i => decide ((ong L i).id = id)) X.length = lat L id := by rw [lat, hXl]
  have p2 := h1.cell (i := 2) rfl
  have HB0 := Lib.hid hb0; have HP := Lib.hid hP; have HQ := Lib.hid hQ
  have H1 := Lib.hid h1; have H2 := Lib.hid h2; have H3 := Lib.hid h3; have H4 := Lib.hid h4; have H5 := Lib.hid h5; have HX := Lib.hid hXl
  rw [hlat] at ci
  subst hwb
  have ca := fun W (hW : AtB W p #[.int .i64 T, .int .i64 last, .slice A L.length c] 113) => lahead_any p T u W (hW.cell (i := 0) rfl)
  rcases Int.lt_or_le (lat L id) 0 with hz | hz
  · have e1 : lat L id = -1 := by have := idx_neg.1 hz; exact idx_none (fst_none.2 this)
    have hE : lrE T L id u = 5 := by rw [lrE, if_pos hz]
    rw [lrL, hE, if_neg (by decide), show eV 5 = errV 5 from rfl]
    rw [e1] at ci
    have CI := Lib.hid ci
    clear ci ca hz e1 hE h1 h2 h3 h4 h5 hQ hb0 hP hW hlat hB hXl
    go_enter Tryd.func46, Tryd.ntmps46
    go_wp2_with (go_at_call 88; rw [HX.out]; refine (CI.out _ (Below.refl _ _)).mono ?_; rintro e w1 ⟨rfl, hb1⟩)
    go_ret
    exact ⟨rfl, HQ.out.keep (bcl HB0.out hb1), Chs.of_below _ (bcl HB0.out hb1)⟩
  · obtain ⟨k, hk⟩ : ∃ k : Nat, lat L id = (k : Int) := ⟨_, (Int.toNat_of_nonneg hz).symm⟩
    obtain ⟨k', hk', hkl, _⟩ := idx_at (p := fun i => decide ((ong L i).id = id)) (n := L.length) hz
    obtain rfl : k' = k := by have : lat L id = (k' : Int) := hk'; omega
    have hkn : (lat L id).toNat = k' := by omega
    have hneg : decide ((k' : Int) < 0) = false := by simp
    rw [hk] at ci
    have CI := Lib.hid ci
    have hkX : k' < X.length := by omega
    have hP1 := fun W (hb : Below (w.alloc (.cells #[.int .i64 id] 3)).heap.size (w.alloc (.cells #[.int .i64 id] 3)) W) => H1.out.below (bcl HB0.out hb) H1.out.lt
    cases e1 : ahB T u with
    | false =>
      have hE : lrE T L id u = 1 := by rw [lrE, if_neg (by omega), if_pos (.inl e1)]
      rw [lrL, hE, if_neg (by decide), show eV 1 = errV 1 from rfl]
      rw [e1] at ca
      have CA := Lib.hid ca
      clear ci ca hz e1 hE h1 h2 h3 h4 h5 hQ hb0 hP hW hlat hB hXl hk hk' hkn hneg
      go_enter Tryd.func46, Tryd.ntmps46
      go_wp2_with (first | (go_at_call 88; rw [HX.out]; refine (CI.out _ (Below.refl _ _)).mono ?_; rintro e w1 ⟨rfl, hb1⟩) | (go_at_call 83; refine (CA.out _ (hP1 _ hb1)).mono ?_; rintro e w2 ⟨rfl, hb2⟩))
      go_ret
      exact ⟨rfl, HQ.out.keep (bcl HB0.out (bcl hb1 hb2)), Chs.of_below _ (bcl HB0.out (bcl hb1 hb2))⟩
    | true =>
      rw [e1] at ca
      have CA := Lib.hid ca
      have hox := fun W (hb : Below w.heap.size w W) => (H4.out.keep hb).oxs k' _ (oxg_at hkX)
      have hun : (oxg X k').1.un = (ong L k').un := by rw [ong_oxg h3 k' hkX]
      rw [hun] at hox
      have hq2 : (k' : Int) < L.length := by omega
      have hq1 : (0 : Int) ≤ k' := by omega
      by_cases e2 : u < (ong L k').un
      · have hE : lrE T L id u = 1 := by rw [lrE, if_neg (by omega), hkn, if_pos (.inr e2)]
        rw [lrL, hE, if_neg (by decide), show eV 1 = errV 1 from rfl]
        have d2 : decide (u < (ong L k').un) = true := decide_eq_true e2
        generalize (ong L k').un = un at *
        clear ci ca hz e1 hE h1 h2 h3 h4 h5 hQ hb0 hP hW hlat hB hXl hk hk' hkn hneg hun e2
        go_enter Tryd.func46, Tryd.ntmps46
        go_wp2_with (first | (go_at_call 88; rw [HX.out]; refine (CI.out _ (Below.refl _ _)).mono ?_; rintro e w1 ⟨rfl, hb1⟩) | (go_at_call 83; refine (CA.out _ (hP1 _ hb1)).mono ?_; rintro e w2 ⟨rfl, hb2⟩; have hbw := bcl HB0.out (bcl hb1 hb2); have p2' := (H1.out.below hbw H1.out.lt).cell (i := 2) rfl; obtain ⟨b, off, rfl, hbl, c0, c1, c2⟩ := hox _ hbw))
        go_ret
        exact ⟨rfl, HQ.out.keep hbw, Chs.of_below _ hbw⟩
      · have hE : lrE T L id u = 0 := by rw [lrE, if_neg (by omega), hkn, e1, if_neg (by rintro (h | h); cases h; exact e2 h)]
        rw [lrL, hE, if_pos rfl, hkn, eV_zero]
        have d2 : decide (u < (ong L k').un) = false := decide_eq_false e2
        have hid : (oxg X k').1 = ong L k' := ong_oxg h3 k' hkX
        have HID := Lib.hid hid
        generalize hoL : ong L k' = oL at *
        obtain ⟨oi, ou, ot⟩ := oL
        simp only at *
        clear ci ca hz e1 hE h1 h2 h3 h4 h5 hQ hb0 hP hW hlat hB hXl hk hk' hkn hneg hun e2 hid
        have HOL := Lib.hid hoL
        clear hoL
        go_enter Tryd.func46, Tryd.ntmps46
        go_wp2_with (first | (go_at_call 88; rw [HX.out]; refine (CI.out _ (Below.refl _ _)).mono ?_; rintro e w1 ⟨rfl, hb1⟩) | (go_at_call 83; refine (CA.out _ (hP1 _ hb1)).mono ?_; rintro e w2 ⟨rfl, hb2⟩; have hbw := bcl HB0.out (bcl hb1 hb2); have p2' := (H1.out.below hbw H1.out.lt).cell (i := 2) rfl; obtain ⟨b, off, rfl, hbl, c0, c1, c2⟩ := hox _ hbw; have W2 := H4.out.keep hbw; have f1 : w2.frozen? ⟨b, off + k' * 3 + 1, none⟩ = false := by (obtain ⟨cur, hkk⟩ := (W2.block rfl).2; simp [World.frozen?, hkk])))
        go_ret
        obtain ⟨w3, hw3⟩ : ∃ w3, w3 = w2.setCell ⟨b, off + k' * 3 + 1, none⟩ (.int .i64 u) := ⟨_, rfl⟩
        rw [← hw3]
        have P2 := H1.out.below hbw H1.out.lt
        have hbk : kin w2 b 115 := (W2.block (g := b) rfl).2
        have hbb : base ≤ b := (W2.block (g := b) rfl).1
        have hpb : p ≠ b := fun e => kin_ne hbk P2.kin (by decide) e.symm
        have P3 : AtB w3 p #[.int .i64 T, .int .i64 last, .slice (some ⟨b, off, none⟩) L.length c] 113 := by rw [hw3]; exact P2.far (p := ⟨b, _, none⟩) hpb _
        have c3 : Chs (fun x => x = b) w2 w3 := by rw [hw3]; exact Chs.set w2 ⟨b, _, none⟩ _
        have hbs2 : base ≤ w2.heap.size := Nat.le_trans HQ.out.hb hbw.size
        have W3 := W2.setc (j := k' * 3 + 1) rfl (by rw [oxCells_length]; omega) (.int .i64 u)
        rw [← oxCells_un X k' u hkX, show off + (k' * 3 + 1) = off + k' * 3 + 1 from rfl, ← hw3] at W3
        have hk2 : Oxin w2 base (oxg X k') := by
          have hx := H5.out (oxg X k') (List.mem_of_getElem? (oxg_at hkX))
          exact hx.chs (M := fun _ => False) HQ.out.hb (Chs.of_below _ hbw) (fun b hb => hb.elim)
        have hstep : ∀ x, Oxin w2 base x → Oxin w3 base x := fun x hx => hx.chs hbs2 c3 (fun b' hb' => by subst hb'; exact ⟨hbb, fun h => absurd (kin.ne h hbk) (by decide)⟩)
        refine ⟨rfl, ⟨⟨some ⟨b, off, none⟩, c, X.set k' (⟨(oxg X k').1.id, u, (oxg X k').1.t⟩, (oxg X k').2), by rw [List.length_set]; exact P3, by rw [List.length_set]; exact H2.out, by rw [List.map_set, H3.out, HID.out], by rw [List.length_set]; exact W3, fun x hx => ?_⟩, HQ.out.hp, Nat.le_trans hbs2 c3.size, by rw [List.length_set]; exact hll, HQ.out.t0, HQ.out.l0⟩, (Chs.of_below (LM p g) hbw).trans c3 (fun b' hb' => .inl (.inr (by rw [← H2.out, hb']; rfl)))⟩
        rcases List.mem_or_eq_of_mem_set hx with h | h
        · exact hstep x ((H5.out x h).chs (M := fun _ => False) HQ.out.hb (Chs.of_below _ hbw) (fun b hb => hb.elim))
        · subst h
          obtain ⟨q1, q2, q3, q4, q5⟩ := hstep _ hk2
          exact ⟨q1, q2, q3, q4, q5⟩
end Go.Proofs.YthpemlhlgjdnkaaDoor
