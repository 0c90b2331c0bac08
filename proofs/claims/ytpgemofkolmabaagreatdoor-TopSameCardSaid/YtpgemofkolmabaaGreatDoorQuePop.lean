/- Queue.Pop; a window of asks that a law has of its own. -/
import Derived.Test.YtpgemofkolmabaaGreatDoorQueOps
namespace Go.Proofs.YtpgemofkolmabaaGreatDoor
open Go.ChangeShapes Go.WideShapes Go.ChangeAt Go.RowKit Go.Maps Go.WideMaps
set_option linter.unusedVariables false

set_option maxHeartbeats 800000 in
theorem qpop_no (base p m n : Nat) (g : Option Nat) (F : Int → Int) (w : World) (hQ : Que w base p g m n [] F) :
    Calls Tryz.prog 34 #[.pointer (some ⟨p, 0, none⟩)] w fun e w' => e = .returned (.tuple #[.agg #[.int .i64 0, .int .i64 0, .int .i64 0, .slice none 0 0], errV 5]) ∧ Below w.heap.size w w' := by
  obtain ⟨A, c, X, h1, h2, h3, h4, h5⟩ := hQ.there
  have hpz := h1.lt
  have k1 := h1.cell (i := 0) rfl
  have k0 := (bcell (bal1 w (.cells #[.int .i64 0, .int .i64 0, .int .i64 0, .slice none 0 0] 33)) p 0 hpz).trans k1
  clear h1 h2 h3 h4 h5 hQ
  go_enter Tryz.func34, Tryz.ntmps34
  go_wp2
  exact bodyPost_ret (v := .tuple #[.agg #[.int .i64 0, .int .i64 0, .int .i64 0, .slice none 0 0], errV 5]) (by simp [results, Tryz.results34, go_sem]) rfl ⟨rfl, (by repeat (first | exact Below.refl _ _ | assumption | refine bal ?_ _ | refine bdn ?_ _ | refine bdr ?_ | refine bcl ?_ (by assumption)))⟩
/-- behind the store of what is left -/
theorem que_tail {base p m n : Nat} {g : Option Nat} {x : Ax} {X : List Ax} {F : Int → Int} {w : World} {A : Option Addr} {c : Nat} (hQ : Que w base p g m n (x.1 :: X.map (·.1)) F) (h1 : AtB w p #[.slice A (X.length + 1) c, .map (some m)] 135) (h2 : (Value.slice A (X.length + 1) c).ownBlock = g)
    (h4 : Win w base 33 4 (.slice A (X.length + 1) c) (X.length + 1) (axCells (x :: X))) (h5 : ∀ z ∈ x :: X, Axin w base z) {v : Value} (hv : v = .slice (if c = 1 then A else A.map (·.add (1 * 4))) X.length (c - 1)) :
    Que (w.setCell ⟨p, 0, none⟩ v) base p g m n (X.map (·.1)) F := by
  subst hv
  have hc : Chs (fun b => b = p) w (w.setCell ⟨p, 0, none⟩ (.slice (if c = 1 then A else A.map (·.add (1 * 4))) X.length (c - 1))) := Chs.set w ⟨p, 0, none⟩ _
  have h6 := Win.tail (x := axv x) (ys := axCells X) h4 rfl
  have hgo : (Value.slice (if c = 1 then A else A.map (·.add (1 * 4))) X.length (c - 1)).ownBlock = g := by
    rw [← h2]
    by_cases e : c = 1
    · rw [if_pos e]; cases A <;> rfl
    · rw [if_neg e]
      cases A with
      | none => rfl
      | some a => simp [Value.ownBlock, Addr.add]
  have hmp : m ≠ p := fun e => not_kin_of_map hQ.map.isMap (by rw [e]; exact h1.kin)
  refine ⟨⟨_, _, X, by rw [List.length_map]; exact h1.set 0 _, by rw [List.length_map]; exact hgo, rfl, ?_, fun z hz => ?_⟩, hQ.map.stay (hc.block m hQ.map.lt hmp), hQ.hp, hQ.hm, Nat.le_trans hQ.hb hc.size, hQ.fb, by have := hQ.len; simp at this ⊢; omega⟩
  · rw [List.length_map]
    exact h6.stay fun b hb => hc.block b (h6.block hb).2.lt fun e => by subst e; exact kin_ne (h6.block hb).2 h1.kin (by decide) rfl
  · obtain ⟨j1, j2, j3, j4⟩ := h5 z (List.mem_cons_of_mem _ hz)
    obtain ⟨j5, j6⟩ := Vin.chs j1 j4 hQ.hb hc (fun b hb => by subst hb; exact ⟨hQ.hp, fun hk => absurd (kin.ne hk h1.kin) (by decide)⟩)
    exact ⟨j5, j2, j3, j6⟩
set_option maxHeartbeats 1600000 in
theorem qpop_ok (base p m n : Nat) (g : Option Nat) (a : Ak) (L : List Ak) (F : Int → Int) (w : World) (hQ : Que w base p g m n (a :: L) F) :
    Calls Tryz.prog 34 #[.pointer (some ⟨p, 0, none⟩)] w fun e w' => ∃ B C, e = .returned (.tuple #[.agg #[.int .i64 a.w, .int .i64 a.q, .int .i64 a.d, .slice B a.t.length C], .nilIface]) ∧ Vals w' B a.t ∧ a.t.length ≤ C ∧ C ≤ maxLen ∧ Inn w' base 30 B ∧
      Que w' base p g m n L F ∧ Chs (fun b => b = p) w w' := by
  obtain ⟨A, c, X, h1, h2, h3, h4, h5⟩ := hQ.there
  obtain ⟨x, X', rfl, hx, hX'⟩ : ∃ x X', X = x :: X' ∧ x.1 = a ∧ X'.map (·.1) = L := by
    cases X with
    | nil => simp at h3
    | cons x X => simp at h3; exact ⟨_, _, rfl, h3.1, h3.2⟩
  rw [List.length_cons] at h1 h2 h4
  obtain ⟨g0, off, c0, he, hcc, hcells⟩ := h4.at_ (by omega)
  injection he with he1 he2 he3
  subst he1 he3
  subst hx
  have hkin := (h4.block (g := g0) rfl).2
  have hg0 := hkin.lt
  have hpz := h1.lt
  have k0 : w.cell? ⟨g0, off, none⟩ = some (.int .i64 x.1.w) := hcells 0 _ rfl
  have k1 : w.cell? ⟨g0, off + 1, none⟩ = some (.int .i64 x.1.q) := hcells 1 _ rfl
  have k2 : w.cell? ⟨g0, off + 2, none⟩ = some (.int .i64 x.1.d) := hcells 2 _ rfl
  have k3 : w.cell? ⟨g0, off + 3, none⟩ = some (.slice x.2.1 x.1.t.length x.2.2) := hcells 3 _ rfl
  have p0 := h1.cell (i := 0) rfl
  have f0 := h1.frozen 0
  have hcm : c ≤ maxLen := by obtain ⟨A', c', e1, e2, e3⟩ := h4.form; injection e1 with _ _ e1; omega
  unfold maxLen at hcm
  have hne : p ≠ w.heap.size := by omega
  have hne1 : p ≠ w.heap.size + 1 := by omega
  have hne2 : g0 ≠ w.heap.size := by omega
  have hne3 : g0 ≠ w.heap.size + 1 := by omega
  obtain ⟨z1, z2, z3, z4⟩ := h5 x (by simp)
  have H1 := Lib.hid h1; have H2 := Lib.hid h2; have H4 := Lib.hid h4; have H5 := Lib.hid h5; have HQ := Lib.hid hQ; have HX := Lib.hid hX'; have Z := Lib.hid (And.intro z1 (And.intro z2 (And.intro z3 z4))); have HK := Lib.hid hkin
  clear h1 h2 h3 h4 h5 hQ hX' hcells z1 z2 z3 z4 hkin
  by_cases e1 : c = 1
  · subst e1
    go_enter Tryz.func34, Tryz.ntmps34
    go_wp2
    have hlen : L.length = X'.length := by rw [← HX.out, List.length_map]
    have hq0 : Que w base p g m n (x.1 :: X'.map (·.1)) F := by rw [HX.out]; exact HQ.out
    rw [hlen]
    have h1 := H1.out; have h2 := H2.out; have h4 := H4.out
    rw [hlen] at h1 h2 h4
    obtain ⟨wq, hwq⟩ : ∃ wq, wq = w.setCell ⟨p, 0, none⟩ (.slice (some ⟨g0, off, none⟩) 0 0) := ⟨_, rfl⟩
    rw [← hwq]
    have hl0 : X'.length = 0 := by omega
    have hqt : Que wq base p g m n (X'.map (·.1)) F := by rw [hwq]; exact que_tail hq0 h1 h2 h4 H5.out (by rw [if_pos rfl, hl0])
    rw [HX.out] at hqt
    have hcq : Chs (fun b => b = p) w wq := by rw [hwq]; exact Chs.set w ⟨p, 0, none⟩ _
    obtain ⟨z1, z2, z3, z4⟩ := Z.out
    obtain ⟨j5, j6⟩ := Vin.chs z1 z4 hq0.hb hcq (fun b hb => by subst hb; exact ⟨hq0.hp, fun hk => absurd (kin.ne hk h1.kin) (by decide)⟩)
    have hbq : Below wq.heap.size wq ((wq.alloc (.cells #[.int .i64 x.1.w, .int .i64 x.1.q, .int .i64 x.1.d, .slice x.2.1 x.1.t.length x.2.2] 33)).alloc (.cells #[.int .i64 x.1.w, .int .i64 x.1.q, .int .i64 x.1.d, .slice x.2.1 x.1.t.length x.2.2] 33)) := bal (bal1 _ _) _
    have hbz : base ≤ wq.heap.size := Nat.le_trans hq0.hb hcq.size
    have hzq : w.heap.size = wq.heap.size := by rw [hwq]; simp [World.setCell]
    refine bodyPost_ret (v := .tuple #[.agg #[.int .i64 x.1.w, .int .i64 x.1.q, .int .i64 x.1.d, .slice x.2.1 x.1.t.length x.2.2], .nilIface]) (by rw [hzq]; simp [results, Tryz.results34, go_sem]) rfl ⟨x.2.1, x.2.2, rfl, j5.below hbq (Nat.le_refl _), z2, z3, j6.stay (fun y hy => hbq.block _ (j6.lt hbz hy)), hqt.keep hbq, hcq.trans (Chs.of_below (fun _ => False) hbq) (fun b hb => hb.elim)⟩
  · skip
    go_enter Tryz.func34, Tryz.ntmps34
    go_wp2
    have hlen : L.length = X'.length := by rw [← HX.out, List.length_map]
    have hq0 : Que w base p g m n (x.1 :: X'.map (·.1)) F := by rw [HX.out]; exact HQ.out
    rw [hlen]
    have h1 := H1.out; have h2 := H2.out; have h4 := H4.out
    rw [hlen] at h1 h2 h4
    obtain ⟨wq, hwq⟩ : ∃ wq, wq = w.setCell ⟨p, 0, none⟩ (.slice (some ⟨g0, off + 4, none⟩) X'.length (c - 1)) := ⟨_, rfl⟩
    rw [← hwq]
    have hqt : Que wq base p g m n (X'.map (·.1)) F := by rw [hwq]; exact que_tail hq0 h1 h2 h4 H5.out (by rw [if_neg e1]; simp [Addr.add])
    rw [HX.out] at hqt
    have hcq : Chs (fun b => b = p) w wq := by rw [hwq]; exact Chs.set w ⟨p, 0, none⟩ _
    obtain ⟨z1, z2, z3, z4⟩ := Z.out
    obtain ⟨j5, j6⟩ := Vin.chs z1 z4 hq0.hb hcq (fun b hb => by subst hb; exact ⟨hq0.hp, fun hk => absurd (kin.ne hk h1.kin) (by decide)⟩)
    have hbq : Below wq.heap.size wq ((wq.alloc (.cells #[.int .i64 x.1.w, .int .i64 x.1.q, .int .i64 x.1.d, .slice x.2.1 x.1.t.length x.2.2] 33)).alloc (.cells #[.int .i64 x.1.w, .int .i64 x.1.q, .int .i64 x.1.d, .slice x.2.1 x.1.t.length x.2.2] 33)) := bal (bal1 _ _) _
    have hbz : base ≤ wq.heap.size := Nat.le_trans hq0.hb hcq.size
    have hzq : w.heap.size = wq.heap.size := by rw [hwq]; simp [World.setCell]
    refine bodyPost_ret (v := .tuple #[.agg #[.int .i64 x.1.w, .int .i64 x.1.q, .int .i64 x.1.d, .slice x.2.1 x.1.t.length x.2.2], .nilIface]) (by rw [hzq]; simp [results, Tryz.results34, go_sem]) rfl ⟨x.2.1, x.2.2, rfl, j5.below hbq (Nat.le_refl _), z2, z3, j6.stay (fun y hy => hbq.block _ (j6.lt hbz hy)), hqt.keep hbq, hcq.trans (Chs.of_below (fun _ => False) hbq) (fun b hb => hb.elim)⟩
end Go.Proofs.YtpgemofkolmabaaGreatDoor
