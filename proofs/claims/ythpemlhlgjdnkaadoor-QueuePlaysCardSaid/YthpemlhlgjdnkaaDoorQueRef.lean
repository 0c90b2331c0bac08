/- The reference's Ask; four numbers that a law keeps. -/
import Derived.Test.YthpemlhlgjdnkaaDoorQueLaw
import Derived.Test.YthpemlhlgjdnkaaDoorVRef
namespace Go.Proofs.YthpemlhlgjdnkaaDoor
open Go.ChangeShapes Go.WideShapes Go.ChangeAt Go.RowKit Go.Maps Go.WideMaps
set_option linter.unusedVariables false

set_option maxHeartbeats 1600000 in
set_option maxRecDepth 100000 in
theorem rask_any (x q d : Int) (t : List Va) (A : Option Addr) (c : Nat) (hm : t.length ≤ maxLen) (hok : okL t) (w : World) (hA : Vals w A t) :
    Calls Tryd.prog 28 #[.agg #[.int .i64 x, .int .i64 q, .int .i64 d, .slice A t.length c]] w fun e w' => e = .returned (.int .i64 (qcE ⟨x, q, d, t⟩)) ∧ Below w.heap.size w w' := by
  have cl := fun W (hb : Below w.heap.size w W) => rlike_any A c t hm hok W (hA.below hb (Nat.le_refl _))
  have ct := fun W (hb : Below w.heap.size w W) => rtuple_any A c t hm hok W (hA.below hb (Nat.le_refl _))
  have hb0 : Below w.heap.size w (w.alloc (.cells #[.int .i64 x, .int .i64 q, .int .i64 d, .slice A t.length c] 31)) := bal1 _ _
  unfold qcE
  simp only
  by_cases h : whoB x = true ∧ deedB d = true
  · obtain ⟨h1, h2⟩ := h
    have g1 := whoB_true.1 h1
    have g2 := deedB_true.1 h2
    rw [h1, h2, Bool.and_self, if_neg (by decide)]
    by_cases h3 : d = 0
    · rw [if_pos h3]
      subst h3
      generalize tuE t = E at *
      have CT := Lib.hid ct; clear ct cl h1 h2
      go_enter Tryd.func28, Tryd.ntmps28
      go_wp2_with (go_at_call 38; refine (CT.out _ hb0).mono ?_; rintro e w1 ⟨rfl, hb1⟩)
      go_ret
      exact ⟨rfl, bcl hb0 hb1⟩
    · rw [if_neg h3]
      have hq : (d == 0) = false := beq_eq_false_iff_ne.2 h3
      generalize liE t = E at *
      have CL := Lib.hid cl; clear ct cl h1 h2 h3
      go_enter Tryd.func28, Tryd.ntmps28
      go_wp2_with (go_at_call 48; refine (CL.out _ hb0).mono ?_; rintro e w1 ⟨rfl, hb1⟩)
      go_ret
      exact ⟨rfl, bcl hb0 hb1⟩
  · have hn : (whoB x && deedB d) = false := by
      cases h1 : whoB x <;> cases h2 : deedB d <;> simp_all
    rw [if_pos hn]
    have hx : decide (x < 0) = true ∨ (decide (x < 0) = false ∧ decide (1000000 < x) = true) ∨ (decide (x < 0) = false ∧ decide (1000000 < x) = false ∧ decide (d < 0) = true) ∨ (decide (x < 0) = false ∧ decide (1000000 < x) = false ∧ decide (d < 0) = false ∧ decide (2 < d) = true) := by
      simp only [decide_eq_true_eq, decide_eq_false_iff_not]
      rw [whoB_true, deedB_true] at h; omega
    clear cl ct hn h
    rcases hx with x1 | ⟨x1, x2⟩ | ⟨x1, x2, x3⟩ | ⟨x1, x2, x3, x4⟩
    all_goals
      go_enter Tryd.func28, Tryd.ntmps28
      go_wp2_with fail
      go_ret
      exact ⟨rfl, hb0⟩

/-! ### four numbers -/
def lastA (F : Int → Int) : Array Value := #[.int .i64 (F 0), .int .i64 (F 1), .int .i64 (F 2), .int .i64 (F 3)]
theorem lastA_at (F : Int → Int) {j : Nat} (h : j < 4) : (lastA F)[j]? = some (.int .i64 (F j)) := by
  rcases (show j = 0 ∨ j = 1 ∨ j = 2 ∨ j = 3 by omega) with rfl | rfl | rfl | rfl <;> rfl
theorem lastA_set (F : Int → Int) {j : Nat} (h : j < 4) (q : Int) : (lastA F).setIfInBounds j (.int .i64 q) = lastA (fun y => if y = (j : Int) then q else F y) := by
  rcases (show j = 0 ∨ j = 1 ∨ j = 2 ∨ j = 3 by omega) with rfl | rfl | rfl | rfl <;> rfl
/-- the queue, the law's own window, and the four numbers in block b -/
structure QL (w0 w : World) (p m n : Nat) (g : Option Nat) (L : List Ak) (F : Int → Int) (A : Option Addr) (c : Nat) (X : List Ax) (b : Nat) (G : Int → Int) : Prop where
  j : QJ w0 w p m n g L F A c X
  l : AtB w b (lastA G) 3
  lb : w0.heap.size ≤ b
section
variable {w0 w w' : World} {p m n c b : Nat} {g g' : Option Nat} {L : List Ak} {F G : Int → Int} {A : Option Addr} {X : List Ax}
theorem QL.keep (k : QL w0 w p m n g L F A c X b G) (hb : Below w.heap.size w w') : QL w0 w' p m n g L F A c X b G := ⟨k.j.keep hb, k.l.below hb k.l.lt, k.lb⟩
theorem QL.nq (k : QL w0 w p m n g L F A c X b G) : ¬ QM p g m b := fun h => by
  rcases h with rfl | h | rfl
  · exact kin_ne k.l.kin k.j.q.pkin (by decide) rfl
  · exact kin_ne k.l.kin (k.j.q.gkin h).2 (by decide) rfl
  · exact not_kin_of_map k.j.q.map.isMap k.l.kin
theorem qlpush (k : QL w0 w p m n g L F A c X b G) (a : Ak) (hq64 : I64 a.q) (A' : Option Addr) (c' : Nat) (hm : a.t.length ≤ maxLen) (hok : okL a.t) (hn : n ≤ 1000000) (hA : Vals w A' a.t) :
    Calls Tryd.prog 22 #[.pointer (some ⟨p, 0, none⟩), .agg #[.int .i64 a.w, .int .i64 a.q, .int .i64 a.d, .slice A' a.t.length c']] w fun e w' => e = .returned (eV (puE L F a)) ∧
      ∃ g', QL w0 w' p m (if puE L F a = 0 then n + 1 else n) g' (if puE L F a = 0 then L ++ [a] else L) (if puE L F a = 0 then (fun y => if y = a.w then a.q else F y) else F) A c X b G :=
  (qpush_any _ p m n g L F a hq64 A' c' hm hok hn w k.j.q hA).mono fun e w' ⟨h1, g', h2, h3, h4⟩ => ⟨h1, g', k.j.move h2 h3 h4, k.l.chs h3 k.nq, k.lb⟩
/-- what else stays where the queue is popped -/
theorem qlpop {a : Ak} (k : QL w0 w p m n g (a :: L) F A c X b G) :
    Calls Tryd.prog 26 #[.pointer (some ⟨p, 0, none⟩)] w fun e w' => ∃ B C, e = .returned (.tuple #[.agg #[.int .i64 a.w, .int .i64 a.q, .int .i64 a.d, .slice B a.t.length C], .nilIface]) ∧ Axin w' w0.heap.size (a, B, C) ∧ QL w0 w' p m n g L F A c X b G ∧ Chs (fun z => z = p) w w' :=
  (qpop_ok _ p m n g a L F w k.j.q).mono fun e w' ⟨B, C, h1, h2, h3, h4, h5, h6, h7⟩ => ⟨B, C, h1, ⟨h2, h3, h4, h5⟩, ⟨k.j.move h6 (h7.mono fun b hb => .inl hb) (.inl rfl), k.l.chs (h7.mono fun b hb => .inl hb) k.nq, k.lb⟩, h7⟩
theorem qlpop_no (k : QL w0 w p m n g [] F A c X b G) :
    Calls Tryd.prog 26 #[.pointer (some ⟨p, 0, none⟩)] w fun e w' => e = .returned (.tuple #[.agg #[.int .i64 0, .int .i64 0, .int .i64 0, .slice none 0 0], errV 5]) ∧ QL w0 w' p m n g [] F A c X b G ∧ Below w.heap.size w w' :=
  (qpop_no _ p m n g F w k.j.q).mono fun e w' ⟨h1, h2⟩ => ⟨h1, k.keep h2, h2⟩
theorem QL.cut1 {x : Ax} (k : QL w0 w p m n g L F A c (x :: X) b G) : QL w0 w p m n g L F (if c = 1 then A else A.map (·.add (1 * 4))) (c - 1) X b G := ⟨k.j.cut, k.l, k.lb⟩
/-- behind an append to the law's own -/
theorem QL.app (k : QL w0 w p m n g L F A c X b G) {x : Ax} (hx : Axin w w0.heap.size x) {o : Obj} {b4 o4 c4 : Nat} {w4 : World} (hW : Win w4 w0.heap.size 31 4 (.slice (some ⟨b4, o4, none⟩) (X.length + 1) c4) (X.length + 1) (axCells X ++ axv x))
    (hg : (w.alloc o).grownBy w4 (Value.slice A X.length c).ownBlock) (hn : (Value.slice A X.length c).ownBlock = some b4 ∨ (w.alloc o).heap.size ≤ b4) : QL w0 w4 p m n g L F (some ⟨b4, o4, none⟩) c4 (X ++ [x]) b G ∧ ∀ z cs t, AtB w z cs t → t ≠ 31 → AtB w4 z cs t := by
  have hcg : Chs (fun b => (Value.slice A X.length c).ownBlock = some b) w w4 := (Chs.of_below _ (bal1 _ _)).trans (Chs.grown hg) (fun b hb => .inl hb)
  have hz : ∀ z cs t, AtB w z cs t → t ≠ 31 → AtB w4 z cs t := fun z cs t h ht => h.chs hcg fun e => kin_ne h.kin (k.j.o.win.block e).2 ht rfl
  exact ⟨⟨k.j.app hx hW hg hn, hz _ _ _ k.l (by decide), k.lb⟩, hz⟩
theorem bx_app {bx : Nat} {cs : Array Value} {t : TypeId} {o : Obj} {w4 : World} (h : AtB w bx cs t) (ho : ∀ z, (Value.slice A X.length c).ownBlock = some z → z < bx) (hg : (w.alloc o).grownBy w4 (Value.slice A X.length c).ownBlock) : AtB w4 bx cs t := by
  have hcg : Chs (fun b => (Value.slice A X.length c).ownBlock = some b) w w4 := (Chs.of_below _ (bal1 _ _)).trans (Chs.grown hg) (fun b hb => .inl hb)
  exact h.chs hcg fun e => absurd (ho _ e) (Nat.lt_irrefl _)
/-- the law's own box of an ask is stored to -/
theorem QL.box (k : QL w0 w p m n g L F A c X b G) {bx : Nat} {cs : Array Value} (hx : AtB w bx cs 31) (h0 : w0.heap.size ≤ bx) (hg : ∀ z, g = some z → z < bx) (ho : ∀ z, (Value.slice A X.length c).ownBlock = some z → z < bx) (i : Nat) (v : Value) : QL w0 (w.setCell ⟨bx, i, none⟩ v) p m n g L F A c X b G := by
  have hc : Chs (fun z => z = bx) w (w.setCell ⟨bx, i, none⟩ v) := Chs.set w ⟨bx, i, none⟩ _
  have hM : ∀ z, z = bx → w0.heap.size ≤ z ∧ ¬ kin w z 28 := fun z hz => by subst hz; exact ⟨h0, fun hk => absurd (kin.ne hk hx.kin) (by decide)⟩
  have hnq : ¬ QM p g m bx := fun h => by
    rcases h with rfl | h | rfl
    · exact kin_ne hx.kin k.j.q.pkin (by decide) rfl
    · exact absurd (hg _ h) (Nat.lt_irrefl _)
    · exact not_kin_of_map k.j.q.map.isMap hx.kin
  refine ⟨⟨k.j.h0, k.j.b.trans (hc.below (fun z hz => (hM z hz).1) k.j.q.hb), k.j.q.far hc fun z hz => ⟨(hM z hz).1, (hM z hz).2, by subst hz; exact hnq⟩, k.j.o.chs k.j.q.hb hc hM fun z hz e => ?_, k.j.dis⟩, k.l.chs hc fun e => kin_ne k.l.kin hx.kin (by decide) e, k.lb⟩
  subst e; exact absurd (ho _ hz) (Nat.lt_irrefl _)
/-- one of the four is stored -/
theorem QL.set (k : QL w0 w p m n g L F A c X b G) {i : Nat} (hi : i < 4) (q : Int) : QL w0 (w.setCell ⟨b, i, none⟩ (.int .i64 q)) p m n g L F A c X b (fun y => if y = (i : Int) then q else G y) := by
  have hc : Chs (fun z => z = b) w (w.setCell ⟨b, i, none⟩ (.int .i64 q)) := Chs.set w ⟨b, i, none⟩ _
  have hM : ∀ z, z = b → w0.heap.size ≤ z ∧ ¬ kin w z 28 := fun z hz => by subst hz; exact ⟨k.lb, fun hk => absurd (kin.ne hk k.l.kin) (by decide)⟩
  refine ⟨⟨k.j.h0, k.j.b.trans (hc.below (fun z hz => (hM z hz).1) k.j.q.hb), k.j.q.far hc fun z hz => ⟨(hM z hz).1, (hM z hz).2, by subst hz; exact k.nq⟩, k.j.o.chs k.j.q.hb hc hM fun z hz e => ?_, k.j.dis⟩, ?_, k.lb⟩
  · subst e; exact kin_ne k.l.kin (k.j.o.win.block hz).2 (by decide) rfl
  · have := k.l.set i (.int .i64 q)
    rwa [lastA_set G hi] at this
end
end Go.Proofs.YthpemlhlgjdnkaaDoor
