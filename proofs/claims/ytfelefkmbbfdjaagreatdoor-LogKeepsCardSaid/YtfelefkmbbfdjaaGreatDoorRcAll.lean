/- Queue.Pop; a window of asks that a law has of its own. A queue beside a window of asks of the law's own. The reference's Ask; four numbers that a law keeps. The reference's copy in memory. The reference's copy: NewCopy, Last, Mark. The reference's copy: Do. -/
import Derived.Test.YtfelefkmbbfdjaaGreatDoorQueOps
import Derived.Test.YtfelefkmbbfdjaaGreatDoorDoor
import Derived.Test.YtfelefkmbbfdjaaGreatDoorVRef
import Derived.Test.YtfelefkmbbfdjaaGreatDoorCpAll
import Derived.Test.YtfelefkmbbfdjaaGreatDoorRSpOps
import Derived.Test.YtfelefkmbbfdjaaGreatDoorRuleRef
import Derived.Test.YtfelefkmbbfdjaaGreatDoorHash
import Derived.Test.YtfelefkmbbfdjaaGreatDoorLine
import Derived.Deep.RegionHeld3
import Derived.Deep.RegionLaw
import Derived.Deep.QuietTactic
import Derived.BigQuiet
import Derived.Deep.CutBlock
import Derived.Deep.DeepCutAuto
namespace Go.Proofs.YtfelefkmbbfdjaaGreatDoor
open Go.ChangeShapes Go.WideShapes Go.ChangeAt Go.RowKit Go.Maps Go.WideMaps
set_option linter.unusedVariables false

end Go.Proofs.YtfelefkmbbfdjaaGreatDoor
namespace Go.Proofs.YtfelefkmbbfdjaaGreatDoor
open Go.ChangeShapes Go.WideShapes Go.ChangeAt Go.RowKit Go.Maps Go.WideMaps
set_option linter.unusedVariables false

theorem axCells_length (X : List Ax) : (axCells X).length = X.length * 4 := by
  induction X with
  | nil => rfl
  | cons x X ih => rw [show axCells (x :: X) = axv x ++ axCells X from rfl, List.length_append, ih]; simp [axv]; omega
def ax (X : List Ax) (i : Nat) : Ax := X.getD i (Ak.zero, none, 0)
theorem ax_mem {X : List Ax} {i : Nat} (h : i < X.length) : ax X i ∈ X := by
  simp only [ax, List.getD_eq_getElem?_getD, List.getElem?_eq_getElem h, Option.getD_some]; exact List.getElem_mem h
theorem ak_map {X : List Ax} {i : Nat} (h : i < X.length) : ak (X.map (·.1)) i = (ax X i).1 := by
  simp [ak, ax, List.getD_eq_getElem?_getD, List.getElem?_eq_getElem h]
theorem axCells_at (X : List Ax) (i j : Nat) (hi : i < X.length) (hj : j < 4) : (axCells X)[i * 4 + j]? = (axv (ax X i))[j]? := by
  induction X generalizing i with
  | nil => simp at hi
  | cons x X ih =>
    rw [show axCells (x :: X) = axv x ++ axCells X from rfl]
    cases i with
    | zero =>
      rw [List.getElem?_append_left (by simp [axv]; omega)]
      simp [ax]
    | succ i =>
      have h1 : ax (x :: X) (i + 1) = ax X i := by simp [ax]
      rw [h1, List.getElem?_append_right (by simp [axv]; omega), show (i + 1) * 4 + j - (axv x).length = i * 4 + j by simp [axv]; omega]
      exact ih i (by simpa using hi)
/-- a window of asks of the law's own -/
structure OWX (w : World) (base : Nat) (A : Option Addr) (c : Nat) (X : List Ax) : Prop where
  win : Win w base 38 4 (.slice A X.length c) X.length (axCells X)
  inn : ∀ x ∈ X, Axin w base x
theorem Axin.chs {M : Nat → Prop} {w w' : World} {base : Nat} {x : Ax} (h : Axin w base x) (hb : base ≤ w.heap.size) (k : Chs M w w') (hM : ∀ b, M b → base ≤ b ∧ ¬ kin w b 31) : Axin w' base x := by
  obtain ⟨j1, j2, j3, j4⟩ := h
  obtain ⟨j5, j6⟩ := Vin.chs j1 j4 hb k hM
  exact ⟨j5, j2, j3, j6⟩
theorem Axin.below {w w' : World} {base : Nat} {x : Ax} (h : Axin w base x) (hb : base ≤ w.heap.size) (k : Below w.heap.size w w') : Axin w' base x :=
  h.chs hb (Chs.of_below (fun _ => False) k) (fun _ h => h.elim)
theorem Axin.of_arg {w w' : World} {a : Ak} {B : Option Addr} {C : Nat} (h : Vals w B a.t) (h1 : a.t.length ≤ C) (h2 : C ≤ maxLen) (ht : 0 < a.t.length) (k : Below w.heap.size w w') : Axin w' w.heap.size (a, B, C) :=
  ⟨h.below k (Nat.le_refl _), h1, h2, fun x hx => .inl (by obtain ⟨b, off, e, hb, _⟩ := h ht; simp only at hx; rw [e] at hx; cases hx; exact hb)⟩
section
variable {w w' : World} {base c : Nat} {A : Option Addr} {X : List Ax}
theorem OWX.nil : OWX w base none 0 [] := ⟨Win.nil, fun x h => by simp at h⟩
theorem OWX.chs {M : Nat → Prop} (h : OWX w base A c X) (hb : base ≤ w.heap.size) (k : Chs M w w') (hM : ∀ b, M b → base ≤ b ∧ ¬ kin w b 31) (hd : ∀ b, (Value.slice A X.length c).ownBlock = some b → ¬ M b) : OWX w' base A c X :=
  ⟨h.win.stay fun b hb => k.block b (h.win.block hb).2.lt (hd b hb), fun x hx => (h.inn x hx).chs hb k hM⟩
theorem OWX.keep (h : OWX w base A c X) (hb : base ≤ w.heap.size) (k : Below w.heap.size w w') : OWX w' base A c X :=
  h.chs hb (Chs.of_below (fun _ => False) k) (fun _ h => h.elim) (fun _ _ h => h)
theorem OWX.cap (h : OWX w base A c X) : X.length ≤ c ∧ c ≤ maxLen := by
  obtain ⟨A', c', e, h1, h2⟩ := h.win.form; injection e with _ _ e; subst e; exact ⟨h1, h2⟩
theorem OWX.at_ (h : OWX w base A c X) {i : Nat} (hi : i < X.length) : ∃ b off, A = some ⟨b, off, none⟩ ∧ b < w.heap.size ∧ w.cell? ⟨b, off + i * 4, none⟩ = some (.int .i64 (ax X i).1.w) ∧ w.cell? ⟨b, off + i * 4 + 1, none⟩ = some (.int .i64 (ax X i).1.q) ∧
    w.cell? ⟨b, off + i * 4 + 2, none⟩ = some (.int .i64 (ax X i).1.d) ∧ w.cell? ⟨b, off + i * 4 + 3, none⟩ = some (.slice (ax X i).2.1 (ax X i).1.t.length (ax X i).2.2) ∧ Vals w (ax X i).2.1 (ax X i).1.t := by
  obtain ⟨g, off, c', e, _, hc⟩ := h.win.at_ (by omega)
  injection e with e1 e2 e3
  subst e1
  refine ⟨g, off, rfl, (h.win.block (g := g) rfl).2.lt, ?_, ?_, ?_, ?_, (h.inn _ (ax_mem hi)).1⟩
  · have := hc (i * 4 + 0) _ (axCells_at X i 0 hi (by omega)); rwa [Nat.add_zero] at this
  · have := hc (i * 4 + 1) _ (axCells_at X i 1 hi (by omega)); rwa [← Nat.add_assoc] at this
  · have := hc (i * 4 + 2) _ (axCells_at X i 2 hi (by omega)); rwa [← Nat.add_assoc] at this
  · have := hc (i * 4 + 3) _ (axCells_at X i 3 hi (by omega)); rwa [← Nat.add_assoc] at this
theorem OWX.at2 {b off : Nat} (h : OWX w base (some ⟨b, off, none⟩) c X) {i : Nat} (hi : i < X.length) : b < w.heap.size ∧ w.cell? ⟨b, off + i * 4, none⟩ = some (.int .i64 (ax X i).1.w) ∧ w.cell? ⟨b, off + i * 4 + 1, none⟩ = some (.int .i64 (ax X i).1.q) ∧
    w.cell? ⟨b, off + i * 4 + 2, none⟩ = some (.int .i64 (ax X i).1.d) ∧ w.cell? ⟨b, off + i * 4 + 3, none⟩ = some (.slice (ax X i).2.1 (ax X i).1.t.length (ax X i).2.2) ∧ Vals w (ax X i).2.1 (ax X i).1.t := by
  obtain ⟨b', off', e, h1⟩ := h.at_ hi
  injection e with e
  injection e with e1 e2
  subst e1 e2
  exact h1
end
section
variable {w0 w w' : World} {p m n c : Nat} {g g' : Option Nat} {L : List Ak} {F : Int → Int} {A : Option Addr} {X : List Ax}
end
theorem wpList_append_win {w : World} {ops : Array Oper} {rest : List Oper} {o : Oper} {a : Act} {Q : Exit → Act → World → Prop} (hgd : o.guard = none) (s x : Operand) (t : TypeId)
    (ho : o.op = .call { callee := .builtin .append, args := #[s, x], argTypes := #[t, t] })
    (base : Nat) (e : TypeId) (z : Value) (size bytes : Nat) (ht : Tryz.prog.underlying t = some (.slice e)) (hi : (Tryz.prog.info? e).map (fun i => (i.zero, i.size, i.bytes)) = some (some z, size, bytes)) (hzs : z.cells.size = size) (hsz : 0 < size)
    (v : Value) (n : Nat) (xs : List Value) (hs : a.eval s = v) (hown : Win w base e size v n xs)
    (g : Nat) (news : List Value) (hx : a.eval x = .slice (some ⟨g, 0, none⟩) 1 1) (hl : news.length = size) (hnews : ∀ j u, news[j]? = some u → w.cell? ⟨g, j, none⟩ = some u) (h1 : ∀ u ∈ news, u.oneCell' = true)
    (hn : n ≤ 1000000) (hby : bytes ≤ 1000000) (hbase : base ≤ w.heap.size)
    (h : ∀ g off cap w', Win w' base e size (.slice (some ⟨g, off, none⟩) (n + 1) cap) (n + 1) (xs ++ news) → w.grownBy w' v.ownBlock → (v.ownBlock = some g ∨ w.heap.size ≤ g) → wpList Tryz.prog ops Q rest (a.put o.dst (.slice (some ⟨g, off, none⟩) (n + 1) cap)) w') : wpList Tryz.prog ops Q (o :: rest) a w :=
  wpList_plain hgd fun K hK => by
    have := step_append_win (ops := ops) (K := K) (Q := Q) (E := True) hgd s x t ho base e z size bytes ht hi hzs hsz v n xs hs hown g news hx hl hnews h1 hn hby hbase (fun g off cap w' k1 k2 k3 => hK _ _ (h g off cap w' k1 k2 k3))
    rwa [if_pos (by simp [Region.wanted, hgd])] at this

/-! ### what was pushed -/
/-- how many are of y -/
def cntW (L : List Ak) (y : Int) : Nat := (L.filter fun a => a.w == y).length
theorem cntW_app (L : List Ak) (a : Ak) (y : Int) : cntW (L ++ [a]) y = cntW L y + if a.w = y then 1 else 0 := by
  unfold cntW
  rw [List.filter_append]
  by_cases e : a.w = y <;> simp [e]
theorem cntW_le (L : List Ak) (y : Int) : cntW L y ≤ L.length := List.length_filter_le _ _
theorem cntW_succ (L : List Ak) (k : Nat) (hk : k < L.length) (y : Int) : cntW (L.take (k + 1)) y = cntW (L.take k) y + if (ak L k).w = y then 1 else 0 := by
  rw [List.take_succ_eq_append_getElem hk, cntW_app]
  simp [ak, List.getD_eq_getElem?_getD, List.getElem?_eq_getElem hk]
/-- of each who asked the last is F, and each of theirs came in its turn -/
structure Hist (L : List Ak) (F : Int → Int) : Prop where
  f : ∀ y, F y = cntW L y
  q : ∀ i, i < L.length → (ak L i).q = cntW (L.take (i + 1)) (ak L i).w
theorem Hist.nil : Hist [] (fun _ => 0) := ⟨fun _ => rfl, fun i h => by simp at h⟩
theorem puE_zero {L : List Ak} {F : Int → Int} {a : Ak} (h : puE L F a = 0) : qcE a = 0 ∧ a.q = F a.w + 1 ∧ L.length ≠ 30 := by
  unfold puE at h
  split at h
  · rename_i h1; exact absurd h h1
  · rename_i h1
    split at h
    · cases h
    · split at h
      · cases h
      · split at h
        · cases h
        · exact ⟨by simpa using h1, by omega, by assumption⟩
theorem Hist.push {L : List Ak} {F : Int → Int} (h : Hist L F) {a : Ak} (ha : a.q = F a.w + 1) : Hist (L ++ [a]) (fun y => if y = a.w then a.q else F y) := by
  refine ⟨fun y => ?_, fun i hi => ?_⟩
  · rw [cntW_app]
    by_cases e : y = a.w
    · subst e; simp only [if_true]; rw [ha, h.f]; simp
    · simp only [if_neg e]; rw [if_neg (fun h => e h.symm), h.f]; simp
  · rw [List.length_append, List.length_singleton] at hi
    rcases Nat.lt_or_ge i L.length with hl | hl
    · have e1 : ak (L ++ [a]) i = ak L i := by simp only [ak, List.getD_eq_getElem?_getD]; rw [List.getElem?_append_left hl]
      rw [e1, List.take_append_of_le_length (by omega)]
      exact h.q i hl
    · obtain rfl : i = L.length := by omega
      have e1 : ak (L ++ [a]) L.length = a := by simp [ak, List.getD_eq_getElem?_getD]
      rw [e1, List.take_of_length_le (by simp), cntW_app, ha, h.f]
      simp
end Go.Proofs.YtfelefkmbbfdjaaGreatDoor
namespace Go.Proofs.YtfelefkmbbfdjaaGreatDoor
open Go.ChangeShapes Go.WideShapes Go.ChangeAt Go.RowKit Go.Maps Go.WideMaps
set_option linter.unusedVariables false

set_option maxHeartbeats 1600000 in
set_option maxRecDepth 100000 in
theorem rask_any (x q d : Int) (t : List Va) (A : Option Addr) (c : Nat) (hm : t.length ≤ maxLen) (hok : okL t) (w : World) (hA : Vals w A t) :
    Calls Tryz.prog 30 #[.agg #[.int .i64 x, .int .i64 q, .int .i64 d, .slice A t.length c]] w fun e w' => e = .returned (.int .i64 (qcE ⟨x, q, d, t⟩)) ∧ Below w.heap.size w w' := by
  have cl := fun W (hb : Below w.heap.size w W) => rlike_any A c t hm hok W (hA.below hb (Nat.le_refl _))
  have ct := fun W (hb : Below w.heap.size w W) => rtuple_any A c t hm hok W (hA.below hb (Nat.le_refl _))
  have hb0 : Below w.heap.size w (w.alloc (.cells #[.int .i64 x, .int .i64 q, .int .i64 d, .slice A t.length c] 38)) := bal1 _ _
  unfold qcE
  simp only
  by_cases h : whoB x = true ∧ deedB d = true
  · obtain ⟨h1, h2⟩ := h
    have g1 := whoB_true.1 h1
    have g2 := deedB_true.1 h2
    rw [h1, h2, Bool.and_self, if_neg (by decide)]
    by_cases h3 : d = 0
    · rw [if_pos h3]
      subst h3
      generalize tuE t = E at *
      have CT := Lib.hid ct; clear ct cl h1 h2
      go_enter Tryz.func30, Tryz.ntmps30
      go_wp2_with (go_at_call 55; refine (CT.out _ hb0).mono ?_; rintro e w1 ⟨rfl, hb1⟩)
      go_ret
      exact ⟨rfl, bcl hb0 hb1⟩
    · rw [if_neg h3]
      have hq : (d == 0) = false := beq_eq_false_iff_ne.2 h3
      generalize liE t = E at *
      have CL := Lib.hid cl; clear ct cl h1 h2 h3
      go_enter Tryz.func30, Tryz.ntmps30
      go_wp2_with (go_at_call 28; refine (CL.out _ hb0).mono ?_; rintro e w1 ⟨rfl, hb1⟩)
      go_ret
      exact ⟨rfl, bcl hb0 hb1⟩
  · have hn : (whoB x && deedB d) = false := by
      cases h1 : whoB x <;> cases h2 : deedB d <;> simp_all
    rw [if_pos hn]
    have hx : decide (x < 0) = true ∨ (decide (x < 0) = false ∧ decide (1000000 < x) = true) ∨ (decide (x < 0) = false ∧ decide (1000000 < x) = false ∧ decide (d < 0) = true) ∨ (decide (x < 0) = false ∧ decide (1000000 < x) = false ∧ decide (d < 0) = false ∧ decide (2 < d) = true) := by
      simp only [decide_eq_true_eq, decide_eq_false_iff_not]
      rw [whoB_true, deedB_true] at h; omega
    clear cl ct hn h
    rcases hx with x1 | ⟨x1, x2⟩ | ⟨x1, x2, x3⟩ | ⟨x1, x2, x3, x4⟩
    all_goals
      go_enter Tryz.func30, Tryz.ntmps30
      go_wp2_with fail
      go_ret
      exact ⟨rfl, hb0⟩

/-! ### four numbers -/
def lastA (F : Int → Int) : Array Value := #[.int .i64 (F 0), .int .i64 (F 1), .int .i64 (F 2), .int .i64 (F 3)]
theorem lastA_at (F : Int → Int) {j : Nat} (h : j < 4) : (lastA F)[j]? = some (.int .i64 (F j)) := by
  rcases (show j = 0 ∨ j = 1 ∨ j = 2 ∨ j = 3 by omega) with rfl | rfl | rfl | rfl <;> rfl
theorem lastA_set (F : Int → Int) {j : Nat} (h : j < 4) (q : Int) : (lastA F).setIfInBounds j (.int .i64 q) = lastA (fun y => if y = (j : Int) then q else F y) := by
  rcases (show j = 0 ∨ j = 1 ∨ j = 2 ∨ j = 3 by omega) with rfl | rfl | rfl | rfl <;> rfl
section
variable {w0 w w' : World} {p m n c b : Nat} {g g' : Option Nat} {L : List Ak} {F G : Int → Int} {A : Option Addr} {X : List Ax}
theorem bx_app {bx : Nat} {cs : Array Value} {t : TypeId} {o : Obj} {w4 : World} (h : AtB w bx cs t) (ho : ∀ z, (Value.slice A X.length c).ownBlock = some z → z < bx) (hg : (w.alloc o).grownBy w4 (Value.slice A X.length c).ownBlock) : AtB w4 bx cs t := by
  have hcg : Chs (fun b => (Value.slice A X.length c).ownBlock = some b) w w4 := (Chs.of_below _ (bal1 _ _)).trans (Chs.grown hg) (fun b hb => .inl hb)
  exact h.chs hcg fun e => absurd (ho _ e) (Nat.lt_irrefl _)
end
end Go.Proofs.YtfelefkmbbfdjaaGreatDoor
namespace Go.Proofs.YtfelefkmbbfdjaaGreatDoor
open Go.ChangeShapes Go.WideShapes Go.ChangeAt Go.RowKit
set_option linter.unusedVariables false

/-! ### what was done, in a row: who, the which of theirs, what was answered -/
abbrev Dn := Int × Int × ByteArray
def dnc (d : Dn) : List Value := [.int .i64 d.1, .int .i64 d.2.1, .string d.2.2]
def dnCells (D : List Dn) : List Value := D.flatMap dnc
def dn (D : List Dn) (i : Nat) : Dn := D.getD i (0, 0, ⟨#[]⟩)
theorem dnCells_append (X Y : List Dn) : dnCells (X ++ Y) = dnCells X ++ dnCells Y := by simp [dnCells]
theorem dnCells_length (X : List Dn) : (dnCells X).length = X.length * 3 := by
  induction X with
  | nil => rfl
  | cons x X ih => rw [show dnCells (x :: X) = dnc x ++ dnCells X from rfl, List.length_append, ih]; simp [dnc]; omega
theorem dnCells_at (X : List Dn) (i j : Nat) (hi : i < X.length) (hj : j < 3) : (dnCells X)[i * 3 + j]? = (dnc (dn X i))[j]? := by
  induction X generalizing i with
  | nil => simp at hi
  | cons x X ih =>
    rw [show dnCells (x :: X) = dnc x ++ dnCells X from rfl]
    cases i with
    | zero =>
      rw [List.getElem?_append_left (by simp [dnc]; omega)]
      simp [dn]
    | succ i =>
      have h1 : dn (x :: X) (i + 1) = dn X i := by simp [dn]
      rw [h1, List.getElem?_append_right (by simp [dnc]; omega), show (i + 1) * 3 + j - (dnc x).length = i * 3 + j by simp [dnc]; omega]
      exact ih i (by simpa using hi)
/-- the last of the first k that x did -/
def lastN (D : List Dn) (x : Int) : Nat → Int × ByteArray
  | 0 => (0, ⟨#[]⟩)
  | k + 1 => if (dn D k).1 = x then (dn D k).2 else lastN D x k
theorem dn_append_left {D : List Dn} {d : Dn} {k : Nat} (h : k < D.length) : dn (D ++ [d]) k = dn D k := by
  simp only [dn, List.getD_eq_getElem?_getD]; rw [List.getElem?_append_left h]
theorem lastN_append {D : List Dn} {d : Dn} {x : Int} {k : Nat} (h : k ≤ D.length) : lastN (D ++ [d]) x k = lastN D x k := by
  induction k with
  | zero => rfl
  | succ k ih => rw [lastN, lastN, dn_append_left (by omega), ih (by omega)]
theorem lastN_snoc (D : List Dn) (d : Dn) (x : Int) : lastN (D ++ [d]) x (D ++ [d]).length = if d.1 = x then d.2 else lastN D x D.length := by
  rw [List.length_append, List.length_singleton, lastN, lastN_append (Nat.le_refl _)]
  have : dn (D ++ [d]) D.length = d := by simp [dn]
  rw [this]
theorem infoDone : (Tryz.prog.info? 83).map (fun i => (i.zero, i.size, i.bytes)) = some (some (.agg #[.int .i64 0, .int .i64 0, .string ⟨#[]⟩]), 3, 32) := by kernel_rfl
/-! ### rules that lie ahead of all that the law makes -/
def RIn (w : World) (base : Nat) (A : Option Addr) (R : List Ru) : Prop := ∃ X : List Rx, X.map (·.1) = R ∧ RX w base A X ∧ (0 < X.length → ∀ a, A = some a → a.block < base)
section
variable {w w' : World} {base : Nat} {A : Option Addr} {R : List Ru}
theorem RIn.rls (h : RIn w base A R) : Rls w A R := by obtain ⟨X, rfl, h1, _⟩ := h; exact h1.rls
theorem Vin.stay (hb : base ≤ w.heap.size) (hz : w.heap.size ≤ w'.heap.size) (hs : ∀ b, b < w.heap.size → (b < base ∨ kin w b 31) → w'.heap[b]? = w.heap[b]?) {B : Option Addr} {a : List Va} (h : Vin w base B a) : Vin w' base B a := by
  rcases Nat.eq_zero_or_pos a.length with h0 | h0
  · exact ⟨by unfold Vals; rw [h0]; exact Sl.zero, fun h => by omega⟩
  · have hst : ∀ x, B = some x → w'.heap[x.block]? = w.heap[x.block]? := fun x hx => hs _ ((h.2 h0).lt hb hx) (h.2 h0 x hx)
    exact ⟨vals_stay _ _ _ _ hz hst h.1, fun _ => (h.2 h0).stay hst⟩
theorem RIn.stay (h : RIn w base A R) (hb : base ≤ w.heap.size) (hz : w.heap.size ≤ w'.heap.size) (hs : ∀ b, b < w.heap.size → (b < base ∨ kin w b 31) → w'.heap[b]? = w.heap[b]?) : RIn w' base A R := by
  obtain ⟨X, e, ⟨h1, h2⟩, h3⟩ := h
  refine ⟨X, e, ⟨fun h0 => ?_, fun x hx => ⟨(h2 x hx).1.stay hb hz hs, (h2 x hx).2⟩⟩, h3⟩
  obtain ⟨b, off, e, hbl, hc⟩ := h1 h0
  have hl : b < base := h3 h0 ⟨b, off, none⟩ e
  have hk := hs b hbl (.inl hl)
  exact ⟨b, off, e, Nat.lt_of_lt_of_le hbl hz, fun j u hj => (World.cell?_of_block hk).trans (hc j u hj)⟩
theorem RIn.of_arg (h : Rls w A R) : RIn w w.heap.size A R := by
  obtain ⟨X, e, hX⟩ := RX.of_arg h (Nat.le_refl _)
  refine ⟨X, e, hX, fun h0 a ha => ?_⟩
  obtain ⟨b, off, e, hb, _⟩ := hX.1 h0
  rw [e] at ha; cases ha; exact hb
theorem RIn.keep (h : RIn w base A R) (hb : base ≤ w.heap.size) (k : Below w.heap.size w w') : RIn w' base A R := h.stay hb k.size fun b h1 _ => k.block b h1
theorem RIn.later {w0 : World} (h : RIn w0 w0.heap.size A R) (k : Below w0.heap.size w0 w) : RIn w w0.heap.size A R := h.stay (Nat.le_refl _) k.size fun b h1 _ => k.block b h1
end
/-- the reference's copy at p: its space at q (whose array is g), what was done in h -/
structure RCp (w : World) (base p q : Nat) (g h : Option Nat) (R : List Ru) (s : Cs) : Prop where
  there : ∃ RA rc A c D, AtB w p #[.slice RA R.length rc, .pointer (some ⟨q, 0, none⟩), .slice A D.length c, .int .i64 s.n] 55 ∧ (Value.slice A D.length c).ownBlock = h ∧ RIn w base RA R ∧
    Win w base 83 3 (.slice A D.length c) D.length (dnCells D) ∧ D.length = s.n ∧ ∀ x, lastN D x D.length = s.F x
  spc : RSp w base q g s.L
  hp : base ≤ p
  rul : rulE R = 0
  okr : okR R
  ok : Cok s
def RCM (p q : Nat) (g h : Option Nat) (b : Nat) : Prop := b = p ∨ b = q ∨ g = some b ∨ h = some b
section
variable {w w' : World} {base p q : Nat} {g h g' h' : Option Nat} {R : List Ru} {s s' : Cs}
theorem RCp.hb (j : RCp w base p q g h R s) : base ≤ w.heap.size := j.spc.hb
theorem RCp.pkin (j : RCp w base p q g h R s) : kin w p 55 := by obtain ⟨RA, rc, A, c, D, h1, _⟩ := j.there; exact h1.kin
theorem RCp.hkin (j : RCp w base p q g h R s) {b : Nat} (hh : h = some b) : base ≤ b ∧ kin w b 83 := by
  obtain ⟨RA, rc, A, c, D, _, h2, _, h4, _⟩ := j.there; exact h4.block (h2.trans hh)
theorem RCp.own (j : RCp w base p q g h R s) : ∀ b, RCM p q g h b → base ≤ b := fun b hb => by
  rcases hb with rfl | rfl | hb | hb
  · exact j.hp
  · exact j.spc.hp
  · exact (j.spc.gkin hb).1
  · exact (j.hkin hb).1
theorem RCp.lts (j : RCp w base p q g h R s) : ∀ b, RCM p q g h b → b < w.heap.size := fun b hb => by
  rcases hb with rfl | rfl | hb | hb
  · exact j.pkin.lt
  · exact j.spc.lt
  · exact (j.spc.gkin hb).2.lt
  · exact (j.hkin hb).2.lt
/-- of which kind a copy's blocks are -/
theorem RCp.nk (j : RCp w base p q g h R s) {t : TypeId} (h1 : t ≠ 55) (h2 : t ≠ 74) (h3 : t ≠ 32) (h4 : t ≠ 83) : ∀ b, RCM p q g h b → ¬ kin w b t := fun b hb k => by
  rcases hb with rfl | rfl | hb | hb
  · exact h1 (kin.ne k j.pkin)
  · exact h2 (kin.ne k j.spc.kin)
  · exact h3 (kin.ne k (j.spc.gkin hb).2)
  · exact h4 (kin.ne k (j.hkin hb).2)
theorem RCp.kinds (j : RCp w base p q g h R s) : ∀ b, RCM p q g h b → base ≤ b ∧ ¬ kin w b 31 := fun b hb => ⟨j.own b hb, j.nk (by decide) (by decide) (by decide) (by decide) b hb⟩
theorem RCp.stay (j : RCp w base p q g h R s) (hz : w.heap.size ≤ w'.heap.size) (hs : ∀ b, b < w.heap.size → (b < base ∨ kin w b 31 ∨ RCM p q g h b) → w'.heap[b]? = w.heap[b]?) : RCp w' base p q g h R s := by
  obtain ⟨RA, rc, A, c, D, h1, h2, h3, h4, h5⟩ := j.there
  refine ⟨⟨RA, rc, A, c, D, h1.stay (hs p h1.lt (.inr (.inr (.inl rfl)))), h2, h3.stay j.hb hz fun b hb hx => hs b hb (hx.imp id .inl), h4.stay fun b hb => hs b (h4.block hb).2.lt (.inr (.inr (.inr (.inr (.inr (h2.symm.trans hb)))))), h5⟩, j.spc.stay hz fun b hb hx => hs b hb ?_, j.hp, j.rul, j.okr, j.ok⟩
  rcases hx with hx | hx | hx | hx
  · exact .inl hx
  · exact .inr (.inl hx)
  · exact .inr (.inr (.inr (.inl hx)))
  · exact .inr (.inr (.inr (.inr (.inl hx))))
theorem RCp.keep (j : RCp w base p q g h R s) (hb : Below w.heap.size w w') : RCp w' base p q g h R s := j.stay hb.size fun b h1 _ => hb.block b h1
theorem RCp.far {M : Nat → Prop} (j : RCp w base p q g h R s) (k : Chs M w w') (hM : ∀ b, M b → base ≤ b ∧ ¬ kin w b 31 ∧ ¬ RCM p q g h b) : RCp w' base p q g h R s :=
  j.stay k.size fun b h1 h2 => k.block b h1 fun h3 => by
    obtain ⟨q1, q2, q3⟩ := hM b h3
    rcases h2 with h2 | h2 | h2
    · omega
    · exact q2 h2
    · exact q3 h2
/-- its space is changed -/
theorem RCp.space {L : List (List Va)} (j : RCp w base p q g h R s) (k : Chs (RM q g) w w') (hs : RSp w' base q g' L) (hok : Cok ⟨L, s.F, s.n⟩) : RCp w' base p q g' h R ⟨L, s.F, s.n⟩ := by
  obtain ⟨RA, rc, A, c, D, h1, h2, h3, h4, h5⟩ := j.there
  have hM : ∀ b, RM q g b → base ≤ b ∧ b ≠ p ∧ ¬ kin w b 83 ∧ ¬ kin w b 31 := fun b hb => by
    rcases hb with rfl | hb
    · exact ⟨j.spc.hp, fun e => absurd (kin.ne j.spc.kin (by rw [e]; exact j.pkin)) (by decide), fun e => absurd (kin.ne e j.spc.kin) (by decide), fun e => absurd (kin.ne e j.spc.kin) (by decide)⟩
    · exact ⟨(j.spc.gkin hb).1, fun e => absurd (kin.ne (j.spc.gkin hb).2 (by rw [e]; exact j.pkin)) (by decide), fun e => absurd (kin.ne e (j.spc.gkin hb).2) (by decide), fun e => absurd (kin.ne e (j.spc.gkin hb).2) (by decide)⟩
  refine ⟨⟨RA, rc, A, c, D, h1.chs k fun e => (hM p e).2.1 rfl, h2, h3.stay j.hb k.size fun b hb hx => k.block b hb fun e => ?_, h4.stay fun b hb => k.block b (h4.block hb).2.lt fun e => (hM b e).2.2.1 (h4.block hb).2, h5⟩, hs, j.hp, j.rul, j.okr, hok⟩
  rcases hx with hx | hx
  · have := (hM b e).1; omega
  · exact (hM b e).2.2.2 hx
end
end Go.Proofs.YtfelefkmbbfdjaaGreatDoor
namespace Go.Proofs.YtfelefkmbbfdjaaGreatDoor
open Go.ChangeShapes Go.WideShapes Go.ChangeAt Go.RowKit Go.Deep
set_option linter.unusedVariables false

section
variable {w : World} {base p q : Nat} {g h : Option Nat} {R : List Ru} {s : Cs}
theorem rcnew_any {w : World} {base : Nat} (hb : base ≤ w.heap.size) (RA : Option Addr) (rc : Nat) (R : List Ru) (hR : RIn w base RA R) (hr : rulE R = 0) (ho : okR R) :
    Calls Tryz.prog 13 #[.slice RA R.length rc] w fun e w' => ∃ p q, e = .returned (.pointer (some ⟨p, 0, none⟩)) ∧ RCp w' base p q none none R Cs.zero ∧ Below w.heap.size w w' ∧ w.heap.size ≤ p ∧ w.heap.size ≤ q := by
  have HR := Lib.hid hR; have HRR := Lib.hid hr; have HO := Lib.hid ho; have HB := Lib.hid hb
  clear hR hr ho hb
  go_enter Tryz.func13, Tryz.ntmps13
  go_wp2_with fail
  go_ret
  have hb1 := bal1 w (.cells #[.slice none 0 0] 74)
  have hs := RSp.new w HB.out
  have hr1 := HR.out.keep HB.out hb1
  have hz := hb1.size
  have hz1 : (w.alloc (.cells #[.slice none 0 0] 74)).heap.size = w.heap.size + 1 := by simp
  generalize w.alloc (.cells #[.slice none 0 0] 74) = w1 at *
  have hb2 := bal1 w1 (.cells #[.slice RA R.length rc, .pointer (some ⟨w.heap.size, 0, none⟩), .slice none 0 0, .int .i64 0] 55)
  have hp := AtB.new w1 #[.slice RA R.length rc, .pointer (some ⟨w.heap.size, 0, none⟩), .slice none 0 0, .int .i64 0] 55
  refine ⟨w.heap.size + 1, w.heap.size, rfl, ⟨⟨RA, rc, none, 0, [], by rw [← hz1]; exact hp, rfl, hr1.keep (Nat.le_trans HB.out hz) hb2, Win.nil, rfl, fun x => rfl⟩, hs.keep hb2, Nat.le_trans HB.out (Nat.le_succ _), HRR.out, HO.out, Cok.zero⟩, bcl hb1 hb2, Nat.le_succ _, Nat.le_refl _⟩
set_option maxHeartbeats 1600000 in
set_option maxRecDepth 100000 in
theorem rclast_any (hC : RCp w base p q g h R s) (hn : s.n ≤ 1000000) (x : Int) :
    Calls Tryz.prog 31 #[.pointer (some ⟨p, 0, none⟩), .int .i64 x] w fun e w' => e = .returned (.tuple #[.int .i64 (s.F x).1, .string (s.F x).2]) ∧ Below w.heap.size w w' := by
  obtain ⟨RA, rc, A, c, D, h1, h2, h3, h4, h5, h6⟩ := hC.there
  have p2 : w.cell? ⟨p, 2, none⟩ = some (.slice A D.length c) := h1.cell rfl
  rw [← h6 x]
  have H4 := Lib.hid h4
  have hD : D.length ≤ 1000000 := by omega
  clear hC h1 h2 h3 h4 h5 h6
  go_enter Tryz.func31, Tryz.ntmps31
  go_wp2_with fail
  go_loopw [6] (fun s6 wr => ∃ (k : Nat) (z : Int), k ≤ D.length ∧ z = (k : Int) - 1 ∧ s6 = .int .i64 z ∧ Hid (lastN D x k = lastN D x D.length) ∧ wr = w) (fun s6 _ => (intOf s6 + 1).toNat)
  case atStart => exact ⟨D.length, _, Nat.le_refl _, rfl, by first | rfl | go_num, Lib.hid rfl, rfl⟩
  case round =>
    obtain ⟨k, z, hk, hz, rfl, HK, rfl⟩ := hrel
    cases k with
    | zero =>
      obtain rfl : z = -1 := by omega
      clear hz
      go_wp2_with fail
      go_ret2
      have := HK.out
      rw [lastN] at this
      exact ⟨by rw [← this]; rfl, Below.refl _ _⟩
    | succ k =>
      obtain rfl : z = (k : Int) := by omega
      clear hz
      obtain ⟨g', off, c', e, _, hc⟩ := H4.out.at_ (by omega)
      injection e with e1 e2 e3
      subst e1
      have d0 : wr.cell? ⟨g', off + k * 3, none⟩ = some (.int .i64 (dn D k).1) := hc (k * 3 + 0) _ (dnCells_at D k 0 (by omega) (by omega))
      have d1 : wr.cell? ⟨g', off + k * 3 + 1, none⟩ = some (.int .i64 (dn D k).2.1) := hc (k * 3 + 1) _ (dnCells_at D k 1 (by omega) (by omega))
      have d2 : wr.cell? ⟨g', off + k * 3 + 2, none⟩ = some (.string (dn D k).2.2) := hc (k * 3 + 2) _ (dnCells_at D k 2 (by omega) (by omega))
      have i0 : (0 : Int) ≤ (k : Int) := by omega
      have i1 : (k : Int) < (D.length : Nat) := by omega
      have hlast : lastN D x (k + 1) = if (dn D k).1 = x then (dn D k).2 else lastN D x k := rfl
      by_cases ex : (dn D k).1 = x
      · rw [if_pos ex] at hlast
        have HL := Lib.hid (HK.out.symm.trans hlast)
        have qx : ((dn D k).1 == x) = true := beq_iff_eq.2 ex
        clear hlast ex hc e2 e3
        generalize dn D k = d at *
        obtain ⟨y0, y1, y2⟩ := d
        simp only at *
        go_wp2_with fail
        go_quiet (fail)
        go_wp2_with fail
        go_ret2
        exact ⟨by rw [HL.out]; rfl, by repeat (first | exact Below.refl _ _ | refine bdn ?_ _ | refine bdr ?_)⟩
      · rw [if_neg ex] at hlast
        have HL := Lib.hid (hlast.symm.trans HK.out)
        have qx : ((dn D k).1 == x) = false := beq_eq_false_iff_ne.2 ex
        clear hlast ex hc e2 e3
        generalize dn D k = d at *
        obtain ⟨y0, y1, y2⟩ := d
        simp only at *
        go_wp2_with fail
        go_roundw
        case rel => exact ⟨k, _, by omega, rfl, by go_num, HL, by first | rfl | trivial⟩
        case measure => first | (simp [intOf]; done) | (simp [intOf]; omega)
set_option maxHeartbeats 1600000 in
set_option maxRecDepth 100000 in
theorem rcmark_any (hC : RCp w base p q g h R s) :
    Calls Tryz.prog 17 #[.pointer (some ⟨p, 0, none⟩)] w fun e w' => e = .returned (.tuple #[.int .i64 s.n, .int .i64 (mkV s)]) ∧ Below w.heap.size w w' := by
  obtain ⟨RA, rc, A, c, D, h1, _⟩ := hC.there
  obtain ⟨E, n, q1, q2, q3⟩ := hC.spc.there
  have hl20 := hC.ok.l20
  have hall : ∀ t ∈ s.L, tuE t = 0 := fun t ht => (hC.ok.ok t ht).2
  have hms := mkL_size hall
  have HALL := Lib.hid hall; have HB0 := Lib.hid hC.hb; have HMS := Lib.hid hms; have H1 := Lib.hid h1; have Q1 := Lib.hid q1; have Q3 := Lib.hid q3
  clear hC h1 hall hms q1 q2 q3
  go_enter Tryz.func17, Tryz.ntmps17
  go_wp2_with fail
  go_loopw [4, 5, 6] (fun s4 s5 _ wr => ∃ k : Nat, k ≤ s.L.length ∧ s5 = .int .i64 k ∧ s4 = .string (mkL (s.L.take k)) ∧ Hid (Below w.heap.size w wr)) (fun _ s5 _ _ => s.L.length - (intOf s5).toNat)
  case atStart => exact ⟨0, Nat.zero_le _, rfl, rfl, Lib.hid (Below.refl _ _)⟩
  case round =>
    obtain ⟨k, hk, rfl, rfl, HB⟩ := hrel
    have P1 := H1.out.below HB.out H1.out.lt
    have S1 := Q1.out.below HB.out Q1.out.lt
    have p1 : wr.cell? ⟨p, 1, none⟩ = some (.pointer (some ⟨q, 0, none⟩)) := P1.cell rfl
    have p3 : wr.cell? ⟨p, 3, none⟩ = some (.int .i64 s.n) := P1.cell rfl
    have r0 : wr.cell? ⟨q, 0, none⟩ = some (.slice E s.L.length n) := S1.cell rfl
    have hpr := P1.lt
    by_cases hlt : k < s.L.length
    · obtain ⟨b, B, C, rfl, hcc, hv, hC1, hC2, _⟩ := (Q3.out.keep vals_stay HB0.out HB.out).vat hlt
      have htu := HALL.out _ (gg_mem hlt)
      obtain ⟨_, h5, hrg⟩ := rgt_of (tuE_zero htu).1
      have cw := rline_any B C (gg s.L k) (by omega) hrg wr hv
      have i0 : (0 : Int) ≤ (k : Int) := by omega
      have i1 : (k : Int) < (s.L.length : Nat) := by omega
      have hn := mkL_take hlt
      have hs1 : (mkL (s.L.take k)).size ≤ 3000 := by
        have h1 := mkL_size (L := s.L.take k) fun t ht => HALL.out t (List.mem_of_mem_take ht)
        have h2 : (s.L.take k).length ≤ 20 := by rw [List.length_take]; omega
        omega
      have hs2 := lin_small htu
      have CW := Lib.hid cw; have HN := Lib.hid hn; have HS1 := Lib.hid hs1; have HS2 := Lib.hid hs2
      generalize lin (gg s.L k) = tx at *
      generalize mkL (s.L.take k) = ty at *
      clear cw hv htu h5 hrg hn hs1 hs2 P1 S1
      go_wp2_with (go_at_call 35; refine CW.out.mono ?_; rintro e w3 ⟨rfl, hb3⟩)
      all_goals first
        | (exfalso; have := HS1.out; have := HS2.out; simp at *; omega)
        | (go_wp2_with fail
           go_roundw
           case rel => exact ⟨k + 1, by omega, by go_num, by rw [HN.out]; exact congrArg Value.string (bytes_eq (by simp [ByteArray.data_append])), Lib.hid (bcl HB.out hb3)⟩
           case measure => simp [intOf]; omega)
    · obtain rfl : k = s.L.length := by omega
      rw [List.take_length]
      have cd := fun W => rhash_any (mkL s.L) (by have := HMS.out; unfold maxLen; omega) W
      have CD := Lib.hid cd
      clear cd P1 S1
      go_wp2_with fail
      go_region_held3 (fun w' => w'.cell? ⟨p, 3, none⟩ = some (.int .i64 s.n)) (first | go_keep | exact p3) ((go_at_call 36; refine (CD.out _).mono ?_; rintro e w4 ⟨rfl, rfl⟩))
      go_wp2_with fail
      go_ret2
      exact ⟨rfl, bdr HB.out⟩
end
end Go.Proofs.YtfelefkmbbfdjaaGreatDoor
namespace Go.Proofs.YtfelefkmbbfdjaaGreatDoor
open Go.ChangeShapes Go.WideShapes Go.ChangeAt Go.RowKit Go.Deep
set_option linter.unusedVariables false

/-- Get that leaves all there -/
theorem rgetr_any (base p : Nat) (g : Option Nat) (L : List (List Va)) (A : Option Addr) (c : Nat) (a : List Va) (hm : a.length ≤ maxLen) (hok : okL a) (w : World) (hS : RSp w base p g L) (hA : Vals w A a) :
    Calls Tryz.prog 34 #[.pointer (some ⟨p, 0, none⟩), .slice A a.length c, .bool false] w fun e w' => ∃ B C, e = .returned (.tuple #[.slice B (rT a L).length C, .int .i64 (finE a L)]) ∧ Vals w' B (rT a L) ∧ Below w.heap.size w w' := by
  by_cases h : finE a L = 0
  · obtain ⟨k, hk, hp, h1, h2⟩ := fin_at h
    rw [h, h1]
    exact (rget_read _ p g L A c a hm hok w hS hA k hk hp h).mono fun e w' ⟨B, C, e1, e2, e3, e4, e5, e6⟩ => ⟨B, C, e1, e2, e6⟩
  · rw [rT, if_neg h]
    exact (rget_no _ p g L A c a hm hok w hS hA false h).mono fun e w' ⟨e1, e2⟩ => ⟨none, 0, e1, vals_nil, e2⟩
/-- Get, in one word -/
theorem rget_any (base p : Nat) (g : Option Nat) (L : List (List Va)) (A : Option Addr) (c : Nat) (a : List Va) (hm : a.length ≤ maxLen) (hok : okL a) (w : World) (hS : RSp w base p g L) (hA : Vals w A a) (x : Bool) :
    Calls Tryz.prog 34 #[.pointer (some ⟨p, 0, none⟩), .slice A a.length c, .bool x] w fun e w' => ∃ B C, e = .returned (.tuple #[.slice B (rT a L).length C, .int .i64 (finE a L)]) ∧ Vals w' B (rT a L) ∧
      ∃ g', RSp w' base p g' (if x = true then rL a L else L) ∧ Chs (RM p g) w w' ∧ Nwb g g' w.heap.size := by
  by_cases h : finE a L = 0
  · obtain ⟨k, hk, hp, h1, h2⟩ := fin_at h
    rw [h, h1, h2]
    cases x with
    | false => exact (rget_read _ p g L A c a hm hok w hS hA k hk hp h).mono fun e w' ⟨B, C, e1, e2, e3, e4, e5, e6⟩ => ⟨B, C, e1, e2, g, by rw [if_neg (by decide)]; exact hS.keep e6, Chs.of_below _ e6, Nwb.refl _ _⟩
    | true => exact (rget_take _ p g L A c a hm hok w hS hA k hk hp h).mono fun e w' ⟨B, C, g', e1, e2, e3, e4, e5, e6, e7, e8⟩ => ⟨B, C, e1, e2, g', by rw [if_pos rfl]; exact e6, e7, e8⟩
  · rw [rT, rL, if_neg h, if_neg h]
    refine (rget_no _ p g L A c a hm hok w hS hA x h).mono fun e w' ⟨e1, e2⟩ => ⟨none, 0, e1, vals_nil, g, ?_, Chs.of_below _ e2, Nwb.refl _ _⟩
    rw [ite_self]; exact hS.keep e2
section
variable {w : World} {base p q : Nat} {g h : Option Nat} {R : List Ru} {s : Cs}
theorem Cok.mid {a : Ak} (hs : Cok s) (hok : okL a.t) (hq : qcE a = 0) : Cok ⟨nwL s a, s.F, s.n⟩ := ⟨(nwL_ok hs hok hq).1, (nwL_ok hs hok hq).2, hs.f0, hs.fs⟩
/-- the same copy, its space in other words -/
theorem RCp.to {L : List (List Va)} (j : RCp w base p q g h R ⟨L, s.F, s.n⟩) {L' : List (List Va)} (e : L = L') : RCp w base p q g h R ⟨L', s.F, s.n⟩ := by subst e; exact j
/-- behind a deed: one more was done -/
theorem RCp.done {w3 w4 w5 w6 : World} {base p q g5 o5 c5 n : Nat} {g h : Option Nat} {R : List Ru} {s : Cs} {a : Ak} {L : List (List Va)} {ans : ByteArray} {RA A : Option Addr} {rc c : Nat} {D : List Dn} (j : RCp w3 base p q g h R ⟨L, s.F, s.n⟩)
    (h1 : AtB w3 p #[.slice RA R.length rc, .pointer (some ⟨q, 0, none⟩), .slice A D.length c, .int .i64 s.n] 55) (h2 : (Value.slice A D.length c).ownBlock = h) (h3 : RIn w3 base RA R) (h5 : D.length = s.n) (h6 : ∀ x, lastN D x D.length = s.F x)
    (hw4 : w4 = w3.setCell ⟨p, 3, none⟩ (.int .i64 ((s.n : Int) + 1))) (hcg : Chs (fun b => (Value.slice A D.length c).ownBlock = some b) w4 w5) (hW : Win w5 base 83 3 (.slice (some ⟨g5, o5, none⟩) (D.length + 1) c5) (D.length + 1) (dnCells D ++ dnc (a.w, a.q, ans)))
    (hx : (Value.slice A D.length c).ownBlock = some g5 ∨ w4.heap.size ≤ g5) (hw6 : w6 = w5.setCell ⟨p, 2, none⟩ (.slice (some ⟨g5, o5, none⟩) (D.length + 1) c5)) (hok : Cok ⟨L, fun y => if y = a.w then (a.q, ans) else s.F y, s.n + 1⟩) :
    RCp w6 base p q g (some g5) R ⟨L, fun y => if y = a.w then (a.q, ans) else s.F y, s.n + 1⟩ ∧ Chs (RCM p q g h) w3 w6 ∧ Nwb h (some g5) w3.heap.size := by
  have hpk := h1.kin
  have c34 : Chs (fun b => b = p) w3 w4 := by rw [hw4]; exact Chs.set w3 ⟨p, 3, none⟩ _
  have P4 : AtB w4 p #[.slice RA R.length rc, .pointer (some ⟨q, 0, none⟩), .slice A D.length c, .int .i64 ((s.n : Int) + 1)] 55 := by rw [hw4]; exact h1.set 3 _
  have hh : ∀ b, (Value.slice A D.length c).ownBlock = some b → base ≤ b ∧ kin w3 b 83 := fun b hb => j.hkin (h2.symm.trans hb)
  have hhp : ¬ (Value.slice A D.length c).ownBlock = some p := fun e => absurd (kin.ne (hh p e).2 hpk) (by decide)
  have P5 := P4.chs hcg hhp
  have c56 : Chs (fun b => b = p) w5 w6 := by rw [hw6]; exact Chs.set w5 ⟨p, 2, none⟩ _
  have P6 : AtB w6 p #[.slice RA R.length rc, .pointer (some ⟨q, 0, none⟩), .slice (some ⟨g5, o5, none⟩) (D.length + 1) c5, .int .i64 ((s.n : Int) + 1)] 55 := by rw [hw6]; exact P5.set 2 _
  have z34 : w3.heap.size ≤ w4.heap.size := c34.size
  have c36 : Chs (fun b => b = p ∨ (Value.slice A D.length c).ownBlock = some b) w3 w6 := ((c34.mono fun b hb => Or.inl hb).trans hcg fun b hb => .inl (.inr hb)).trans c56 fun b hb => .inl (.inl hb)
  have hM : ∀ b, (b = p ∨ (Value.slice A D.length c).ownBlock = some b) → RCM p q g h b := fun b hb => hb.elim .inl fun e => .inr (.inr (.inr (h2.symm.trans e)))
  have hqm : ∀ b, (b = p ∨ (Value.slice A D.length c).ownBlock = some b) → b ≠ q ∧ g ≠ some b := fun b hb => by
    rcases hb with rfl | hb
    · exact ⟨fun e => absurd (kin.ne hpk (by rw [e]; exact j.spc.kin)) (by decide), fun e => absurd (kin.ne hpk (j.spc.gkin e).2) (by decide)⟩
    · exact ⟨fun e => absurd (kin.ne (hh b hb).2 (by rw [e]; exact j.spc.kin)) (by decide), fun e => absurd (kin.ne (hh b hb).2 (j.spc.gkin e).2) (by decide)⟩
  have hg5 : g5 ≠ p := fun e => by
    rcases hx with hx | hx
    · exact hhp (by rw [← e]; exact hx)
    · have := hpk.lt; omega
  refine ⟨⟨⟨RA, rc, some ⟨g5, o5, none⟩, c5, D ++ [(a.w, a.q, ans)], ?_, rfl, h3.stay j.hb c36.size fun b hb hx => c36.block b hb fun e => ?_, ?_, by simp [h5], fun x => ?_⟩, j.spc.far c36 fun b hb => ⟨(j.kinds b (hM b hb)).1, (j.kinds b (hM b hb)).2, (hqm b hb).1, (hqm b hb).2⟩, j.hp, j.rul, j.okr, hok⟩, c36.mono hM, fun b hb => ?_⟩
  · have e1 : (((s.n + 1 : Nat)) : Int) = (s.n : Int) + 1 := by omega
    rw [e1, List.length_append, List.length_singleton]; exact P6
  · rcases hx with hx | hx
    · have := (j.kinds b (hM b e)).1; omega
    · exact (j.kinds b (hM b e)).2 hx
  · rw [List.length_append, List.length_singleton, dnCells_append]
    have : dnCells [(a.w, a.q, ans)] = dnc (a.w, a.q, ans) := by simp [dnCells]
    rw [this]
    exact hW.stay fun b hb => by
      simp only [Value.ownBlock, Option.some.injEq] at hb
      subst hb
      exact c56.block _ (hW.block (g := g5) rfl).2.lt hg5
  · rw [lastN_snoc, h6]
    by_cases e : x = a.w
    · subst e; simp
    · rw [if_neg (fun h => e h.symm)]; exact (if_neg e).symm
  · injection hb with hb
    subst hb
    exact hx.imp (fun e => h2.symm.trans e) fun e => by omega
set_option maxHeartbeats 6400000 in
set_option maxRecDepth 100000 in
theorem rcdo_any (hC : RCp w base p q g h R s) (hn : s.n ≤ 1000000) (a : Ak) (A : Option Addr) (c : Nat) (hcl : a.t.length ≤ c) (hm : c ≤ maxLen) (hok : okL a.t) (hq64 : I64 a.q) (hA : Vin w base A a.t) :
    Calls Tryz.prog 16 #[.pointer (some ⟨p, 0, none⟩), akv a A c] w fun e w' => e = .returned (.tuple #[.string (doS R s a), .int .i64 (doE R s a)]) ∧
      ∃ g' h', RCp w' base p q g' h' R (doC R s a) ∧ Chs (RCM p q g h) w w' ∧ Nwb g g' w.heap.size ∧ Nwb h h' w.heap.size := by
  obtain ⟨W1, hW1⟩ : ∃ W1, W1 = w.alloc (.cells #[.int .i64 a.w, .int .i64 a.q, .int .i64 a.d, .slice A a.t.length c] 38) := ⟨_, rfl⟩
  have hb01 : Below w.heap.size w W1 := by rw [hW1]; exact bal1 _ _
  have B1 : AtB W1 w.heap.size #[.int .i64 a.w, .int .i64 a.q, .int .i64 a.d, .slice A a.t.length c] 38 := by rw [hW1]; exact AtB.new _ _ _
  have hC1 := hC.keep hb01
  have hA1 : Vin W1 base A a.t := hA.below hb01 (Nat.le_refl _) hC.hb
  have k0 : W1.cell? ⟨w.heap.size, 0, none⟩ = some (.int .i64 a.w) := B1.cell rfl
  have k1 : W1.cell? ⟨w.heap.size, 1, none⟩ = some (.int .i64 a.q) := B1.cell rfl
  have k2 : W1.cell? ⟨w.heap.size, 2, none⟩ = some (.int .i64 a.d) := B1.cell rfl
  have k3 : W1.cell? ⟨w.heap.size, 3, none⟩ = some (.slice A a.t.length c) := B1.cell rfl
  have hml : a.t.length ≤ maxLen := Nat.le_trans hcl hm
  have ca : Calls Tryz.prog 30 #[.agg #[.int .i64 a.w, .int .i64 a.q, .int .i64 a.d, .slice A a.t.length c]] W1 fun e w' => e = .returned (.int .i64 (qcE a)) ∧ Below W1.heap.size W1 w' := rask_any a.w a.q a.d a.t A c hml hok W1 hA1.1
  have cl := fun (W : World) (hW : Below W1.heap.size W1 W) => rclast_any (hC1.keep hW) hn a.w
  have HC := Lib.hid hC; have HC1 := Lib.hid hC1; have HB := Lib.hid hb01; have HW := Lib.hid hW1; have HB1 := Lib.hid B1
  by_cases e0 : qcE a = 0
  · obtain ⟨hw, hd, t0, t5, hli, htu⟩ := qcE_zero e0
    obtain ⟨b0, b1⟩ := hC.ok.f0 a.w
    rw [e0] at ca
    obtain ⟨Y, hY⟩ : ∃ Y, Y = s.F a.w := ⟨_, rfl⟩
    rw [← hY] at b0 b1 cl
    obtain ⟨y1, y2⟩ := Y
    simp only at b0 b1 cl
    have CA := Lib.hid ca; have CL := Lib.hid cl
    by_cases ag : agB s a = true
    · have hE := doE_ag (R := R) e0 ag
      rw [hE, doS_ag hE ag, doC_ag ag, ← hY]
      have d12 : (a.q == y1) = true ∧ decide (0 < y1) = true := by
        rw [agB, ← hY, Bool.and_eq_true] at ag
        exact ⟨by simpa using ag.1, ag.2⟩
      obtain ⟨d1, d2⟩ := d12
      clear hE ag hC hC1 hA1 hA hW1 hb01 B1 hw hd t0 t5 hli htu e0 hok hm hml hcl hq64 hY ca cl
      obtain ⟨x, q', d, t⟩ := a
      simp only [akv] at *
      go_enter Tryz.func16, Tryz.ntmps16
      go_wp2_with fail
      rw [← HW.out]
      go_wp2_with (first
        | (go_at_call 30; refine CA.out.mono ?_; rintro e w2 ⟨rfl, hb2⟩; have B2 := HB1.out.below hb2 HB1.out.lt; have j0 : w2.cell? ⟨w.heap.size, 0, none⟩ = some (.int .i64 x) := B2.cell rfl; have HB2 := Lib.hid hb2; clear hb2)
        | (go_at_call 31; refine (CL.out _ HB2.out).mono ?_; rintro e w3 ⟨rfl, hb3⟩; have B3 := B2.below hb3 B2.lt; have l1 : w3.cell? ⟨w.heap.size, 1, none⟩ = some (.int .i64 q') := B3.cell rfl; have HB3 := Lib.hid (bcl HB2.out hb3); clear hb3))
      go_ret2
      exact ⟨rfl, g, h, HC1.out.keep HB3.out, Chs.of_below _ (bcl HB.out HB3.out), Nwb.refl _ _, Nwb.refl _ _⟩
    · rw [Bool.not_eq_true] at ag
      have hnag : (a.q == y1) = false ∨ ((a.q == y1) = true ∧ decide (0 < y1) = false) := by
        rw [agB, ← hY, Bool.and_eq_false_iff] at ag
        cases h1 : a.q == y1 with
        | false => exact .inl rfl
        | true =>
          refine .inr ⟨rfl, ag.elim (fun h => ?_) id⟩
          rw [decide_eq_false_iff_not] at h
          exact absurd (beq_iff_eq.1 h1) h
      by_cases e3 : a.q = y1 + 1
      · have hE := doE_new (R := R) e0 ag (by rw [← hY]; exact e3)
        have hne : (a.q == y1) = false := beq_eq_false_iff_ne.2 (by omega)
        have hq1 : (a.q != y1 + 1) = false := by simp [e3]
        by_cases e4 : nwE R s a = 0
        · have hE0 := hE.trans e4
          rw [hE0, doS_new hE0 ag, doC_new hE0 ag]
          have hmx : R.length ≤ maxLen := by have := (rulE_zero hC.rul).1; unfold maxLen; omega
          have hO := okO_of hC.rul
          obtain ⟨RA, rc, A2, c2, D2, h1, h2, h3, h4, h5, h6⟩ := hC1.there
          have hrls := h3.rls
          have cm := fun (W : World) (hW : Below W1.heap.size W1 W) (T : Option Addr) (C : Nat) (u : List Va) (hT : Vals W T u) => smay_any RA rc R hmx hO a.w a.d T C u W (hrls.below hW (Nat.le_refl _)) hT
          have cg := fun (W : World) (hW : Below W1.heap.size W1 W) => rgetr_any base q g s.L A c a.t hml hok W (hC1.keep hW).spc (hA1.below hW (Nat.le_refl _) hC1.hb).1
          have hva := fun (W : World) (hW : Below W1.heap.size W1 W) => hA1.below hW (Nat.le_refl _) hC1.hb
          have P1' := Lib.hid h1; have HVA := Lib.hid hva
          have cgt := fun (W : World) (hW : Below W1.heap.size W1 W) => rget_any base q g s.L A c a.t hml hok W (hC1.keep hW).spc (hA1.below hW (Nat.le_refl _) hC1.hb).1 true
          have cp := fun (W : World) (hW : Below W1.heap.size W1 W) => rput_any base q g s.L A c a.t hcl hm hok W (hC1.keep hW).spc (hA1.below hW (Nat.le_refl _) hC1.hb)
          have hmid : Cok ⟨nwL s a, s.F, s.n⟩ := hC.ok.mid hok e0
          have hfin := hC.ok.step (R := R) hok
          rw [doC_new hE0 ag] at hfin
          have CM := Lib.hid cm; have CG := Lib.hid cg; have CGT := Lib.hid cgt; have CP := Lib.hid cp; have HMID := Lib.hid hmid; have HFIN := Lib.hid hfin; have HTU := Lib.hid htu; have HE4 := Lib.hid e4
          clear cm cg cgt cp hmid hfin hva hrls hO hmx h1 h2 h3 h4 h5 h6 hE hE0 ag hC hC1 hA1 hA hW1 hb01 B1 hw hd t0 t5 hli htu e0 hok hm hml hcl hq64 hY ca cl e3 e4 hnag
          obtain ⟨x, q', d, t⟩ := a
          simp only [akv] at *
          go_enter Tryz.func16, Tryz.ntmps16
          go_wp2_with fail
          rw [← HW.out]
          go_upto_if 42 with (first
            | (go_at_call 30; refine CA.out.mono ?_; rintro e w2 ⟨rfl, hb2⟩; have B2 := HB1.out.below hb2 HB1.out.lt; have j0 : w2.cell? ⟨w.heap.size, 0, none⟩ = some (.int .i64 x) := B2.cell rfl; have HB2 := Lib.hid hb2; clear hb2)
            | (go_at_call 31; refine (CL.out _ HB2.out).mono ?_; rintro e w3 ⟨rfl, hb3⟩; have B3 := B2.below hb3 B2.lt; have P3 := P1'.out.below (bcl HB2.out hb3) P1'.out.lt; have l0 : w3.cell? ⟨w.heap.size, 0, none⟩ = some (.int .i64 x) := B3.cell rfl; have l1 : w3.cell? ⟨w.heap.size, 1, none⟩ = some (.int .i64 q') := B3.cell rfl; have l2 : w3.cell? ⟨w.heap.size, 2, none⟩ = some (.int .i64 d) := B3.cell rfl; have l3 : w3.cell? ⟨w.heap.size, 3, none⟩ = some (.slice A t.length c) := B3.cell rfl; have p0 : w3.cell? ⟨p, 0, none⟩ = some (.slice RA R.length rc) := P3.cell rfl; have p1 : w3.cell? ⟨p, 1, none⟩ = some (.pointer (some ⟨q, 0, none⟩)) := P3.cell rfl; have hz3 := B3.lt; have hpz3 := P3.lt; have HB3 := Lib.hid (bcl HB2.out hb3); have HP3 := Lib.hid P3; have HBX3 := Lib.hid B3; clear hb3 B3 P3))
          have HNP : Hid (¬ RM q g p) := Lib.hid fun e => by
            rcases e with e | e
            · exact absurd (kin.ne HC1.out.pkin (by rw [e]; exact HC1.out.spc.kin)) (by decide)
            · exact absurd (kin.ne HC1.out.pkin (HC1.out.spc.gkin e).2) (by decide)
          have HNA : Hid (¬ RM q g w.heap.size) := Lib.hid fun e => by
            rcases e with e | e
            · have := HC.out.spc.lt; omega
            · have := (HC.out.spc.gkin e).2.lt; omega
          go_cut [9, 10, 11, 12, 13] (fun s9 _ _ _ _ wx => s9 = .string (nwS s ⟨x, q', d, t⟩) ∧ ∃ g', Hid (RCp wx base p q g' h R ⟨nwL s ⟨x, q', d, t⟩, s.F, s.n⟩) ∧ Hid (Chs (RCM p q g h) W1 wx) ∧ Hid (Nwb g g' W1.heap.size))
          case first =>
            have e4' := HE4.out
            by_cases hd0 : d = 0
            · subst hd0
              have hl : letR R x 0 t = true := by
                apply Classical.byContradiction; intro h
                rw [nwE, if_pos rfl, if_neg h] at e4'; cases e4'
              have cm0 := fun (W : World) (hW : Below W1.heap.size W1 W) => CM.out W hW A c t (HVA.out W hW).1
              simp only [hl] at cm0
              have CM0 := Lib.hid cm0
              have hNS : nwS s ⟨x, q', 0, t⟩ = if s.L.length = 20 then txFull else txOk := if_pos rfl
              have hNL : nwL s ⟨x, q', 0, t⟩ = putL s.L t := if_pos rfl
              have HNL := Lib.hid hNL
              clear cm0 hl hNL
              by_cases h20 : s.L.length = 20
              · have hp : putE s.L t = 4 := by rw [putE, if_neg (by rw [HTU.out rfl]; decide), if_pos h20]
                rw [if_pos h20] at hNS
                have HNS := Lib.hid (show nwS s ⟨x, q', 0, t⟩ = ⟨#[102, 117, 108, 108]⟩ from hNS)
                have cp0 := CP.out
                simp only [hp] at cp0
                have CP0 := Lib.hid cp0
                clear cp0 hNS h20 hp
                go_wp2_with fail
                go_region_held3 (fun w' => w'.cell? ⟨p, 0, none⟩ = some (.slice RA R.length rc) ∧ w'.cell? ⟨w.heap.size, 0, none⟩ = some (.int .i64 x) ∧ w'.cell? ⟨w.heap.size, 3, none⟩ = some (.slice A t.length c)) (first | go_keep | exact ⟨(hb4.cell (p := ⟨p, 0, none⟩) hpz3).trans p0, (hb4.cell (p := ⟨w.heap.size, 0, none⟩) hz3).trans l0, (hb4.cell (p := ⟨w.heap.size, 3, none⟩) hz3).trans l3⟩) ((go_at_call 32; refine (CM0.out _ (bdr HB3.out)).mono ?_; rintro e w4 ⟨rfl, hb4⟩))
                have r1 := (hb4.cell (p := ⟨p, 1, none⟩) hpz3).trans p1
                have m3 := (hb4.cell (p := ⟨w.heap.size, 3, none⟩) hz3).trans l3
                have hz4 : w.heap.size < w4.heap.size := Nat.lt_of_lt_of_le hz3 hb4.size
                have hpz4 : p < w4.heap.size := Nat.lt_of_lt_of_le hpz3 hb4.size
                have HB4 := Lib.hid (bcl (bdr HB3.out) hb4)
                clear hb4 p0 p1 l0 l1 l2 l3 hz3 hpz3
                go_wp2_with fail
                go_region_held3 (fun w' => w'.cell? ⟨p, 1, none⟩ = some (.pointer (some ⟨q, 0, none⟩)) ∧ w'.cell? ⟨w.heap.size, 3, none⟩ = some (.slice A t.length c)) (first | go_keep | exact ⟨(World.cell?_of_block (hk5.block p hpz4 HNP.out)).trans r1, (World.cell?_of_block (hk5.block w.heap.size hz4 HNA.out)).trans m3⟩) ((go_at_call 33; refine (CP0.out _ (bdr HB4.out)).mono ?_; rintro e w5 ⟨rfl, g5, hs5, hk5, hn5⟩))
                go_wp2_with fail
                go_meet
                case rel =>
                  have hsp := HC1.out.keep (bdr HB4.out)
                  refine ⟨by rw [HNS.out], g5, Lib.hid ?_, Lib.hid ?_, Lib.hid ?_⟩
                  · exact (hsp.space hk5 hs5 (by rw [← HNL.out]; exact HMID.out)).to HNL.out.symm
                  · exact (Chs.of_below _ (bdr HB4.out)).trans hk5 fun b hb => .inl (hb.elim (fun e => .inr (.inl e)) fun e => .inr (.inr (.inl e)))
                  · exact fun b hb => (hn5 b hb).imp id fun e => Nat.le_trans (bdr HB4.out).size e
              · have hp : putE s.L t = 0 := by rw [putE, if_neg (by rw [HTU.out rfl]; decide), if_neg h20]
                rw [if_neg h20] at hNS
                have HNS := Lib.hid (show nwS s ⟨x, q', 0, t⟩ = ⟨#[111, 107]⟩ from hNS)
                have cp0 := CP.out
                simp only [hp] at cp0
                have CP0 := Lib.hid cp0
                clear cp0 hNS h20 hp
                go_wp2_with fail
                go_region_held3 (fun w' => w'.cell? ⟨p, 0, none⟩ = some (.slice RA R.length rc) ∧ w'.cell? ⟨w.heap.size, 0, none⟩ = some (.int .i64 x) ∧ w'.cell? ⟨w.heap.size, 3, none⟩ = some (.slice A t.length c)) (first | go_keep | exact ⟨(hb4.cell (p := ⟨p, 0, none⟩) hpz3).trans p0, (hb4.cell (p := ⟨w.heap.size, 0, none⟩) hz3).trans l0, (hb4.cell (p := ⟨w.heap.size, 3, none⟩) hz3).trans l3⟩) ((go_at_call 32; refine (CM0.out _ (bdr HB3.out)).mono ?_; rintro e w4 ⟨rfl, hb4⟩))
                have r1 := (hb4.cell (p := ⟨p, 1, none⟩) hpz3).trans p1
                have m3 := (hb4.cell (p := ⟨w.heap.size, 3, none⟩) hz3).trans l3
                have hz4 : w.heap.size < w4.heap.size := Nat.lt_of_lt_of_le hz3 hb4.size
                have hpz4 : p < w4.heap.size := Nat.lt_of_lt_of_le hpz3 hb4.size
                have HB4 := Lib.hid (bcl (bdr HB3.out) hb4)
                clear hb4 p0 p1 l0 l1 l2 l3 hz3 hpz3
                go_wp2_with fail
                go_region_held3 (fun w' => w'.cell? ⟨p, 1, none⟩ = some (.pointer (some ⟨q, 0, none⟩)) ∧ w'.cell? ⟨w.heap.size, 3, none⟩ = some (.slice A t.length c)) (first | go_keep | exact ⟨(World.cell?_of_block (hk5.block p hpz4 HNP.out)).trans r1, (World.cell?_of_block (hk5.block w.heap.size hz4 HNA.out)).trans m3⟩) ((go_at_call 33; refine (CP0.out _ (bdr HB4.out)).mono ?_; rintro e w5 ⟨rfl, g5, hs5, hk5, hn5⟩))
                go_wp2_with fail
                go_meet
                case rel =>
                  have hsp := HC1.out.keep (bdr HB4.out)
                  refine ⟨by rw [HNS.out], g5, Lib.hid ?_, Lib.hid ?_, Lib.hid ?_⟩
                  · exact (hsp.space hk5 hs5 (by rw [← HNL.out]; exact HMID.out)).to HNL.out.symm
                  · exact (Chs.of_below _ (bdr HB4.out)).trans hk5 fun b hb => .inl (hb.elim (fun e => .inr (.inl e)) fun e => .inr (.inr (.inl e)))
                  · exact fun b hb => (hn5 b hb).imp id fun e => Nat.le_trans (bdr HB4.out).size e
            · have qd : (d == 0) = false := beq_eq_false_iff_ne.2 hd0
              have cg0 := CG.out
              by_cases hf : finE t s.L = 0
              · have hl : letR R x d (rT t s.L) = true := by
                  apply Classical.byContradiction; intro h
                  rw [nwE, if_neg hd0, if_neg (by simp [hf]), if_neg h] at e4'; cases e4'
                have cm0 := fun (W : World) (hW : Below W1.heap.size W1 W) (T : Option Addr) (C : Nat) (hT : Vals W T (rT t s.L)) => CM.out W hW T C _ hT
                simp only [hl] at cm0
                simp only [hf] at cg0
                have hmem := (rT_mem HC1.out.ok hf).2
                obtain ⟨_, hr5, hrg⟩ := rgt_of (tuE_zero hmem).1
                have cln := fun (W : World) (T : Option Addr) (C : Nat) (hT : Vals W T (rT t s.L)) => rline_any T C (rT t s.L) (by omega) hrg W hT
                have hNS : nwS s ⟨x, q', d, t⟩ = lin (rT t s.L) := by rw [nwS, if_neg hd0, if_neg (by simp [hf])]
                have HNS := Lib.hid hNS
                have CM0 := Lib.hid cm0; have CG0 := Lib.hid cg0; have CLN := Lib.hid cln
                clear cm0 cg0 hl hmem hr5 hrg cln hNS
                by_cases hd2 : d = 2
                · subst hd2
                  have hNL : nwL s ⟨x, q', 2, t⟩ = rL t s.L := by rw [nwL, if_neg hd0, if_pos rfl]
                  have HNL := Lib.hid hNL
                  clear hNL hf e4'
                  generalize lin (rT t s.L) = tx at *
                  generalize rT t s.L = rt at *
                  go_wp2_with fail
                  go_region_held3 (fun w' => w'.cell? ⟨p, 1, none⟩ = some (.pointer (some ⟨q, 0, none⟩)) ∧ w'.cell? ⟨w.heap.size, 3, none⟩ = some (.slice A t.length c)) (first | go_keep | exact ⟨(hb4.cell (p := ⟨p, 1, none⟩) hpz3).trans p1, (hb4.cell (p := ⟨w.heap.size, 3, none⟩) hz3).trans l3⟩) ((go_at_call 34; refine (CG0.out _ (bdr HB3.out)).mono ?_; rintro e w4 ⟨B, C, rfl, hv4, hb4⟩))
                  have r0 := (hb4.cell (p := ⟨p, 0, none⟩) hpz3).trans p0
                  have r1 := (hb4.cell (p := ⟨p, 1, none⟩) hpz3).trans p1
                  have m0 := (hb4.cell (p := ⟨w.heap.size, 0, none⟩) hz3).trans l0
                  have m2 := (hb4.cell (p := ⟨w.heap.size, 2, none⟩) hz3).trans l2
                  have m3 := (hb4.cell (p := ⟨w.heap.size, 3, none⟩) hz3).trans l3
                  have hz4 : w.heap.size < w4.heap.size := Nat.lt_of_lt_of_le hz3 hb4.size
                  have hpz4 : p < w4.heap.size := Nat.lt_of_lt_of_le hpz3 hb4.size
                  have HV4 := Lib.hid hv4; have HB4 := Lib.hid (bcl (bdr HB3.out) hb4)
                  clear hb4 hv4 p0 p1 l0 l1 l2 l3 hz3 hpz3
                  go_wp2_with fail
                  go_region_held3 (fun w' => w'.cell? ⟨p, 0, none⟩ = some (.slice RA R.length rc) ∧ w'.cell? ⟨w.heap.size, 0, none⟩ = some (.int .i64 x) ∧ w'.cell? ⟨w.heap.size, 2, none⟩ = some (.int .i64 2)) (first | go_keep | exact ⟨(hb5.cell (p := ⟨p, 0, none⟩) hpz4).trans r0, (hb5.cell (p := ⟨w.heap.size, 0, none⟩) hz4).trans m0, (hb5.cell (p := ⟨w.heap.size, 2, none⟩) hz4).trans m2⟩) ((go_at_call 32; refine (CM0.out _ (bdr HB4.out) _ _ (Sl.drew HV4.out)).mono ?_; rintro e w5 ⟨rfl, hb5⟩))
                  have r1 := (hb5.cell (p := ⟨p, 1, none⟩) hpz4).trans r1
                  have m2 := (hb5.cell (p := ⟨w.heap.size, 2, none⟩) hz4).trans m2
                  have m3 := (hb5.cell (p := ⟨w.heap.size, 3, none⟩) hz4).trans m3
                  have hz5 : w.heap.size < w5.heap.size := Nat.lt_of_lt_of_le hz4 hb5.size
                  have hpz5 : p < w5.heap.size := Nat.lt_of_lt_of_le hpz4 hb5.size
                  have HB5 := Lib.hid (bcl (bdr HB4.out) hb5)
                  have HV5 := Lib.hid ((Sl.drew HV4.out).below hb5 (Nat.le_refl _))
                  clear hb5 r0 m0 hpz4 hz4
                  go_wp2_with (go_at_call 35; refine (CLN.out _ _ _ HV5.out).mono ?_; rintro e w6 ⟨rfl, hb6⟩; have m2' := (hb6.cell (p := ⟨w.heap.size, 2, none⟩) hz5).trans m2)
                  have CT := Lib.hid CGT.out
                  have r1 := (hb6.cell (p := ⟨p, 1, none⟩) hpz5).trans r1
                  have m3 := (hb6.cell (p := ⟨w.heap.size, 3, none⟩) hz5).trans m3
                  have hz6 : w.heap.size < w6.heap.size := Nat.lt_of_lt_of_le hz5 hb6.size
                  have hpz6 : p < w6.heap.size := Nat.lt_of_lt_of_le hpz5 hb6.size
                  have HB6 := Lib.hid (bcl HB5.out hb6)
                  clear hb6 hpz5 hz5
                  go_region_held3 (fun w' => w'.cell? ⟨p, 1, none⟩ = some (.pointer (some ⟨q, 0, none⟩)) ∧ w'.cell? ⟨w.heap.size, 3, none⟩ = some (.slice A t.length c)) (first | go_keep | exact ⟨(World.cell?_of_block (hk5.block p hpz6 HNP.out)).trans r1, (World.cell?_of_block (hk5.block w.heap.size hz6 HNA.out)).trans m3⟩) ((go_at_call 34; refine (CT.out _ (bdr HB6.out)).mono ?_; rintro e w7 ⟨B7, C7, rfl, _, g5, hs5, hk5, hn5⟩))
                  go_wp2_with fail
                  go_meet
                  case rel =>
                    have hsp := HC1.out.keep (bdr HB6.out)
                    refine ⟨by rw [HNS.out], g5, Lib.hid ?_, Lib.hid ?_, Lib.hid ?_⟩
                    · rw [if_pos (by trivial)] at hs5
                      exact (hsp.space hk5 hs5 (by rw [← HNL.out]; exact HMID.out)).to HNL.out.symm
                    · exact (Chs.of_below _ (bdr HB6.out)).trans hk5 fun b hb => .inl (hb.elim (fun e => .inr (.inl e)) fun e => .inr (.inr (.inl e)))
                    · exact fun b hb => (hn5 b hb).imp id fun e => Nat.le_trans (bdr HB6.out).size e
                · have hNL : nwL s ⟨x, q', d, t⟩ = s.L := by rw [nwL, if_neg hd0, if_neg hd2]
                  have HNL := Lib.hid hNL
                  have q2 : (d == 2) = false := beq_eq_false_iff_ne.2 hd2
                  clear hNL hf e4' hd2
                  generalize lin (rT t s.L) = tx at *
                  generalize rT t s.L = rt at *
                  go_wp2_with fail
                  go_region_held3 (fun w' => w'.cell? ⟨p, 1, none⟩ = some (.pointer (some ⟨q, 0, none⟩)) ∧ w'.cell? ⟨w.heap.size, 3, none⟩ = some (.slice A t.length c)) (first | go_keep | exact ⟨(hb4.cell (p := ⟨p, 1, none⟩) hpz3).trans p1, (hb4.cell (p := ⟨w.heap.size, 3, none⟩) hz3).trans l3⟩) ((go_at_call 34; refine (CG0.out _ (bdr HB3.out)).mono ?_; rintro e w4 ⟨B, C, rfl, hv4, hb4⟩))
                  have r0 := (hb4.cell (p := ⟨p, 0, none⟩) hpz3).trans p0
                  have r1 := (hb4.cell (p := ⟨p, 1, none⟩) hpz3).trans p1
                  have m0 := (hb4.cell (p := ⟨w.heap.size, 0, none⟩) hz3).trans l0
                  have m2 := (hb4.cell (p := ⟨w.heap.size, 2, none⟩) hz3).trans l2
                  have m3 := (hb4.cell (p := ⟨w.heap.size, 3, none⟩) hz3).trans l3
                  have hz4 : w.heap.size < w4.heap.size := Nat.lt_of_lt_of_le hz3 hb4.size
                  have hpz4 : p < w4.heap.size := Nat.lt_of_lt_of_le hpz3 hb4.size
                  have HV4 := Lib.hid hv4; have HB4 := Lib.hid (bcl (bdr HB3.out) hb4)
                  clear hb4 hv4 p0 p1 l0 l1 l2 l3 hz3 hpz3
                  go_wp2_with fail
                  go_region_held3 (fun w' => w'.cell? ⟨p, 0, none⟩ = some (.slice RA R.length rc) ∧ w'.cell? ⟨w.heap.size, 0, none⟩ = some (.int .i64 x) ∧ w'.cell? ⟨w.heap.size, 2, none⟩ = some (.int .i64 d)) (first | go_keep | exact ⟨(hb5.cell (p := ⟨p, 0, none⟩) hpz4).trans r0, (hb5.cell (p := ⟨w.heap.size, 0, none⟩) hz4).trans m0, (hb5.cell (p := ⟨w.heap.size, 2, none⟩) hz4).trans m2⟩) ((go_at_call 32; refine (CM0.out _ (bdr HB4.out) _ _ (Sl.drew HV4.out)).mono ?_; rintro e w5 ⟨rfl, hb5⟩))
                  have r1 := (hb5.cell (p := ⟨p, 1, none⟩) hpz4).trans r1
                  have m2 := (hb5.cell (p := ⟨w.heap.size, 2, none⟩) hz4).trans m2
                  have m3 := (hb5.cell (p := ⟨w.heap.size, 3, none⟩) hz4).trans m3
                  have hz5 : w.heap.size < w5.heap.size := Nat.lt_of_lt_of_le hz4 hb5.size
                  have hpz5 : p < w5.heap.size := Nat.lt_of_lt_of_le hpz4 hb5.size
                  have HB5 := Lib.hid (bcl (bdr HB4.out) hb5)
                  have HV5 := Lib.hid ((Sl.drew HV4.out).below hb5 (Nat.le_refl _))
                  clear hb5 r0 m0 hpz4 hz4
                  go_wp2_with (go_at_call 35; refine (CLN.out _ _ _ HV5.out).mono ?_; rintro e w6 ⟨rfl, hb6⟩; have m2' := (hb6.cell (p := ⟨w.heap.size, 2, none⟩) hz5).trans m2)
                  go_meet
                  case rel =>
                    have hsp := HC1.out.keep (bcl HB5.out hb6)
                    refine ⟨by rw [HNS.out], g, Lib.hid ?_, Lib.hid (Chs.of_below _ (bcl HB5.out hb6)), Lib.hid (Nwb.refl _ _)⟩
                    exact hsp.to HNL.out.symm
              · have hNS : nwS s ⟨x, q', d, t⟩ = ⟨#[110, 111, 110, 101]⟩ := by rw [nwS, if_neg hd0, if_pos hf]; rfl
                have hNL : nwL s ⟨x, q', d, t⟩ = s.L := by
                  rw [nwL, if_neg hd0]
                  split
                  · exact if_neg hf
                  · rfl
                have qf : (finE t s.L != 0) = true := bne_iff_ne.2 hf
                have HNS := Lib.hid hNS; have HNL := Lib.hid hNL
                generalize finE t s.L = E at *
                generalize rT t s.L = rt at *
                have CG0 := Lib.hid cg0
                clear cg0 hNS hNL hf e4'
                go_wp2_with fail
                go_region_held3 (fun w' => w'.cell? ⟨p, 1, none⟩ = some (.pointer (some ⟨q, 0, none⟩)) ∧ w'.cell? ⟨w.heap.size, 3, none⟩ = some (.slice A t.length c)) (first | go_keep | exact ⟨(hb4.cell (p := ⟨p, 1, none⟩) hpz3).trans p1, (hb4.cell (p := ⟨w.heap.size, 3, none⟩) hz3).trans l3⟩) ((go_at_call 34; refine (CG0.out _ (bdr HB3.out)).mono ?_; rintro e w4 ⟨B, C, rfl, hv4, hb4⟩))
                have r0 := (hb4.cell (p := ⟨p, 0, none⟩) hpz3).trans p0
                have r1 := (hb4.cell (p := ⟨p, 1, none⟩) hpz3).trans p1
                have m0 := (hb4.cell (p := ⟨w.heap.size, 0, none⟩) hz3).trans l0
                have m2 := (hb4.cell (p := ⟨w.heap.size, 2, none⟩) hz3).trans l2
                have m3 := (hb4.cell (p := ⟨w.heap.size, 3, none⟩) hz3).trans l3
                have hz4 : w.heap.size < w4.heap.size := Nat.lt_of_lt_of_le hz3 hb4.size
                have hpz4 : p < w4.heap.size := Nat.lt_of_lt_of_le hpz3 hb4.size
                have HV4 := Lib.hid hv4; have HB4 := Lib.hid (bcl (bdr HB3.out) hb4)
                clear hb4 hv4 p0 p1 l0 l1 l2 l3 hz3 hpz3
                go_wp2_with fail
                go_meet
                case rel => exact ⟨by rw [HNS.out], g, Lib.hid ((HC1.out.keep HB4.out).to HNL.out.symm), Lib.hid (Chs.of_below _ HB4.out), Lib.hid (Nwb.refl _ _)⟩
          case rest =>
            obtain ⟨rfl, g5, HR5, HK5, HN5⟩ := hcut
            obtain ⟨w5, hw⟩ : ∃ w5 : World, w5 = wc := ⟨_, rfl⟩
            subst hw
            obtain ⟨RA5, rc5, A5, c5, D, t1, t2, t3, t4, t5, t6⟩ := HR5.out.there
            have hnw : ¬ RCM p q g h w.heap.size := fun e => by have := HC.out.lts _ e; omega
            have B5 := HB1.out.chs HK5.out hnw
            have p3 : w5.cell? ⟨p, 3, none⟩ = some (.int .i64 s.n) := t1.cell rfl
            have f3 := t1.frozen 3
            have hpz5 := t1.lt
            have hn1 : (s.n : Int) ≤ 1000000 := by omega
            have HT1 := Lib.hid t1; have HT2 := Lib.hid t2; have HT3 := Lib.hid t3; have HT4 := Lib.hid t4; have HT5 := Lib.hid t5; have HT6 := Lib.hid t6; have HB5 := Lib.hid B5
            have hD : D.length ≤ 1000000 := by simp only at t5; omega
            clear t1 t2 t3 t4 t5 t6 B5 hnw
            go_upto_region 27 with fail
            obtain ⟨w6, hw6⟩ : ∃ w6, w6 = w5.setCell ⟨p, 3, none⟩ (.int .i64 ((s.n : Int) + 1)) := ⟨_, rfl⟩
            try rw [← hw6]
            have c56 : Chs (fun b => b = p) w5 w6 := by rw [hw6]; exact Chs.set w5 ⟨p, 3, none⟩ _
            have P6 : AtB w6 p #[.slice RA5 R.length rc5, .pointer (some ⟨q, 0, none⟩), .slice A5 D.length c5, .int .i64 ((s.n : Int) + 1)] 55 := by rw [hw6]; exact HT1.out.set 3 _
            have hpw : w.heap.size ≠ p := fun e => by have := HC.out.pkin.lt; omega
            have B6 := HB5.out.chs c56 hpw
            have hgp : ∀ b, (Value.slice A5 D.length c5).ownBlock = some b → b ≠ p := fun b hb e => absurd (kin.ne (HT4.out.block hb).2 (show kin w5 b 55 by rw [e]; exact HT1.out.kin)) (by decide)
            have hgw : ¬ (Value.slice A5 D.length c5).ownBlock = some w.heap.size := fun e => absurd (kin.ne (HT4.out.block e).2 HB5.out.kin) (by decide)
            have W6 : Win w6 base 83 3 (.slice A5 D.length c5) D.length (dnCells D) := HT4.out.stay fun b hb => c56.block b (HT4.out.block hb).2.lt (hgp b hb)
            have p2 : w6.cell? ⟨p, 2, none⟩ = some (.slice A5 D.length c5) := P6.cell rfl
            have hpz6 := P6.lt
            have e0 : w6.cell? ⟨w.heap.size, 0, none⟩ = some (.int .i64 x) := B6.cell rfl
            have e1 : w6.cell? ⟨w.heap.size, 1, none⟩ = some (.int .i64 q') := B6.cell rfl
            have hwz6 := B6.lt
            have hbs6 : base ≤ w6.heap.size := Nat.le_trans HR5.out.hb c56.size
            have HP6 := Lib.hid P6; have HB6 := Lib.hid B6; have HW6 := Lib.hid W6; have HC56 := Lib.hid c56; have HGP := Lib.hid hgp; have HGW := Lib.hid hgw; have HWE := Lib.hid hw6; have HBS6 := Lib.hid hbs6
            clear p3 f3 hpz5 c56 P6 B6 W6 hgp hgw hw6 hbs6 hpw
            go_region_law (refine step_append_win rfl _ _ 53 rfl base 83 _ 3 32 Tryz.underlying53 infoDone rfl (by decide) (.slice A5 D.length c5) D.length (dnCells D) rfl (HW6.out.keep (by first | exact bal (bdr (Below.refl _ _)) _ | exact bdr (bal (Below.refl _ _) _) | exact bal (Below.refl _ _) _)) w6.heap.size [.int .i64 x, .int .i64 q', .string (nwS s ⟨x, q', d, t⟩)] rfl rfl (news_at _ #[.int .i64 x, .int .i64 q', .string (nwS s ⟨x, q', d, t⟩)] _) (by simp [Value.oneCell']) hD (by decide) (le_al HBS6.out _) ?_; intro g7 o7 c7 w7 hW7 hg7 hx7; have hcg : Chs (fun b => (Value.slice A5 D.length c5).ownBlock = some b) w6 w7 := (Chs.of_below _ (by first | exact bal (bdr (Below.refl _ _)) _ | exact bdr (bal (Below.refl _ _) _) | exact bal (Below.refl _ _) _)).trans (Chs.grown hg7) (fun b hb => .inl hb); have P7 := HP6.out.chs hcg (fun e => HGP.out _ e rfl); have p7 := P7.cell (i := 2) rfl; have f7 := P7.frozen 2; have HCG := Lib.hid hcg; have HP7 := Lib.hid P7; have HW7 := Lib.hid hW7; have HX7 := Lib.hid hx7; clear P7 hW7 hg7 hx7 hcg)
            all_goals
              go_wp2_with fail
              go_ret2
              obtain ⟨r1, r2, r3⟩ := RCp.done (n := 0) (a := ⟨x, q', d, t⟩) HR5.out HT1.out HT2.out HT3.out HT5.out HT6.out HWE.out HCG.out HW7.out (by have h := HX7.out; simp at h; exact h.imp id fun h => by omega) rfl HFIN.out
              have k15 := HK5.out.trans (M' := RCM p q g5 h) r2 (fun b hb => by
                rcases hb with hb | hb | hb | hb
                · exact .inl (.inl hb)
                · exact .inl (.inr (.inl hb))
                · exact (HN5.out b hb).imp (fun e => .inr (.inr (.inl e))) id
                · exact .inl (.inr (.inr (.inr hb))))
              refine ⟨rfl, g5, some g7, r1, (Chs.of_below _ HB.out).trans k15 (fun b hb => .inl hb), fun b hb => (HN5.out b hb).imp id fun e => Nat.le_trans HB.out.size e, fun b hb => (r3 b hb).imp id fun e => Nat.le_trans HB.out.size (Nat.le_trans HK5.out.size e)⟩
        · skip
          have hmx : R.length ≤ maxLen := by have := (rulE_zero hC.rul).1; unfold maxLen; omega
          have hO := okO_of hC.rul
          obtain ⟨RA, rc, A2, c2, D2, h1, h2, h3, h4, h5, h6⟩ := hC1.there
          have hrls := h3.rls
          have cm := fun (W : World) (hW : Below W1.heap.size W1 W) (T : Option Addr) (C : Nat) (u : List Va) (hT : Vals W T u) => smay_any RA rc R hmx hO a.w a.d T C u W (hrls.below hW (Nat.le_refl _)) hT
          have cg := fun (W : World) (hW : Below W1.heap.size W1 W) => rgetr_any base q g s.L A c a.t hml hok W (hC1.keep hW).spc (hA1.below hW (Nat.le_refl _) hC1.hb).1
          have hva := fun (W : World) (hW : Below W1.heap.size W1 W) => hA1.below hW (Nat.le_refl _) hC1.hb
          have P1' := Lib.hid h1; have HVA := Lib.hid hva
          have hE8 : nwE R s a = 8 := by
            unfold nwE at e4 ⊢
            split
            · rename_i hd0; rw [if_pos hd0] at e4; split <;> simp_all
            · rename_i hd0; rw [if_neg hd0] at e4
              split
              · rename_i hf; rw [if_pos hf] at e4; exact absurd rfl e4
              · rename_i hf; rw [if_neg hf] at e4; split <;> simp_all
          have hE0 : doE R s a = 8 := hE.trans hE8
          rw [hE0, doS_no (by rw [hE0]; decide), doC_no (by rw [hE0]; decide)]
          by_cases hd0 : a.d = 0
          · have hl : letR R a.w a.d a.t = false := by
              rw [← Bool.not_eq_true]; intro h
              rw [nwE, if_pos hd0, if_pos h] at hE8; cases hE8
            have cm0 := fun (W : World) (hW : Below W1.heap.size W1 W) => cm W hW A c a.t (hva W hW).1
            rw [hl, hd0] at cm0
            have CM0 := Lib.hid cm0
            clear cm0 cm cg hva hrls hO hmx h1 h2 h3 h4 h5 h6 hl hE hE8 hE0 ag hC hC1 hA1 hA hW1 hb01 B1 hw hd t0 t5 hli htu e0 hok hm hml hcl hq64 hY ca cl e3 e4 hnag
            obtain ⟨x, q', d, t⟩ := a
            simp only [akv] at *
            subst hd0
            go_enter Tryz.func16, Tryz.ntmps16
            go_wp2_with fail
            rw [← HW.out]
            go_wp2_with (first
            | (go_at_call 30; refine CA.out.mono ?_; rintro e w2 ⟨rfl, hb2⟩; have B2 := HB1.out.below hb2 HB1.out.lt; have j0 : w2.cell? ⟨w.heap.size, 0, none⟩ = some (.int .i64 x) := B2.cell rfl; have HB2 := Lib.hid hb2; clear hb2)
            | (go_at_call 31; refine (CL.out _ HB2.out).mono ?_; rintro e w3 ⟨rfl, hb3⟩; have B3 := B2.below hb3 B2.lt; have P3 := P1'.out.below (bcl HB2.out hb3) P1'.out.lt; have l0 : w3.cell? ⟨w.heap.size, 0, none⟩ = some (.int .i64 x) := B3.cell rfl; have l1 : w3.cell? ⟨w.heap.size, 1, none⟩ = some (.int .i64 q') := B3.cell rfl; have l2 : w3.cell? ⟨w.heap.size, 2, none⟩ = some (.int .i64 0) := B3.cell rfl; have l3 : w3.cell? ⟨w.heap.size, 3, none⟩ = some (.slice A t.length c) := B3.cell rfl; have p0 : w3.cell? ⟨p, 0, none⟩ = some (.slice RA R.length rc) := P3.cell rfl; have p1 : w3.cell? ⟨p, 1, none⟩ = some (.pointer (some ⟨q, 0, none⟩)) := P3.cell rfl; have hz3 := B3.lt; have hpz3 := P3.lt; have HB3 := Lib.hid (bcl HB2.out hb3); have HP3 := Lib.hid P3; have HBX3 := Lib.hid B3; clear hb3 B3 P3))
            go_region_held3 (fun w' => w'.cell? ⟨p, 0, none⟩ = some (.slice RA R.length rc) ∧ w'.cell? ⟨w.heap.size, 0, none⟩ = some (.int .i64 x) ∧ w'.cell? ⟨w.heap.size, 3, none⟩ = some (.slice A t.length c)) (first | go_keep | exact ⟨(hb4.cell (p := ⟨p, 0, none⟩) hpz3).trans p0, (hb4.cell (p := ⟨w.heap.size, 0, none⟩) hz3).trans l0, (hb4.cell (p := ⟨w.heap.size, 3, none⟩) hz3).trans l3⟩) ((go_at_call 32; refine (CM0.out _ (bdr HB3.out)).mono ?_; rintro e w4 ⟨rfl, hb4⟩))
            go_wp2_with fail
            go_ret2
            have hbf := bcl (bdr HB3.out) hb4
            exact ⟨rfl, g, h, HC1.out.keep hbf, Chs.of_below _ (bcl HB.out hbf), Nwb.refl _ _, Nwb.refl _ _⟩
          · have hf0 : finE a.t s.L = 0 := by
              apply Classical.byContradiction; intro hf
              rw [nwE, if_neg hd0, if_pos hf] at hE8; cases hE8
            have hl : letR R a.w a.d (rT a.t s.L) = false := by
              rw [← Bool.not_eq_true]; intro h
              rw [nwE, if_neg hd0, if_neg (by simp [hf0]), if_pos h] at hE8; cases hE8
            have cm0 := fun (W : World) (hW : Below W1.heap.size W1 W) (T : Option Addr) (C : Nat) (hT : Vals W T (rT a.t s.L)) => cm W hW T C _ hT
            rw [hl] at cm0
            have cg0 := cg
            rw [hf0] at cg0
            have qd : (a.d == 0) = false := beq_eq_false_iff_ne.2 hd0
            have CM0 := Lib.hid cm0; have CG0 := Lib.hid cg0
            generalize rT a.t s.L = rt at *
            clear cm0 cg0 cm cg hva hrls hO hmx h1 h2 h3 h4 h5 h6 hl hE hE8 hE0 ag hC hC1 hA1 hA hW1 hb01 B1 hw hd t0 t5 hli htu e0 hok hm hml hcl hq64 hY ca cl e3 e4 hnag hd0 hf0
            obtain ⟨x, q', d, t⟩ := a
            simp only [akv] at *
            go_enter Tryz.func16, Tryz.ntmps16
            go_wp2_with fail
            rw [← HW.out]
            go_wp2_with (first
            | (go_at_call 30; refine CA.out.mono ?_; rintro e w2 ⟨rfl, hb2⟩; have B2 := HB1.out.below hb2 HB1.out.lt; have j0 : w2.cell? ⟨w.heap.size, 0, none⟩ = some (.int .i64 x) := B2.cell rfl; have HB2 := Lib.hid hb2; clear hb2)
            | (go_at_call 31; refine (CL.out _ HB2.out).mono ?_; rintro e w3 ⟨rfl, hb3⟩; have B3 := B2.below hb3 B2.lt; have P3 := P1'.out.below (bcl HB2.out hb3) P1'.out.lt; have l0 : w3.cell? ⟨w.heap.size, 0, none⟩ = some (.int .i64 x) := B3.cell rfl; have l1 : w3.cell? ⟨w.heap.size, 1, none⟩ = some (.int .i64 q') := B3.cell rfl; have l2 : w3.cell? ⟨w.heap.size, 2, none⟩ = some (.int .i64 d) := B3.cell rfl; have l3 : w3.cell? ⟨w.heap.size, 3, none⟩ = some (.slice A t.length c) := B3.cell rfl; have p0 : w3.cell? ⟨p, 0, none⟩ = some (.slice RA R.length rc) := P3.cell rfl; have p1 : w3.cell? ⟨p, 1, none⟩ = some (.pointer (some ⟨q, 0, none⟩)) := P3.cell rfl; have hz3 := B3.lt; have hpz3 := P3.lt; have HB3 := Lib.hid (bcl HB2.out hb3); have HP3 := Lib.hid P3; have HBX3 := Lib.hid B3; clear hb3 B3 P3))
            go_region_held3 (fun w' => w'.cell? ⟨p, 1, none⟩ = some (.pointer (some ⟨q, 0, none⟩)) ∧ w'.cell? ⟨w.heap.size, 3, none⟩ = some (.slice A t.length c)) (first | go_keep | exact ⟨(hb4.cell (p := ⟨p, 1, none⟩) hpz3).trans p1, (hb4.cell (p := ⟨w.heap.size, 3, none⟩) hz3).trans l3⟩) ((go_at_call 34; refine (CG0.out _ (bdr HB3.out)).mono ?_; rintro e w4 ⟨B, C, rfl, hv4, hb4⟩))
            have r0 := (hb4.cell (p := ⟨p, 0, none⟩) hpz3).trans p0
            have r1 := (hb4.cell (p := ⟨p, 1, none⟩) hpz3).trans p1
            have m0 := (hb4.cell (p := ⟨w.heap.size, 0, none⟩) hz3).trans l0
            have m2 := (hb4.cell (p := ⟨w.heap.size, 2, none⟩) hz3).trans l2
            have m3 := (hb4.cell (p := ⟨w.heap.size, 3, none⟩) hz3).trans l3
            have hz4 : w.heap.size < w4.heap.size := Nat.lt_of_lt_of_le hz3 hb4.size
            have hpz4 : p < w4.heap.size := Nat.lt_of_lt_of_le hpz3 hb4.size
            have HV4 := Lib.hid hv4; have HB4 := Lib.hid (bcl (bdr HB3.out) hb4)
            clear hb4 hv4 p0 p1 l0 l1 l2 l3 hz3 hpz3
            go_wp2_with fail
            go_region_held3 (fun w' => w'.cell? ⟨p, 0, none⟩ = some (.slice RA R.length rc) ∧ w'.cell? ⟨w.heap.size, 0, none⟩ = some (.int .i64 x) ∧ w'.cell? ⟨w.heap.size, 2, none⟩ = some (.int .i64 d)) (first | go_keep | exact ⟨(hb5.cell (p := ⟨p, 0, none⟩) hpz4).trans r0, (hb5.cell (p := ⟨w.heap.size, 0, none⟩) hz4).trans m0, (hb5.cell (p := ⟨w.heap.size, 2, none⟩) hz4).trans m2⟩) ((go_at_call 32; refine (CM0.out _ (bdr HB4.out) _ _ (Sl.drew HV4.out)).mono ?_; rintro e w5 ⟨rfl, hb5⟩))
            go_wp2_with fail
            go_ret2
            have hbf := bcl (bdr HB4.out) hb5
            exact ⟨rfl, g, h, HC1.out.keep hbf, Chs.of_below _ (bcl HB.out hbf), Nwb.refl _ _, Nwb.refl _ _⟩
      · have hE := doE_seq (R := R) e0 ag (by rw [← hY]; exact e3)
        rw [hE, doS_no (by rw [hE]; decide), doC_no (by rw [hE]; decide)]
        have hq1 : (a.q != y1 + 1) = true := bne_iff_ne.2 e3
        clear hE ag hC hC1 hA1 hA hW1 hb01 B1 hw hd t0 t5 hli htu e0 hok hm hml hcl hq64 hY ca cl e3
        obtain ⟨x, q', d, t⟩ := a
        simp only [akv] at *
        rcases hnag with x1 | ⟨x1, x2⟩
        all_goals
          go_enter Tryz.func16, Tryz.ntmps16
          go_wp2_with fail
          rw [← HW.out]
          go_wp2_with (first
            | (go_at_call 30; refine CA.out.mono ?_; rintro e w2 ⟨rfl, hb2⟩; have B2 := HB1.out.below hb2 HB1.out.lt; have j0 : w2.cell? ⟨w.heap.size, 0, none⟩ = some (.int .i64 x) := B2.cell rfl; have HB2 := Lib.hid hb2; clear hb2)
            | (go_at_call 31; refine (CL.out _ HB2.out).mono ?_; rintro e w3 ⟨rfl, hb3⟩; have B3 := B2.below hb3 B2.lt; have l1 : w3.cell? ⟨w.heap.size, 1, none⟩ = some (.int .i64 q') := B3.cell rfl; have HB3 := Lib.hid (bcl HB2.out hb3); clear hb3))
          go_ret2
          exact ⟨rfl, g, h, HC1.out.keep HB3.out, Chs.of_below _ (bcl HB.out HB3.out), Nwb.refl _ _, Nwb.refl _ _⟩
  · have hE := doE_bad (R := R) (s := s) e0
    have hE0 : doE R s a ≠ 0 := by rw [hE]; exact e0
    rw [doS_no hE0, doC_no hE0, hE]
    have hq1 : (qcE a != 0) = true := bne_iff_ne.2 e0
    generalize qcE a = E at *
    have CA := Lib.hid ca
    clear ca cl hE hE0 e0 hC hC1 hA1 hA hW1 hb01 B1 hok hm hml hcl hq64
    obtain ⟨x, q', d, t⟩ := a
    simp only [akv] at *
    go_enter Tryz.func16, Tryz.ntmps16
    go_wp2_with fail
    rw [← HW.out]
    go_wp2_with (go_at_call 30; refine CA.out.mono ?_; rintro e w2 ⟨rfl, hb2⟩)
    go_ret2
    exact ⟨rfl, g, h, HC1.out.keep hb2, Chs.of_below _ (bcl HB.out hb2), Nwb.refl _ _, Nwb.refl _ _⟩
end
end Go.Proofs.YtfelefkmbbfdjaaGreatDoor
