/- A queue beside a window of asks of the law's own. -/
import Derived.Test.YthpemlhlgjdnkaaDoorQuePop
import Derived.Test.YthpemlhlgjdnkaaDoorDoor
namespace Go.Proofs.YthpemlhlgjdnkaaDoor
open Go.ChangeShapes Go.WideShapes Go.ChangeAt Go.RowKit Go.Maps Go.WideMaps
set_option linter.unusedVariables false

theorem axCells_length (X : List Ax) : (axCells X).length = X.length * 4 := by
  induction X with
  | nil => rfl
  | cons x X ih => rw [show axCells (x :: X) = axv x ++ axCells X from rfl, List.length_append, ih]; simp [axv]; omega
def ax (X : List Ax) (i : Nat) : Ax := X.getD i (Ak.zero, none, 0)
theorem ax_mem {X : List Ax} {i : Nat} (h : i < X.length) : ax X i ∈ X := by
  simp only [ax, List.getD_eq_getElem?_getD, List.getElem?_eq_getElem h, Option.getD_some]; exact List.getElem_mem h
theorem ak_map {X : List Ax} {i : Nat} (h : i < X.length) : ak (X.map (·.1)) i = (ax X i).1 := by
  simp [ak, ax, List.getD_eq_getElem?_getD, List.getElem?_eq_getElem h]
theorem axCells_at (X : List Ax) (i j : Nat) (hi : i < X.length) (hj : j < 4) : (axCells X)[i * 4 + j]? = (axv (ax X i))[j]? := by
  induction X generalizing i with
  | nil => simp at hi
  | cons x X ih =>
    rw [show axCells (x :: X) = axv x ++ axCells X from rfl]
    cases i with
    | zero =>
      rw [List.getElem?_append_left (by simp [axv]; omega)]
      simp [ax]
    | succ i =>
      have h1 : ax (x :: X) (i + 1) = ax X i := by simp [ax]
      rw [h1, List.getElem?_append_right (by simp [axv]; omega), show (i + 1) * 4 + j - (axv x).length = i * 4 + j by simp [axv]; omega]
      exact ih i (by simpa using hi)
theorem Que.qm {w : World} {base p m n : Nat} {g : Option Nat} {L : List Ak} {F : Int → Int} (hQ : Que w base p g m n L F) : ∀ b, QM p g m b → base ≤ b ∧ ¬ kin w b 28 := fun b hb => by
  refine ⟨hQ.own b hb, fun hk => ?_⟩
  rcases hb with rfl | hb | rfl
  · exact absurd (kin.ne hk hQ.pkin) (by decide)
  · exact absurd (kin.ne hk (hQ.gkin hb).2) (by decide)
  · exact not_kin_of_map hQ.map.isMap hk
/-- a window of asks of the law's own -/
structure OWX (w : World) (base : Nat) (A : Option Addr) (c : Nat) (X : List Ax) : Prop where
  win : Win w base 31 4 (.slice A X.length c) X.length (axCells X)
  inn : ∀ x ∈ X, Axin w base x
theorem Axin.chs {M : Nat → Prop} {w w' : World} {base : Nat} {x : Ax} (h : Axin w base x) (hb : base ≤ w.heap.size) (k : Chs M w w') (hM : ∀ b, M b → base ≤ b ∧ ¬ kin w b 28) : Axin w' base x := by
  obtain ⟨j1, j2, j3, j4⟩ := h
  obtain ⟨j5, j6⟩ := Vin.chs j1 j4 hb k hM
  exact ⟨j5, j2, j3, j6⟩
theorem Axin.below {w w' : World} {base : Nat} {x : Ax} (h : Axin w base x) (hb : base ≤ w.heap.size) (k : Below w.heap.size w w') : Axin w' base x :=
  h.chs hb (Chs.of_below (fun _ => False) k) (fun _ h => h.elim)
theorem Axin.of_arg {w w' : World} {a : Ak} {B : Option Addr} {C : Nat} (h : Vals w B a.t) (h1 : a.t.length ≤ C) (h2 : C ≤ maxLen) (ht : 0 < a.t.length) (k : Below w.heap.size w w') : Axin w' w.heap.size (a, B, C) :=
  ⟨h.below k (Nat.le_refl _), h1, h2, fun x hx => .inl (by obtain ⟨b, off, e, hb, _⟩ := h ht; simp only at hx; rw [e] at hx; cases hx; exact hb)⟩
section
variable {w w' : World} {base c : Nat} {A : Option Addr} {X : List Ax}
theorem OWX.nil : OWX w base none 0 [] := ⟨Win.nil, fun x h => by simp at h⟩
theorem OWX.chs {M : Nat → Prop} (h : OWX w base A c X) (hb : base ≤ w.heap.size) (k : Chs M w w') (hM : ∀ b, M b → base ≤ b ∧ ¬ kin w b 28) (hd : ∀ b, (Value.slice A X.length c).ownBlock = some b → ¬ M b) : OWX w' base A c X :=
  ⟨h.win.stay fun b hb => k.block b (h.win.block hb).2.lt (hd b hb), fun x hx => (h.inn x hx).chs hb k hM⟩
theorem OWX.keep (h : OWX w base A c X) (hb : base ≤ w.heap.size) (k : Below w.heap.size w w') : OWX w' base A c X :=
  h.chs hb (Chs.of_below (fun _ => False) k) (fun _ h => h.elim) (fun _ _ h => h)
theorem OWX.cap (h : OWX w base A c X) : X.length ≤ c ∧ c ≤ maxLen := by
  obtain ⟨A', c', e, h1, h2⟩ := h.win.form; injection e with _ _ e; subst e; exact ⟨h1, h2⟩
theorem OWX.at_ (h : OWX w base A c X) {i : Nat} (hi : i < X.length) : ∃ b off, A = some ⟨b, off, none⟩ ∧ b < w.heap.size ∧ w.cell? ⟨b, off + i * 4, none⟩ = some (.int .i64 (ax X i).1.w) ∧ w.cell? ⟨b, off + i * 4 + 1, none⟩ = some (.int .i64 (ax X i).1.q) ∧
    w.cell? ⟨b, off + i * 4 + 2, none⟩ = some (.int .i64 (ax X i).1.d) ∧ w.cell? ⟨b, off + i * 4 + 3, none⟩ = some (.slice (ax X i).2.1 (ax X i).1.t.length (ax X i).2.2) ∧ Vals w (ax X i).2.1 (ax X i).1.t := by
  obtain ⟨g, off, c', e, _, hc⟩ := h.win.at_ (by omega)
  injection e with e1 e2 e3
  subst e1
  refine ⟨g, off, rfl, (h.win.block (g := g) rfl).2.lt, ?_, ?_, ?_, ?_, (h.inn _ (ax_mem hi)).1⟩
  · have := hc (i * 4 + 0) _ (axCells_at X i 0 hi (by omega)); rwa [Nat.add_zero] at this
  · have := hc (i * 4 + 1) _ (axCells_at X i 1 hi (by omega)); rwa [← Nat.add_assoc] at this
  · have := hc (i * 4 + 2) _ (axCells_at X i 2 hi (by omega)); rwa [← Nat.add_assoc] at this
  · have := hc (i * 4 + 3) _ (axCells_at X i 3 hi (by omega)); rwa [← Nat.add_assoc] at this
theorem OWX.at2 {b off : Nat} (h : OWX w base (some ⟨b, off, none⟩) c X) {i : Nat} (hi : i < X.length) : b < w.heap.size ∧ w.cell? ⟨b, off + i * 4, none⟩ = some (.int .i64 (ax X i).1.w) ∧ w.cell? ⟨b, off + i * 4 + 1, none⟩ = some (.int .i64 (ax X i).1.q) ∧
    w.cell? ⟨b, off + i * 4 + 2, none⟩ = some (.int .i64 (ax X i).1.d) ∧ w.cell? ⟨b, off + i * 4 + 3, none⟩ = some (.slice (ax X i).2.1 (ax X i).1.t.length (ax X i).2.2) ∧ Vals w (ax X i).2.1 (ax X i).1.t := by
  obtain ⟨b', off', e, h1⟩ := h.at_ hi
  injection e with e
  injection e with e1 e2
  subst e1 e2
  exact h1
end
/-- a queue, and the law's own window, in no block of the queue's -/
structure QJ (w0 w : World) (p m n : Nat) (g : Option Nat) (L : List Ak) (F : Int → Int) (A : Option Addr) (c : Nat) (X : List Ax) : Prop where
  h0 : HG w0
  b : Below w0.heap.size w0 w
  q : Que w w0.heap.size p g m n L F
  o : OWX w w0.heap.size A c X
  dis : ∀ b, (Value.slice A X.length c).ownBlock = some b → ¬ QM p g m b
section
variable {w0 w w' : World} {p m n c : Nat} {g g' : Option Nat} {L : List Ak} {F : Int → Int} {A : Option Addr} {X : List Ax}
theorem QJ.hg (j : QJ w0 w p m n g L F A c X) : HG w := j.h0.below j.b
theorem QJ.keep (j : QJ w0 w p m n g L F A c X) (k : Below w.heap.size w w') : QJ w0 w' p m n g L F A c X := ⟨j.h0, bcl j.b k, j.q.keep k, j.o.keep j.q.hb k, j.dis⟩
theorem QJ.move {n' : Nat} {L' : List Ak} {F' : Int → Int} (j : QJ w0 w p m n g L F A c X) (hq : Que w' w0.heap.size p g' m n' L' F') (k : Chs (QM p g m) w w') (hn : Nw g g' w.heap.size) : QJ w0 w' p m n' g' L' F' A c X := by
  refine ⟨j.h0, j.b.trans (k.below j.q.own j.q.hb), hq, j.o.chs j.q.hb k j.q.qm j.dis, fun b hb h => ?_⟩
  have hlt := (j.o.win.block hb).2.lt
  rcases h with h | h | h
  · exact j.dis b hb (.inl h)
  · rcases hn with rfl | ⟨d, hd, hl⟩
    · exact j.dis b hb (.inr (.inl h))
    · rw [hd] at h; injection h with h; omega
  · exact j.dis b hb (.inr (.inr h))
/-- behind an append to the law's own -/
theorem QJ.app (j : QJ w0 w p m n g L F A c X) {x : Ax} (hx : Axin w w0.heap.size x) {o : Obj} {b4 o4 c4 : Nat} {w4 : World} (hW : Win w4 w0.heap.size 31 4 (.slice (some ⟨b4, o4, none⟩) (X.length + 1) c4) (X.length + 1) (axCells X ++ axv x))
    (hg : (w.alloc o).grownBy w4 (Value.slice A X.length c).ownBlock) (hn : (Value.slice A X.length c).ownBlock = some b4 ∨ (w.alloc o).heap.size ≤ b4) : QJ w0 w4 p m n g L F (some ⟨b4, o4, none⟩) c4 (X ++ [x]) := by
  have hcg : Chs (fun b => (Value.slice A X.length c).ownBlock = some b) w w4 := (Chs.of_below _ (bal1 _ _)).trans (Chs.grown hg) (fun b hb => .inl hb)
  have hM : ∀ b, (Value.slice A X.length c).ownBlock = some b → w0.heap.size ≤ b ∧ ¬ kin w b 28 := fun b hb => ⟨(j.o.win.block hb).1, fun hk => absurd (kin.ne hk (j.o.win.block hb).2) (by decide)⟩
  refine ⟨j.h0, j.b.trans (hcg.below (fun b hb => (hM b hb).1) j.q.hb), j.q.far hcg fun b hb => ⟨(hM b hb).1, (hM b hb).2, j.dis b hb⟩, ⟨?_, fun z hz => ?_⟩, fun b hb h => ?_⟩
  · rw [List.length_append, List.length_singleton, axCells_append, show axCells [x] = axv x by simp [axCells]]; exact hW
  · rcases List.mem_append.1 hz with hz | hz
    · exact (j.o.inn z hz).chs j.q.hb hcg hM
    · rw [List.mem_singleton] at hz; subst hz; exact hx.chs j.q.hb hcg hM
  · have hb : b4 = b := by simpa [Value.ownBlock] using hb
    subst hb
    rcases hn with hn | hn
    · exact j.dis _ hn h
    · simp at hn
      rcases h with rfl | h | rfl
      · have := j.q.pkin.lt; omega
      · have := (j.q.gkin h).2.lt; omega
      · have := j.q.map.lt; omega
/-- the first of the law's own is cut off -/
theorem QJ.cut {x : Ax} (j : QJ w0 w p m n g L F A c (x :: X)) : QJ w0 w p m n g L F (if c = 1 then A else A.map (·.add (1 * 4))) (c - 1) X := by
  have hw := j.o.win
  rw [List.length_cons] at hw
  have h6 := Win.tail (x := axv x) (ys := axCells X) hw rfl
  have hgo : (Value.slice (if c = 1 then A else A.map (·.add (1 * 4))) X.length (c - 1)).ownBlock = (Value.slice A (x :: X).length c).ownBlock := by
    by_cases e : c = 1
    · rw [if_pos e]; cases A <;> rfl
    · rw [if_neg e]
      cases A with
      | none => rfl
      | some a => simp [Value.ownBlock, Addr.add]
  exact ⟨j.h0, j.b, j.q, ⟨h6, fun z hz => j.o.inn z (List.mem_cons_of_mem _ hz)⟩, fun b hb => j.dis b (hgo ▸ hb)⟩
theorem qjpush (j : QJ w0 w p m n g L F A c X) (a : Ak) (hq64 : I64 a.q) (A' : Option Addr) (c' : Nat) (hm : a.t.length ≤ maxLen) (hok : okL a.t) (hn : n ≤ 1000000) (hA : Vals w A' a.t) :
    Calls Tryd.prog 22 #[.pointer (some ⟨p, 0, none⟩), .agg #[.int .i64 a.w, .int .i64 a.q, .int .i64 a.d, .slice A' a.t.length c']] w fun e w' => e = .returned (eV (puE L F a)) ∧
      ∃ g', QJ w0 w' p m (if puE L F a = 0 then n + 1 else n) g' (if puE L F a = 0 then L ++ [a] else L) (if puE L F a = 0 then (fun y => if y = a.w then a.q else F y) else F) A c X :=
  (qpush_any _ p m n g L F a hq64 A' c' hm hok hn w j.q hA).mono fun e w' ⟨h1, g', h2, h3, h4⟩ => ⟨h1, g', j.move h2 h3 h4⟩
theorem qjpop {a : Ak} (j : QJ w0 w p m n g (a :: L) F A c X) :
    Calls Tryd.prog 26 #[.pointer (some ⟨p, 0, none⟩)] w fun e w' => ∃ B C, e = .returned (.tuple #[.agg #[.int .i64 a.w, .int .i64 a.q, .int .i64 a.d, .slice B a.t.length C], .nilIface]) ∧ Axin w' w0.heap.size (a, B, C) ∧ QJ w0 w' p m n g L F A c X :=
  (qpop_ok _ p m n g a L F w j.q).mono fun e w' ⟨B, C, h1, h2, h3, h4, h5, h6, h7⟩ => ⟨B, C, h1, ⟨h2, h3, h4, h5⟩, j.move h6 (h7.mono fun b hb => .inl hb) (.inl rfl)⟩
theorem qjpop_no (j : QJ w0 w p m n g [] F A c X) :
    Calls Tryd.prog 26 #[.pointer (some ⟨p, 0, none⟩)] w fun e w' => e = .returned (.tuple #[.agg #[.int .i64 0, .int .i64 0, .int .i64 0, .slice none 0 0], errV 5]) ∧ QJ w0 w' p m n g [] F A c X :=
  (qpop_no _ p m n g F w j.q).mono fun e w' ⟨h1, h2⟩ => ⟨h1, j.keep h2⟩
end
theorem wpList_append_win {w : World} {ops : Array Oper} {rest : List Oper} {o : Oper} {a : Act} {Q : Exit → Act → World → Prop} (hgd : o.guard = none) (s x : Operand) (t : TypeId)
    (ho : o.op = .call { callee := .builtin .append, args := #[s, x], argTypes := #[t, t] })
    (base : Nat) (e : TypeId) (z : Value) (size bytes : Nat) (ht : Tryd.prog.underlying t = some (.slice e)) (hi : (Tryd.prog.info? e).map (fun i => (i.zero, i.size, i.bytes)) = some (some z, size, bytes)) (hzs : z.cells.size = size) (hsz : 0 < size)
    (v : Value) (n : Nat) (xs : List Value) (hs : a.eval s = v) (hown : Win w base e size v n xs)
    (g : Nat) (news : List Value) (hx : a.eval x = .slice (some ⟨g, 0, none⟩) 1 1) (hl : news.length = size) (hnews : ∀ j u, news[j]? = some u → w.cell? ⟨g, j, none⟩ = some u) (h1 : ∀ u ∈ news, u.oneCell' = true)
    (hn : n ≤ 1000000) (hby : bytes ≤ 1000000) (hbase : base ≤ w.heap.size)
    (h : ∀ g off cap w', Win w' base e size (.slice (some ⟨g, off, none⟩) (n + 1) cap) (n + 1) (xs ++ news) → w.grownBy w' v.ownBlock → (v.ownBlock = some g ∨ w.heap.size ≤ g) → wpList Tryd.prog ops Q rest (a.put o.dst (.slice (some ⟨g, off, none⟩) (n + 1) cap)) w') : wpList Tryd.prog ops Q (o :: rest) a w :=
  wpList_plain hgd fun K hK => by
    have := step_append_win (ops := ops) (K := K) (Q := Q) (E := True) hgd s x t ho base e z size bytes ht hi hzs hsz v n xs hs hown g news hx hl hnews h1 hn hby hbase (fun g off cap w' k1 k2 k3 => hK _ _ (h g off cap w' k1 k2 k3))
    rwa [if_pos (by simp [Region.wanted, hgd])] at this

/-! ### what was pushed -/
/-- how many are of y -/
def cntW (L : List Ak) (y : Int) : Nat := (L.filter fun a => a.w == y).length
theorem cntW_app (L : List Ak) (a : Ak) (y : Int) : cntW (L ++ [a]) y = cntW L y + if a.w = y then 1 else 0 := by
  unfold cntW
  rw [List.filter_append]
  by_cases e : a.w = y <;> simp [e]
theorem cntW_le (L : List Ak) (y : Int) : cntW L y ≤ L.length := List.length_filter_le _ _
theorem cntW_succ (L : List Ak) (k : Nat) (hk : k < L.length) (y : Int) : cntW (L.take (k + 1)) y = cntW (L.take k) y + if (ak L k).w = y then 1 else 0 := by
  rw [List.take_succ_eq_append_getElem hk, cntW_app]
  simp [ak, List.getD_eq_getElem?_getD, List.getElem?_eq_getElem hk]
/-- of each who asked the last is F, and each of theirs came in its turn -/
structure Hist (L : List Ak) (F : Int → Int) : Prop where
  f : ∀ y, F y = cntW L y
  q : ∀ i, i < L.length → (ak L i).q = cntW (L.take (i + 1)) (ak L i).w
theorem Hist.nil : Hist [] (fun _ => 0) := ⟨fun _ => rfl, fun i h => by simp at h⟩
theorem puE_zero {L : List Ak} {F : Int → Int} {a : Ak} (h : puE L F a = 0) : qcE a = 0 ∧ a.q = F a.w + 1 ∧ L.length ≠ 30 := by
  unfold puE at h
  split at h
  · rename_i h1; exact absurd h h1
  · rename_i h1
    split at h
    · cases h
    · split at h
      · cases h
      · split at h
        · cases h
        · exact ⟨by simpa using h1, by omega, by assumption⟩
theorem Hist.push {L : List Ak} {F : Int → Int} (h : Hist L F) {a : Ak} (ha : a.q = F a.w + 1) : Hist (L ++ [a]) (fun y => if y = a.w then a.q else F y) := by
  refine ⟨fun y => ?_, fun i hi => ?_⟩
  · rw [cntW_app]
    by_cases e : y = a.w
    · subst e; simp only [if_true]; rw [ha, h.f]; simp
    · simp only [if_neg e]; rw [if_neg (fun h => e h.symm), h.f]; simp
  · rw [List.length_append, List.length_singleton] at hi
    rcases Nat.lt_or_ge i L.length with hl | hl
    · have e1 : ak (L ++ [a]) i = ak L i := by simp only [ak, List.getD_eq_getElem?_getD]; rw [List.getElem?_append_left hl]
      rw [e1, List.take_append_of_le_length (by omega)]
      exact h.q i hl
    · obtain rfl : i = L.length := by omega
      have e1 : ak (L ++ [a]) L.length = a := by simp [ak, List.getD_eq_getElem?_getD]
      rw [e1, List.take_of_length_le (by simp), cntW_app, ha, h.f]
      simp
end Go.Proofs.YthpemlhlgjdnkaaDoor
