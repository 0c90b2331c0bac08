/- Package lease: what it has in memory; searches; the ones that are deleted in place. -/
import Derived.Test.YthpemlhlgjdnkaaDoorSpcPut
import Derived.Test.YthpemlhlgjdnkaaDoorChs
import Derived.Test.YthpemlhlgjdnkaaDoorWin
import Derived.Test.YthpemlhlgjdnkaaDoorQueue
import Derived.Deep.RegionLaw
import Derived.Lib.SliceRun
namespace Go.Proofs.YthpemlhlgjdnkaaDoor
open Go.ChangeShapes Go.WideShapes Go.ChangeAt Go.RowKit
set_option linter.unusedVariables false

/-! ### ones that are there -/
structure On where
  id : Int
  un : Int
  t : List Va
abbrev Ox := On × Option Addr × Nat
def oxv (x : Ox) : List Value := [.int .i64 x.1.id, .int .i64 x.1.un, .slice x.2.1 x.1.t.length x.2.2]
def oxCells (X : List Ox) : List Value := X.flatMap oxv
theorem oxCells_append (X Y : List Ox) : oxCells (X ++ Y) = oxCells X ++ oxCells Y := by simp [oxCells]
theorem oxCells_length (X : List Ox) : (oxCells X).length = X.length * 3 := by
  induction X with
  | nil => rfl
  | cons x X ih => simp only [oxCells, List.flatMap_cons, List.length_append, List.length_cons] at ih ⊢; rw [ih]; simp [oxv]; omega
theorem oxCells_at : ∀ (X : List Ox) (i : Nat) (x : Ox), X[i]? = some x → ∀ j, j < 3 → (oxCells X)[i * 3 + j]? = (oxv x)[j]?
  | [], i, x, h, _, _ => by simp at h
  | y :: X, 0, x, h, j, hj => by
    simp only [List.getElem?_cons_zero, Option.some.injEq] at h; subst h
    simp only [oxCells, List.flatMap_cons]
    rw [Nat.zero_mul, Nat.zero_add, List.getElem?_append_left (by simp [oxv]; omega)]
  | y :: X, i + 1, x, h, j, hj => by
    have := oxCells_at X i x (by simpa using h) j hj
    simp only [oxCells, List.flatMap_cons] at this ⊢
    rw [List.getElem?_append_right (by simp [oxv]; omega), show (i + 1) * 3 + j - (oxv y).length = i * 3 + j by simp [oxv]; omega]
    exact this
/-- what one has in memory -/
def Oxin (w : World) (base : Nat) (x : Ox) : Prop := Vals w x.2.1 x.1.t ∧ x.1.t.length ≤ x.2.2 ∧ x.2.2 ≤ maxLen ∧ Inn w base 28 x.2.1 ∧ okL x.1.t ∧ 0 < x.1.t.length ∧ x.1.t.length ≤ 5
theorem infoOne : (Tryd.prog.info? 115).map (fun i => (i.zero, i.size, i.bytes)) = some (some (.agg #[.int .i64 0, .int .i64 0, .slice none 0 0]), 3, 40) := by kernel_rfl
/-- ones lie behind A -/
def Oxs (w : World) (A : Option Addr) (X : List Ox) : Prop := ∀ i x, X[i]? = some x → ∃ b off, A = some ⟨b, off, none⟩ ∧ b < w.heap.size ∧ w.cell? ⟨b, off + i * 3, none⟩ = some (.int .i64 x.1.id) ∧ w.cell? ⟨b, off + i * 3 + 1, none⟩ = some (.int .i64 x.1.un) ∧ w.cell? ⟨b, off + i * 3 + 2, none⟩ = some (.slice x.2.1 x.1.t.length x.2.2)
theorem Oxs.keep {w w' : World} {A : Option Addr} {X : List Ox} (h : Oxs w A X) (hb : Below w.heap.size w w') : Oxs w' A X := fun i x hx => by
  obtain ⟨b, off, h1, h2, h3, h4, h5⟩ := h i x hx
  have := hb.size
  exact ⟨b, off, h1, by omega, (hb.cell (p := ⟨b, _, none⟩) h2).trans h3, (hb.cell (p := ⟨b, _, none⟩) h2).trans h4, (hb.cell (p := ⟨b, _, none⟩) h2).trans h5⟩
theorem Win.oxs {w : World} {base : Nat} {A : Option Addr} {c n : Nat} {X : List Ox} (h : Win w base 115 3 (.slice A n c) n (oxCells X)) : Oxs w A X := fun i x hx => by
  have hl := h.1
  rw [oxCells_length] at hl
  have hi := (List.getElem?_eq_some_iff.1 hx).1
  rcases h.2 with ⟨_, h2⟩ | ⟨g, off, c', h1, h2, h3, h4, h5, h6, h7⟩
  · omega
  · injection h1 with h1 _ _
    have h0 := h6 (i * 3 + 0) _ ((oxCells_at X i x hx 0 (by omega)).trans rfl)
    have h1' := h6 (i * 3 + 1) _ ((oxCells_at X i x hx 1 (by omega)).trans rfl)
    have h2' := h6 (i * 3 + 2) _ ((oxCells_at X i x hx 2 (by omega)).trans rfl)
    exact ⟨g, off, h1, h3.lt, by simpa using h0, by simpa [Nat.add_assoc] using h1', by simpa [Nat.add_assoc] using h2'⟩

/-! ### the closures -/
theorem lnowc_any (u T i : Int) (v : Value) (q : Addr) (w : World) (hq : w.cell? q = some (.int .i64 T)) :
    Calls Tryd.prog 85 #[.agg #[.int .i64 i, .int .i64 u, v], .pointer (some q)] w fun e w' => e = .returned (.bool (decide (u ≤ T))) ∧ Below w.heap.size w w' := by
  have hlt := lt_of_cell hq
  generalize hd : decide (u ≤ T) = d
  go_enter Tryd.func85, Tryd.ntmps85
  go_wp2_with fail
  first | (go_quiet (fail); go_wp2_with fail) | skip
  go_ret
  exact ⟨rfl, (by repeat (first | exact Below.refl _ _ | assumption | refine bal ?_ _ | refine bdn ?_ _ | refine bdr ?_ | refine bcl ?_ (by assumption)))⟩
theorem lrenewc_any (x u T : Int) (v : Value) (q : Addr) (w : World) (hq : w.cell? q = some (.int .i64 x)) (i : Int) :
    Calls Tryd.prog 89 #[.agg #[.int .i64 i, .int .i64 u, v], .pointer (some q)] w fun e w' => e = .returned (.bool (decide (i = x))) ∧ Below w.heap.size w w' := by
  have hlt := lt_of_cell hq
  have hd : (i == x) = decide (i = x) := by rw [Bool.eq_iff_iff]; simp
  generalize decide (i = x) = d at *
  go_enter Tryd.func89, Tryd.ntmps89
  go_wp2_with fail
  first | (go_quiet (fail); go_wp2_with fail) | skip
  go_ret
  exact ⟨rfl, (by repeat (first | exact Below.refl _ _ | assumption | refine bal ?_ _ | refine bdn ?_ _ | refine bdr ?_ | refine bcl ?_ (by assumption)))⟩
/-- one at place i -/
def oxg (X : List Ox) (i : Nat) : Ox := X.getD i (⟨0, 0, []⟩, none, 0)
theorem oxg_at {X : List Ox} {i : Nat} (h : i < X.length) : X[i]? = some (oxg X i) := by simp [oxg, List.getD_eq_getElem?_getD, List.getElem?_eq_getElem h]
set_option maxHeartbeats 800000 in
theorem lidx_any (A : Option Addr) (cap : Nat) (X : List Ox) (hm : X.length ≤ maxLen) (g : FuncId) (q : Value) (p : Nat → Bool) (w : World) (hA : Oxs w A X)
    (hp : ∀ W, Below w.heap.size w W → ∀ i, i < X.length → Calls Tryd.prog g #[.agg #[.int .i64 (oxg X i).1.id, .int .i64 (oxg X i).1.un, .slice (oxg X i).2.1 (oxg X i).1.t.length (oxg X i).2.2], q] W fun e w' => e = .returned (.bool (p i)) ∧ Below W.heap.size W w')
    (hg : ∀ args w, (callFunc g args).run Tryd.prog w = .ok (.enter g args) w) :
    Calls Tryd.prog 88 #[.slice A X.length cap, .func (.func g) #[] #[q]] w fun e w' => e = .returned (.int .i64 (idx p X.length)) ∧ Below w.heap.size w w' := by
  have HP := Lib.hid hp; clear hp
  unfold maxLen at hm
  go_enter Tryd.func88, Tryd.ntmps88
  go_wp2_with fail
  go_loopw [8] (fun i wr => ∃ k : Nat, k ≤ X.length ∧ i = .int .i64 k ∧ Hid (fst' p k = none) ∧ Below w.heap.size w wr) (fun i _ => X.length - (intOf i).toNat)
  case atStart => exact ⟨0, Nat.zero_le _, rfl, rfl, Below.refl _ _⟩
  case round =>
    obtain ⟨k, hk, rfl, hf, hb⟩ := hrel
    by_cases hlt : k < X.length
    · obtain ⟨b, off, rfl, hbl, h0, h1, h2⟩ := (hA.keep hb) k _ (oxg_at hlt)
      cases hpk : p k with
      | true =>
        have hi : idx p X.length = (k : Int) := idx_some (k := k + 1) (by simp only [fst', hf.out, hpk, if_true]) (by omega)
        have HI := Lib.hid hi; clear hi
        have hc := HP.out wr hb k hlt
        rw [hpk] at hc
        have HC := Lib.hid hc; clear hc hpk
        go_wp2_with fail
        refine HC.out.mono ?_
        rintro e w1 ⟨rfl, hb1⟩
        go_wp2_with fail
        rw [HI.out]
        go_ret
        exact ⟨rfl, bcl hb hb1⟩
      | false =>
        have hn' : fst' p (k + 1) = none := by simp [fst', hf.out, hpk]
        have HN := Lib.hid hn'; clear hn'
        have hc := HP.out wr hb k hlt
        rw [hpk] at hc
        have HC := Lib.hid hc; clear hc hpk
        go_wp2_with fail
        refine HC.out.mono ?_
        rintro e w1 ⟨rfl, hb1⟩
        go_wp2_with fail
        go_roundw
        case rel => exact ⟨k + 1, by omega, by go_num, HN, bcl hb hb1⟩
        case measure => simp [intOf]; omega
    · obtain rfl : k = X.length := by omega
      have HI := Lib.hid (idx_none hf.out)
      go_wp2_with fail
      rw [HI.out]
      go_ret
      exact ⟨rfl, hb⟩
end Go.Proofs.YthpemlhlgjdnkaaDoor
