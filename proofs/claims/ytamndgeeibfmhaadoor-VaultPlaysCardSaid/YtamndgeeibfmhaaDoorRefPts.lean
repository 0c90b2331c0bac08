/- The reference's Points and Next (Neville): what each returns. -/
import Derived.Test.YtamndgeeibfmhaaDoorRefIn
import Derived.Deep.QuietTactic
import Derived.BigQuiet
namespace Go.Proofs.YtamndgeeibfmhaaDoor
open Go.RowKit
set_option linter.unusedVariables false

theorem wasB_false {l : List Sh} {x : Int} {k : Nat} (h : wasB l x k = false) {j : Nat} (hj : j < k) : (ga l j == x) = false := by
  induction k with
  | zero => omega
  | succ k ih =>
    simp only [wasB, Bool.or_eq_false_iff] at h
    by_cases e : j = k
    · subst e; exact h.2
    · exact ih h.1 (by omega)
theorem wasB_true {l : List Sh} {x : Int} {k j : Nat} (hj : j < k) (h : (ga l j == x) = true) : wasB l x k = true := by
  cases e : wasB l x k with
  | true => rfl
  | false => rw [wasB_false e hj] at h; cases h

/-! ### Next, Neville's way: the row is filled, then written over in place -/
def seconds (l : List Sh) (k : Nat) : List Int := (List.range k).map (gb l)
theorem seconds_succ (l : List Sh) (k : Nat) : seconds l (k + 1) = seconds l k ++ [gb l k] := by simp [seconds, List.range_succ]
theorem seconds_length (l : List Sh) (k : Nat) : (seconds l k).length = k := by simp [seconds]
theorem seconds_at (l : List Sh) (n k : Nat) (h : k < n) : gi (seconds l n) k = gb l k := by simp [gi, seconds, h]
theorem OInts.at_ {w : World} {base c : Nat} {A : Option Addr} {l : List Int} (h : OInts w base A c l) (h0 : 0 < l.length) :
    ∃ g, A = some ⟨g, 0, none⟩ ∧ base ≤ g ∧ g < w.heap.size ∧ ∀ i, i < l.length → w.cell? ⟨g, i, none⟩ = some (.int .i64 (gi l i)) ∧ w.frozen? ⟨g, i, none⟩ = false := by
  obtain ⟨g, cap', hv, hgb, hlt⟩ := World.ownsRow.form h h0
  have hA : A = some ⟨g, 0, none⟩ := by injection hv
  subst hA
  refine ⟨g, rfl, hgb, hlt, fun i hi => ⟨?_, World.ownsRow.frozenAt h i⟩⟩
  rw [World.ownsRow.cellAt h i (by omega)]
  simp [gi, hi]
theorem OInts.set {w : World} {base c g : Nat} {l : List Int} (h : OInts w base (some ⟨g, 0, none⟩) c l) (i : Nat) (v : Int) (hb : base ≤ g) {w0 : World} (hz : w0.heap.size ≤ base) (h0 : Below w0.heap.size w0 w) :
    OInts (w.setCell ⟨g, i, none⟩ (.int .i64 v)) base (some ⟨g, 0, none⟩) c (l.set i v) ∧ Below w0.heap.size w0 (w.setCell ⟨g, i, none⟩ (.int .i64 v)) := by
  obtain ⟨h1, h2⟩ := World.ownsRow.stored h i (.int .i64 v)
  refine ⟨?_, bset h0 (by show w0.heap.size ≤ g; omega) _⟩
  unfold OInts
  rw [List.length_set, List.map_set]; exact h1
theorem gi_set (l : List Int) (i : Nat) (v : Int) (hi : i < l.length) (j : Nat) : gi (l.set i v) j = if j = i then v else gi l j := by
  unfold gi
  simp only [List.getD_eq_getElem?_getD, List.getElem?_set]
  by_cases e : i = j
  · subst e; rw [if_pos rfl, if_pos rfl, if_pos hi]; rfl
  · rw [if_neg e, if_neg (fun h => e h.symm)]
end Go.Proofs.YtamndgeeibfmhaaDoor
