/- Arguments of values, and of slices of values, opened; how much a slice may hold. -/
import Derived.Test.YtfelefkmbbfdjaaGreatDoorTuple
import Derived.Lib.SmallJoins
import Derived.SizedLaws
namespace Go.Proofs.YtfelefkmbbfdjaaGreatDoor
open Go.RowKit Go.ChangeShapes Go.WideShapes Go.Deep Go.Joins
set_option linter.unusedVariables false
section
variable {H : Type} {enc : TypeId × Value → H} {P : Program} {w : World} {base : Nat} {spare : Nat → Bool} {held : Bool}
theorem arg_Value {r : Reach} {b0 : Nat} {t : TypeId} {f0 f1 f2 : Field} {v : Value} {d : DataW H} {p : List MemPlace} (hs : P.underlying t = some (.struct #[f0, f1, f2])) (hone : oneCellFields P #[f0, f1, f2] = true) (hC : P.cellsOf t = 3)
    (h0 : P.underlying f0.type = some (.int .i64)) (h1 : P.underlying f1.type = some (.int .i64)) (h2 : P.underlying f2.type = some .string) (hv : Value.okWide P w r b0 t v) (h : DataW.Trod enc P w base spare held t v d p) :
    ∃ (a b : Int) (s : ByteArray), v = .agg #[.int .i64 a, .int .i64 b, .string s] ∧ I64 a ∧ I64 b ∧ s.size ≤ maxLen := by
  obtain ⟨v0, v1, v2, y0, y1, y2, n, rfl, _, _, t0, t1, t2⟩ := open_agg3 hs hone hC hv h
  obtain ⟨a, ha, _, wa⟩ := DataW.trod_int h0 t0
  obtain ⟨b, hb, _, wb⟩ := DataW.trod_int h1 t1
  obtain ⟨c, hc, _, wc⟩ := DataW.trod_string h2 t2
  simp at ha hb hc
  exact ⟨a, b, c, by rw [ha, hb, hc], wa, wb, wc⟩
theorem open_Vals {t e : TypeId} {f0 f1 f2 : Field} {fuel : Nat} {cs : List Value} {x : DataW H × List MemPlace} (ht : P.underlying t = some (.slice e)) (he : P.underlying e = some (.struct #[f0, f1, f2])) (hone : oneCellFields P #[f0, f1, f2] = true) (hC : P.cellsOf e = 3)
    (h0 : P.underlying f0.type = some (.int .i64)) (h1 : P.underlying f1.type = some (.int .i64)) (h2 : P.underlying f2.type = some .string)
    (h : DataW.trod enc P w base spare held fuel t cs = some x) :
    ∃ (A : Option Addr) (cap : Nat) (l : List Va), cs = [.slice A l.length cap] ∧ l.length ≤ cap ∧ cap ≤ maxLen ∧ Vals w A l ∧ okL l := by
  obtain ⟨A, len, cap, n, E, D, hcs, hl, hm, hE, hs, hd⟩ := open_cells ht (by omega) h
  have hv : ∀ i, i < len → ∃ z : Va, E i = [.int .i64 z.k, .int .i64 z.n, .string z.s] ∧ z.s.size ≤ maxLen := fun i hi => by
    obtain ⟨hlen, m, hf⟩ := open_fields he hone hC (hd i hi)
    obtain ⟨v0, y0, hv0, ht0⟩ := hf 0 f0 rfl
    obtain ⟨v1, y1, hv1, ht1⟩ := hf 1 f1 rfl
    obtain ⟨v2, y2, hv2, ht2⟩ := hf 2 f2 rfl
    obtain ⟨a, ha, _, wa⟩ := DataW.trod_int h0 ht0
    obtain ⟨b, hb, _, wb⟩ := DataW.trod_int h1 ht1
    obtain ⟨c, hc, _, wc⟩ := DataW.trod_string h2 ht2
    match hEi : E i, hlen with
    | [p, q, r], _ =>
      rw [hEi] at hv0 hv1 hv2
      simp at hv0 hv1 hv2 ha hb hc
      exact ⟨⟨a, b, c⟩, by rw [hv0, hv1, hv2, ha, hb, hc], wc⟩
  have : Inhabited Va := ⟨Va.zero⟩
  obtain ⟨Z, hZ⟩ := choose_lt hv
  have hg : ∀ i, i < len → va ((List.range len).map Z) i = Z i := fun i hi => by simp [va, hi]
  refine ⟨A, cap, (List.range len).map Z, by simp [hcs], by simpa using hl, hm, ?_, fun i hi => ?_⟩
  · unfold Vals
    rw [hC] at hs
    simp only [List.length_map, List.length_range]
    refine hs.congr fun i hi j hj => ?_
    rw [(hZ i hi).1]
    rcases (show j = 0 ∨ j = 1 ∨ j = 2 by omega) with rfl | rfl | rfl <;> simp [vac, hg i hi]
  · have hi' : i < len := by simpa using hi
    rw [hg i hi']; exact (hZ i hi').2
theorem arg_Vals {r : Reach} {b0 : Nat} {t e : TypeId} {f0 f1 f2 : Field} {v : Value} {d : DataW H} {p : List MemPlace} (ht : P.underlying t = some (.slice e)) (he : P.underlying e = some (.struct #[f0, f1, f2])) (hone : oneCellFields P #[f0, f1, f2] = true) (hC : P.cellsOf e = 3)
    (h0 : P.underlying f0.type = some (.int .i64)) (h1 : P.underlying f1.type = some (.int .i64)) (h2 : P.underlying f2.type = some .string)
    (hval : Value.okWide P w r b0 t v) (hd : DataW.Trod enc P w base spare held t v d p) :
    ∃ (A : Option Addr) (cap : Nat) (l : List Va), v = .slice A l.length cap ∧ l.length ≤ cap ∧ cap ≤ maxLen ∧ Vals w A l ∧ okL l := by
  obtain ⟨fuel, hf⟩ := hd
  obtain ⟨A, cap, xs, k1, k2⟩ := open_Vals ht he hone hC h0 h1 h2 hf
  exact ⟨A, cap, xs, slice_whole ht hval k1, k2⟩
/-- what a slice holds is not more than the reach -/
theorem slice_reach {t e : TypeId} {A : Option Addr} {n c : Nat} {d : DataW H} {p : List MemPlace} (ht : P.underlying t = some (.slice e)) (hd : DataW.Trod enc P w base spare held t (.slice A n c) d p)
    {ts : List TypeId} {ds : List (DataW H)} (hw : (DataW.weightsEach P ts ds).all (· ≤ reachBytes) = true) (j : Nat) (h1 : ts[j]? = some t) (h2 : ds[j]? = some d) : n * P.bytesOf e ≤ reachBytes := by
  obtain ⟨fuel, hf⟩ := hd
  rcases Go.Deep.open_slice ht hf with ⟨h3, _⟩ | ⟨a, len, cap, m, q, D, Pl, hcs, _, _, _, _, hx, _⟩
  · simp [Value.cells] at h3; rw [h3.2.1]; simp
  · simp [Value.cells] at hcs
    have hx1 : d = .slice ((List.range len).map D) ((List.range (m - len)).map fun j => D (len + j)) := congrArg Prod.fst hx
    have := sized_slice hw h1 (by rw [h2, hx1]) ht
    simp only [List.length_map, List.length_range] at this
    rw [hcs.2.1]
    exact Nat.le_trans (Nat.mul_le_mul_right _ (Nat.le_add_right _ _)) this
end
end Go.Proofs.YtfelefkmbbfdjaaGreatDoor
