/- An argument that is one ask, opened. -/
import Derived.Test.YthkaaheeblehhaaDoorRMem
import Derived.Test.YthkaaheeblehhaaDoorVArg
namespace Go.Proofs.YthkaaheeblehhaaDoor
open Go.RowKit Go.ChangeShapes Go.WideShapes Go.Deep Go.Joins
set_option linter.unusedVariables false
section
variable {H : Type} {enc : TypeId × Value → H} {P : Program} {w : World} {base : Nat} {spare : Nat → Bool} {held : Bool}
theorem arg_Ask {r : Reach} {b0 : Nat} {v : Value} {d : DataW H} {p : List MemPlace} {e ve : TypeId} {f0 f1 f2 f3 g0 g1 g2 : Field} (he : P.underlying e = some (.struct #[f0, f1, f2, f3])) (hone : oneCellFields P #[f0, f1, f2, f3] = true) (hC : P.cellsOf e = 4)
    (h0 : P.underlying f0.type = some (.int .i64)) (h1 : P.underlying f1.type = some (.int .i64)) (h2 : P.underlying f2.type = some (.int .i64)) (h3 : P.underlying f3.type = some (.slice ve))
    (he' : P.underlying ve = some (.struct #[g0, g1, g2])) (hone' : oneCellFields P #[g0, g1, g2] = true) (hC' : P.cellsOf ve = 3) (k0 : P.underlying g0.type = some (.int .i64)) (k1 : P.underlying g1.type = some (.int .i64)) (k2 : P.underlying g2.type = some .string)
    (hval : Value.okWide P w r b0 e v) (hd : DataW.Trod enc P w base spare held e v d p) :
    ∃ (a : Ak) (A : Option Addr) (cap : Nat), v = .agg #[.int .i64 a.w, .int .i64 a.q, .int .i64 a.d, .slice A a.t.length cap] ∧ a.t.length ≤ cap ∧ cap ≤ maxLen ∧ Vals w A a.t ∧ okL a.t ∧ I64 a.w ∧ I64 a.q ∧ I64 a.d := by
  obtain ⟨v0, v1, v2, v3, y0, y1, y2, y3, n, rfl, _, _, t0, t1, t2, t3⟩ := open_agg4 he hone hC hval hd
  obtain ⟨a, ha, _, wa⟩ := DataW.trod_int h0 t0
  obtain ⟨b, hb, _, wb⟩ := DataW.trod_int h1 t1
  obtain ⟨c, hc, _, wc⟩ := DataW.trod_int h2 t2
  obtain ⟨B, C, q, hq, q1, q2, q3, q4⟩ := open_Vals h3 he' hone' hC' k0 k1 k2 t3
  simp at ha hb hc hq
  exact ⟨⟨a, b, c, q⟩, B, C, by rw [ha, hb, hc, hq], q1, q2, q3, q4, wa, wb, wc⟩
end
end Go.Proofs.YthkaaheeblehhaaDoor
