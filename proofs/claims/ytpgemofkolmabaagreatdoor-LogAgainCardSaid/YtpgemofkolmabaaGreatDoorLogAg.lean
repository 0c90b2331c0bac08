/- Package mirror: Again. -/
import Derived.Test.YtpgemofkolmabaaGreatDoorLogDo
namespace Go.Proofs.YtpgemofkolmabaaGreatDoor
open Go.ChangeShapes Go.WideShapes Go.ChangeAt Go.RowKit Go.Joins Go.Deep Go.Maps Go.WideMaps
set_option linter.unusedVariables false

section
variable {w : World} {base p q m : Nat} {g : Option Nat} {R : List Ru} {s : Cs}
set_option maxHeartbeats 1600000 in
set_option maxRecDepth 100000 in
theorem cpagain_any (hC : Cpy w base p q g m R s) (a : Ak) (A : Option Addr) (c : Nat) (hw64 : I64 a.w) :
    Calls Tryz.prog 40 #[.pointer (some ⟨p, 0, none⟩), akv a A c] w fun e w' => e = .returned (.bool (agB s a)) ∧ Below w.heap.size w w' := by
  obtain ⟨RA, rc, h1, _⟩ := hC.there
  obtain ⟨mm, hs, f, hv, hf⟩ := hC.map
  obtain ⟨W1, hW1⟩ : ∃ W1, W1 = w.alloc (.cells #[.int .i64 a.w, .int .i64 a.q, .int .i64 a.d, .slice A a.t.length c] 33) := ⟨_, rfl⟩
  have hb01 : Below w.heap.size w W1 := by rw [hW1]; exact bal1 _ _
  have B1 : AtB W1 w.heap.size #[.int .i64 a.w, .int .i64 a.q, .int .i64 a.d, .slice A a.t.length c] 33 := by rw [hW1]; exact AtB.new _ _ _
  have hV1 := hv.keep hb01
  have HW := Lib.hid hW1; have HB := Lib.hid hb01
  obtain ⟨Y, hY⟩ : ∃ Y, Y = s.F a.w := ⟨_, rfl⟩
  have hfa := hf a.w
  rw [← hY] at hfa
  have hag : agB s a = (decide (a.q = Y.1) && decide (0 < Y.1)) := by rw [agB, ← hY]
  obtain ⟨y1, y2⟩ := Y
  obtain ⟨x, q', d, t⟩ := a
  simp only [akv] at *
  have d0 : W1.cell? ⟨w.heap.size, 0, none⟩ = some (.int .i64 x) := B1.cell rfl
  have d1 : W1.cell? ⟨w.heap.size, 1, none⟩ = some (.int .i64 q') := B1.cell rfl
  have p2 : W1.cell? ⟨p, 2, none⟩ = some (.map (some m)) := (h1.below hb01 h1.lt).cell rfl
  have hlk := run_lookup_v (w := W1.drew) 137 3 146 lawI Tryz.underlying137 m _ mm _ hs f (zeroDone _) (hV1.stay rfl) _ _ (keyOf_int_mk Tryz.underlying3 hw64)
  rw [hfa] at hlk
  have hlk2 : (Instr.lookup 137 (.map (some m)) (.int .i64 x) false).run Tryz.prog W1.drew = .ok (.agg #[.int .i64 y1, .string y2]) W1.drew := hlk
  have hlq : ∀ k, (Instr.lookup 137 (.map (some m)) (.int .i64 x) false).run Tryz.prog (W1.drewN k) = .ok (.agg #[.int .i64 y1, .string y2]) (W1.drewN k) := fun k => by
    have h := run_lookup_v (w := W1.drewN k) 137 3 146 lawI Tryz.underlying137 m _ mm _ hs f (zeroDone _) (hV1.keep (bdn (Below.refl _ _) k)) _ _ (keyOf_int_mk Tryz.underlying3 hw64)
    rw [hfa] at h
    exact h
  have hfld : ∀ (W : World) (u v : Value), (Instr.field 146 (.agg #[u, v]) 0).run Tryz.prog W = .ok u W := fun W u v => by rfl
  have HAG := Lib.hid hag
  have hl0 : w.heap.size < W1.heap.size := B1.lt
  have hlp : p < W1.heap.size := (h1.below hb01 h1.lt).lt
  clear hW1 hb01 B1 hV1 hv hf hfa hlk hag hC h1 hY hw64
  have fin : ∀ W, W = W1.drew → Below w.heap.size w W := fun W hW => by rw [hW]; exact bdr HB.out
  by_cases h0 : 0 < q'
  · have q0 : decide (0 < q') = true := decide_eq_true h0
    have hv : (y1 == q') = agB s ⟨x, q', d, t⟩ := by
      rw [HAG.out]
      by_cases e : y1 = q'
      · subst e; simp [h0]
      · rw [decide_eq_false (fun h => e h.symm), Bool.false_and]; exact beq_eq_false_iff_ne.2 e
    go_enter Tryz.func40, Tryz.ntmps40
    go_wp2_with fail
    rw [← HW.out]
    go_quiet (fail)
    go_wp2_with fail
    go_ret
    exact ⟨by first | rfl | (rw [hv]; rfl), by first | exact bdn HB.out _ | exact bdr HB.out | exact HB.out⟩
  · have q0 : decide (0 < q') = false := decide_eq_false h0
    have hv : agB s ⟨x, q', d, t⟩ = false := by
      rw [HAG.out]
      by_cases e : q' = y1
      · subst e; rw [decide_eq_false h0, Bool.and_false]
      · rw [decide_eq_false e, Bool.false_and]
    go_enter Tryz.func40, Tryz.ntmps40
    go_wp2_with fail
    rw [← HW.out]
    go_quiet (fail)
    go_wp2_with fail
    go_ret
    exact ⟨by first | rfl | (rw [hv]; rfl), by first | exact bdn HB.out _ | exact bdr HB.out | exact HB.out⟩
end
end Go.Proofs.YtpgemofkolmabaaGreatDoor
