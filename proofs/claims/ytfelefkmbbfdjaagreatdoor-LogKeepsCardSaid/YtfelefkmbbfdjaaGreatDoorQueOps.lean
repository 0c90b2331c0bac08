/- Package queue: New, Next, Count, Push, Pop. -/
import Derived.Test.YtfelefkmbbfdjaaGreatDoorQueue
namespace Go.Proofs.YtfelefkmbbfdjaaGreatDoor
open Go.ChangeShapes Go.WideShapes Go.ChangeAt Go.RowKit Go.Maps Go.WideMaps
set_option linter.unusedVariables false

theorem wf_who {x : Int} (h : whoB x = true) : (Lit.int .i64 x).wf = true := WalkArith.wf_i64 (by have := whoB_true.1 h; omega)
theorem key_int {x : Int} : WideAt.IsKeyLit (.int .i64 x) := by simp [WideAt.IsKeyLit]
/-- what is wrong with what is pushed -/
def puE (L : List Ak) (F : Int → Int) (a : Ak) : Int := if qcE a ≠ 0 then qcE a else if a.q < F a.w + 1 then 7 else if F a.w + 1 < a.q then 6 else if L.length = 30 then 4 else 0
theorem qcE_zero {a : Ak} (h : qcE a = 0) : whoB a.w = true ∧ deedB a.d = true ∧ 0 < a.t.length ∧ a.t.length ≤ 5 ∧ liE a.t = 0 ∧ (a.d = 0 → tuE a.t = 0) := by
  unfold qcE at h
  split at h
  · cases h
  · rename_i h1
    have h1 : whoB a.w = true ∧ deedB a.d = true := by
      rw [Bool.not_eq_false, Bool.and_eq_true] at h1; exact h1
    split at h
    · have h2 := (tuE_zero h).1
      exact ⟨h1.1, h1.2, (liE_zero h2).1, (liE_zero h2).2.1, h2, fun _ => h⟩
    · rename_i h3
      exact ⟨h1.1, h1.2, (liE_zero h).1, (liE_zero h).2.1, h, fun e => absurd e h3⟩
theorem ownF {A : Option Addr} {n c : Nat} {g : Nat} {off : Nat} (h : A = some ⟨g, off, none⟩) : (Value.slice A n c).ownBlock = some g := by rw [h]; rfl
theorem news_at (w : World) (cs : Array Value) (t : TypeId) : ∀ j u, cs.toList[j]? = some u → (w.alloc (.cells cs t)).cell? ⟨w.heap.size, j, none⟩ = some u := fun j u hj => by
  have := (AtB.new w cs t).cell (i := j) (v := u) (by simpa using hj)
  exact this
end Go.Proofs.YtfelefkmbbfdjaaGreatDoor
