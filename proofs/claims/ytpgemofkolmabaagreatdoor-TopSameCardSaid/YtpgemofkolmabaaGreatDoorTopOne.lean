/- The closed fact of the laws through all layers: what is put is taken. -/
import Derived.Test.YtpgemofkolmabaaGreatDoorSpcPut
import Derived.Test.YtpgemofkolmabaaGreatDoorSpcTake
import Derived.Test.YtpgemofkolmabaaGreatDoorVArg
import Derived.Test.YtpgemofkolmabaaGreatDoorOnce
import Derived.WalkKit
import Derived.RegionTactic
import Derived.Deep.QuietTactic
import Derived.BigQuiet
namespace Go.Proofs.YtpgemofkolmabaaGreatDoor.topOne
open Go.ChangeShapes Go.WideShapes Go.ChangeAt Go.RowKit
set_option linter.unusedVariables false

def vAny : Va := ⟨2, 0, ⟨#[]⟩⟩
def vNum (n : Int) : Va := ⟨0, n, ⟨#[]⟩⟩
def vLock : Va := ⟨1, 0, ⟨#[108, 111, 99, 107]⟩⟩
theorem ok1 {v : Va} (h : v.s.size ≤ maxLen) : okL [v] := fun i hi => by
  obtain rfl : i = 0 := by simpa using hi
  exact h
theorem ok2 {u v : Va} (h1 : u.s.size ≤ maxLen) (h2 : v.s.size ≤ maxLen) : okL [u, v] := fun i hi => by
  simp at hi
  rcases (show i = 0 ∨ i = 1 by omega) with rfl | rfl
  · exact h1
  · exact h2
theorem lit1 (W : World) (v : Va) {g : Nat} (hg : g = W.heap.size) : Vals (W.alloc (.cells #[.int .i64 v.k, .int .i64 v.n, .string v.s] 30)) (some ⟨g, 0, none⟩) [v] := lit_vals W [v] 30 hg
theorem lit2 (W : World) (u v : Va) {base : Nat} : Vin (W.alloc (.cells #[.int .i64 u.k, .int .i64 u.n, .string u.s, .int .i64 v.k, .int .i64 v.n, .string v.s] 30)) base (some ⟨W.heap.size, 0, none⟩) [u, v] :=
  ⟨lit_vals W [u, v] 30 rfl, fun _ a ha => by
    injection ha with ha
    subst ha
    exact .inr ⟨_, heap_alloc_new W _⟩⟩
set_option maxHeartbeats 800000 in
theorem one_any (w : World) : Calls Tryz.prog 29 #[] w fun e w' => e = .returned (.bool true) ∧ Below w.heap.size w w' := by
  go_enter Tryz.func29, Tryz.ntmps29
  go_wp2_with (first | (go_at_call 44; refine (spnew _).mono ?_; rintro e w' ⟨rfl, rfl⟩))
  obtain ⟨W1, hW1⟩ : ∃ W1, W1 = (w.alloc (.cells #[.slice none 0 0] 151)).alloc (.cells #[.int .i64 0, .int .i64 4, .string ⟨#[]⟩] 30) := ⟨_, rfl⟩
  have b1 : Below w.heap.size w W1 := by rw [hW1]; exact bal (bal1 _ _) _
  have s1 : Spc W1 w.heap.size w.heap.size none [] := by rw [hW1]; exact (Spc.new w (Nat.le_refl _)).keep (bal1 _ _)
  have v1 : Vals W1 (some ⟨w.heap.size + 1, 0, none⟩) [vNum 4] := by rw [hW1]; exact lit1 _ (vNum 4) (by simp)
  rw [← hW1]
  have cp := spput_any w.heap.size w.heap.size none [] _ 1 [vNum 4] (by decide) (ok1 (by decide)) W1 s1 v1
  have hpe : putE [] [vNum 4] = 0 := by decide
  rw [putL, hpe, if_pos rfl, eV_zero] at cp
  refine cp.mono ?_
  rintro e w2 ⟨rfl, g2, s2, x2, _⟩
  have b2 := b1.trans (s1.below x2)
  clear cp hpe hW1 v1 x2 s1
  go_wp2_with fail
  have v2 : Vals (w2.alloc (.cells #[.int .i64 2, .int .i64 0, .string ⟨#[]⟩] 30)) (some ⟨w2.heap.size, 0, none⟩) [vAny] := lit1 w2 vAny rfl
  obtain ⟨k, hk, _, _, _, ct⟩ := sptake_ok w.heap.size w.heap.size g2 [[vNum 4]] _ 1 [vAny] (by decide) (ok1 (by decide)) _ (s2.keep (bal1 _ _)) v2 (by decide)
  obtain rfl : k = 0 := by simpa using hk
  have s3 := s2.keep (bal1 w2 (.cells #[.int .i64 2, .int .i64 0, .string ⟨#[]⟩] 30))
  refine ct.mono ?_
  rintro e w3 ⟨B, C, rfl, hv, _, _, _, _, x3⟩
  have b3 := (bal b2 (.cells #[.int .i64 2, .int .i64 0, .string ⟨#[]⟩] 30)).trans (s3.below x3)
  rw [show gg [[vNum 4]] 0 = [vNum 4] from rfl] at hv
  rw [show (gg [[vNum 4]] 0).length = 1 from rfl]
  obtain ⟨b, off, rfl, hbl, k0, k1, k2⟩ := hv.at_ (i := 0) (by decide)
  rw [show (va [vNum 4] 0).n = 4 from rfl, show off + 0 * 3 + 1 = off + 1 by omega] at k1
  clear k0 k2 hv ct v2 s2 s3 x3 b1 b2
  go_wp2_with fail
  go_ret
  exact ⟨ret_true (by first | rfl | (simp; done) | (simp; omega)), b3⟩
end Go.Proofs.YtpgemofkolmabaaGreatDoor.topOne
