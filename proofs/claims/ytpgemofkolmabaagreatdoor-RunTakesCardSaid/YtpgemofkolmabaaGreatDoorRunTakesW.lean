/- RunTakes: the walk. -/
import Derived.Test.YtpgemofkolmabaaGreatDoorRnB
import Derived.WalkKit
import Derived.WalkLawsBesides
import Derived.WalkSpells
import Derived.RegionTactic
import Derived.Deep.QuietTactic
import Derived.BigQuiet
import Derived.Outline
namespace Go.Proofs.YtpgemofkolmabaaGreatDoor.runTakes
open Go.ChangeShapes Go.WideShapes Go.ChangeAt Go.RowKit Go.Joins Go.Deep
set_option linter.unusedVariables false

theorem said_none : runF ⟨#[116, 97, 107, 101, 32, 42, 10]⟩ = ⟨#[69, 114, 114, 78, 111, 110, 101, 10]⟩ := (congrArg runF (bytes_eq (by simp [tk1, sess, sTake, cTake, sp, star, nl]))).trans (run_none.trans (bytes_eq (by simp [sess, nmB, nl])))
theorem said_two {a b : Int} (ha : 0 ≤ a ∧ a ≤ 9999) (hb : 0 ≤ b ∧ b ≤ 9999) :
    runF (⟨#[112, 117, 116, 32]⟩ ++ itB a ++ ⟨#[10, 112, 117, 116, 32]⟩ ++ itB b ++ ⟨#[10, 116, 97, 107, 101, 32, 42, 10, 116, 97, 107, 101, 32, 42, 10, 116, 97, 107, 101, 32, 42, 10]⟩) = ⟨#[111, 107, 10, 111, 107, 10]⟩ ++ itB a ++ ⟨#[10]⟩ ++ itB b ++ ⟨#[10, 69, 114, 114, 78, 111, 110, 101, 10]⟩ := (congrArg runF (bytes_eq (by simp [sess, sPut, cPut, sTake, cTake, sp, star, nl]))).trans ((run_takes (a := a) (b := b) ⟨by omega, by omega⟩ ⟨by omega, by omega⟩).trans (bytes_eq (by simp [sess, nmB, nl, txOk])))
set_option maxHeartbeats 400000 in
set_option maxRecDepth 100000 in
theorem walk (w : World) (hr : ∀ W, Below w.heap.size w W → RT W ∧ HG W) (a : Int) (wa : (Lit.int .i64 a).wf = true) (b : Int) (wb : (Lit.int .i64 b).wf = true) :
    Calls Tryz.prog 6 #[.int .i64 a, .int .i64 b] w fun e w' => e = .returned (.bool true) ∧ Below w.heap.size w w' := by
  have c0 := fun (t : ByteArray) (W : World) (hW : Below w.heap.size w W) => run_any t W fun W2 h2 => hr W2 (bcl hW h2)
  by_cases h : 0 ≤ a ∧ a ≤ 9999 ∧ 0 ≤ b ∧ b ≤ 9999
  · obtain ⟨a0, a1, b0, b1⟩ := h
    have ea : itB a = ⟨(Lib.decDigits a.toNat).toArray⟩ := by rw [itB, Lib.itoa, if_neg (by omega)]
    have eb : itB b = ⟨(Lib.decDigits b.toNat).toArray⟩ := by rw [itB, Lib.itoa, if_neg (by omega)]
    have ca := fun (W : World) => rdigits_any a a0 (by omega) W
    have cb := fun (W : World) => rdigits_any b b0 (by omega) W
    have hv := fun (W : World) (hW : Below w.heap.size w W) => c0 (⟨#[112, 117, 116, 32]⟩ ++ itB a ++ ⟨#[10, 112, 117, 116, 32]⟩ ++ itB b ++ ⟨#[10, 116, 97, 107, 101, 32, 42, 10, 116, 97, 107, 101, 32, 42, 10, 116, 97, 107, 101, 32, 42, 10]⟩) W hW
    rw [said_two ⟨a0, a1⟩ ⟨b0, b1⟩] at hv
    rw [← ea] at ca
    rw [← eb] at cb
    clear ea eb
    have za := itB_small (n := a) ⟨by omega, by omega⟩
    have zb := itB_small (n := b) ⟨by omega, by omega⟩
    generalize itB a = X at *
    generalize itB b = Y at *
    have CA := Lib.hid ca; have CB := Lib.hid cb; have C0 := Lib.hid hv
    clear ca cb c0 hv hr
    go_enter Tryz.func6, Tryz.ntmps6
    go_wp2_with fail
    refine (CA.out _).mono ?_
    rintro e w' ⟨rfl, rfl⟩
    go_wp2_with fail
    refine (CB.out _).mono ?_
    rintro e w' ⟨rfl, rfl⟩
    go_wp2_with fail
    refine (C0.out _ (Below.refl _ _)).mono ?_
    rintro e w1 ⟨rfl, hb1⟩
    go_wp2_with fail
    go_ret
    exact ⟨ret_true (by first | rfl | (simp; done) | (simp; omega)), hb1⟩
  · have cases4 : a < 0 ∨ (¬ a < 0 ∧ (9999 < a ∨ (¬ 9999 < a ∧ (b < 0 ∨ (¬ b < 0 ∧ 9999 < b))))) := by omega
    have hv := fun (W : World) (hW : Below w.heap.size w W) => c0 ⟨#[116, 97, 107, 101, 32, 42, 10]⟩ W hW
    rw [said_none] at hv
    have C0 := Lib.hid hv
    clear c0 hv hr h
    rcases cases4 with y1 | ⟨y1, y2 | ⟨y2, y3 | ⟨y3, y4⟩⟩⟩
    all_goals
      go_enter Tryz.func6, Tryz.ntmps6
      go_wp2_with (go_at_call 14; refine (C0.out _ (Below.refl _ _)).mono ?_; rintro e w1 ⟨rfl, hb1⟩)
      go_ret
      exact ⟨ret_true (by first | rfl | (simp; done) | (simp; omega)), hb1⟩
end Go.Proofs.YtpgemofkolmabaaGreatDoor.runTakes
