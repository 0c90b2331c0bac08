/- What a session's beginning is answered: plain. RunBegins: the walk. -/
import Derived.Test.YtpgemofkolmabaaGreatDoorRnB
import Derived.WalkKit
import Derived.WalkLawsBesides
import Derived.WalkSpells
import Derived.RegionTactic
import Derived.Deep.QuietTactic
import Derived.BigQuiet
import Derived.Outline
namespace Go.Proofs.YtpgemofkolmabaaGreatDoor.runBegins
set_option linter.unusedVariables false

theorem lns_two : ∀ (p r : List UInt8), (p = [] ∨ p.getLast? = some 10) → lns (p ++ r) = lns p ++ lns r
  | [], r, _ => rfl
  | x :: q, r, h => by
    have hq : q = [] ∨ q.getLast? = some 10 := by
      rcases h with h | h
      · cases h
      · cases q with
        | nil => exact .inl rfl
        | cons y z => exact .inr (by rwa [List.getLast?_cons_cons] at h)
    have ih := lns_two q r hq
    by_cases hx : x = 10
    · rw [List.cons_append, lns, if_pos hx, lns, if_pos hx, ih]; rfl
    · have hne : q ≠ [] := by
        rintro rfl
        rcases h with h | h
        · cases h
        · exact hx (by simpa using h)
      have hl : lns q ≠ [] := by
        cases q with
        | nil => exact absurd rfl hne
        | cons y z =>
          rw [lns]
          split
          · simp
          · split <;> simp
      obtain ⟨a, b, e⟩ : ∃ a b, lns q = a :: b := by
        cases hh : lns q with
        | nil => exact absurd hh hl
        | cons a b => exact ⟨a, b, rfl⟩
      rw [List.cons_append, lns, if_neg hx, lns, if_neg hx, ih, e]
      rfl
theorem fold_pref : ∀ (l : List ByteArray) (x : ByteArray × List (List Va)), ∃ r, (l.foldl stepF x).1 = x.1 ++ r
  | [], x => ⟨⟨#[]⟩, bytes_eq (by simp)⟩
  | p :: l, x => by
    obtain ⟨r, h⟩ := fold_pref l (stepF x p)
    refine ⟨((lineF x.2 (noEnd p)).1 ++ ⟨#[10]⟩) ++ r, ?_⟩
    rw [List.foldl_cons, h]
    exact bytes_eq (by simp [stepF])
/-- the answers to a beginning are a beginning of the answers -/
theorem runF_pref {t : ByteArray} {k : Nat} (ht : t.size ≤ 3000) (hk : k ≤ t.size) (h : k = t.size ∨ k = 0 ∨ ∃ h : k - 1 < t.size, t[k - 1]'h = 10) : ∃ r, runF t = runF (t.extract 0 k) ++ r := by
  have hz : (t.extract 0 k).size = k := by rw [ByteArray.size_extract]; omega
  have e0 : t.data.toList = t.data.toList.take k ++ t.data.toList.drop k := (List.take_append_drop _ _).symm
  have hlen : t.data.toList.length = t.size := by rw [Array.length_toList]; rfl
  have e1 : (t.extract 0 k).data.toList = t.data.toList.take k := by rw [ext_take]
  have e2 : lns t.data.toList = lns (t.data.toList.take k) ++ lns (t.data.toList.drop k) := by
    rcases h with h | h | ⟨h1, h⟩
    · rw [h, ← hlen, List.take_length, List.drop_length]
      exact (List.append_nil _).symm
    · rw [h]; rfl
    · by_cases h0 : k = 0
      · rw [h0]; rfl
      · have hl : (t.data.toList.take k).getLast? = some 10 := by
          rw [List.getLast?_eq_getElem?, List.length_take, hlen, Nat.min_eq_left hk, List.getElem?_take, if_pos (by omega), List.getElem?_eq_getElem (by rw [hlen]; omega)]
          rw [← h]; rfl
        rw [← lns_two _ _ (.inr hl), List.take_append_drop]
  have e3 : lnB t = lnB (t.extract 0 k) ++ lnB ⟨(t.data.toList.drop k).toArray⟩ := by rw [lnB, lnB, lnB, e1, e2, List.map_append]
  rw [runF, if_neg (by omega), runF, if_neg (by omega), e3, runL, List.foldl_append]
  exact fold_pref _ _
theorem l1 : lineF [] ⟨#[112, 117, 116, 32, 49, 44, 58, 97]⟩ = (⟨#[111, 107]⟩, [[⟨0, 1, ⟨#[]⟩⟩, ⟨1, 0, ⟨#[97]⟩⟩]]) := by decide +kernel
theorem l2 : lineF [[⟨0, 1, ⟨#[]⟩⟩, ⟨1, 0, ⟨#[97]⟩⟩]] ⟨#[112, 117, 116, 32, 50, 44, 58, 97]⟩ = (⟨#[111, 107]⟩, [[⟨0, 1, ⟨#[]⟩⟩, ⟨1, 0, ⟨#[97]⟩⟩], [⟨0, 2, ⟨#[]⟩⟩, ⟨1, 0, ⟨#[97]⟩⟩]]) := by decide +kernel
theorem l3 : lineF [[⟨0, 1, ⟨#[]⟩⟩, ⟨1, 0, ⟨#[97]⟩⟩], [⟨0, 2, ⟨#[]⟩⟩, ⟨1, 0, ⟨#[97]⟩⟩]] ⟨#[114, 101, 97, 100, 32, 42, 44, 58, 97]⟩ = (⟨#[49, 44, 58, 97]⟩, [[⟨0, 1, ⟨#[]⟩⟩, ⟨1, 0, ⟨#[97]⟩⟩], [⟨0, 2, ⟨#[]⟩⟩, ⟨1, 0, ⟨#[97]⟩⟩]]) := by decide +kernel
theorem l4 : lineF [[⟨0, 1, ⟨#[]⟩⟩, ⟨1, 0, ⟨#[97]⟩⟩], [⟨0, 2, ⟨#[]⟩⟩, ⟨1, 0, ⟨#[97]⟩⟩]] ⟨#[102, 108, 121]⟩ = (⟨#[98, 97, 100]⟩, [[⟨0, 1, ⟨#[]⟩⟩, ⟨1, 0, ⟨#[97]⟩⟩], [⟨0, 2, ⟨#[]⟩⟩, ⟨1, 0, ⟨#[97]⟩⟩]]) := by decide +kernel
theorem l5 : lineF [[⟨0, 1, ⟨#[]⟩⟩, ⟨1, 0, ⟨#[97]⟩⟩], [⟨0, 2, ⟨#[]⟩⟩, ⟨1, 0, ⟨#[97]⟩⟩]] ⟨#[116, 97, 107, 101, 32, 42, 44, 42]⟩ = (⟨#[49, 44, 58, 97]⟩, [[⟨0, 2, ⟨#[]⟩⟩, ⟨1, 0, ⟨#[97]⟩⟩]]) := by decide +kernel
theorem l6 : lineF [[⟨0, 2, ⟨#[]⟩⟩, ⟨1, 0, ⟨#[97]⟩⟩]] ⟨#[99, 111, 117, 110, 116, 32, 42, 44, 42]⟩ = (⟨#[49]⟩, [[⟨0, 2, ⟨#[]⟩⟩, ⟨1, 0, ⟨#[97]⟩⟩]]) := by decide +kernel
theorem l7 : lineF [[⟨0, 2, ⟨#[]⟩⟩, ⟨1, 0, ⟨#[97]⟩⟩]] ⟨#[111, 110, 99, 101, 32, 51, 44, 42, 32, 51, 44, 58, 98]⟩ = (⟨#[121, 101, 115]⟩, [[⟨0, 2, ⟨#[]⟩⟩, ⟨1, 0, ⟨#[97]⟩⟩], [⟨0, 3, ⟨#[]⟩⟩, ⟨1, 0, ⟨#[98]⟩⟩]]) := by decide +kernel
theorem l8 : lineF [[⟨0, 2, ⟨#[]⟩⟩, ⟨1, 0, ⟨#[97]⟩⟩], [⟨0, 3, ⟨#[]⟩⟩, ⟨1, 0, ⟨#[98]⟩⟩]] ⟨#[111, 110, 99, 101, 32, 51, 44, 42, 32, 51, 44, 58, 99]⟩ = (⟨#[110, 111]⟩, [[⟨0, 2, ⟨#[]⟩⟩, ⟨1, 0, ⟨#[97]⟩⟩], [⟨0, 3, ⟨#[]⟩⟩, ⟨1, 0, ⟨#[98]⟩⟩]]) := by decide +kernel
theorem l9 : lineF [[⟨0, 2, ⟨#[]⟩⟩, ⟨1, 0, ⟨#[97]⟩⟩], [⟨0, 3, ⟨#[]⟩⟩, ⟨1, 0, ⟨#[98]⟩⟩]] ⟨#[114, 101, 97, 100, 32, 55]⟩ = (⟨#[69, 114, 114, 78, 111, 110, 101]⟩, [[⟨0, 2, ⟨#[]⟩⟩, ⟨1, 0, ⟨#[97]⟩⟩], [⟨0, 3, ⟨#[]⟩⟩, ⟨1, 0, ⟨#[98]⟩⟩]]) := by decide +kernel
theorem l10 : lineF [[⟨0, 2, ⟨#[]⟩⟩, ⟨1, 0, ⟨#[97]⟩⟩], [⟨0, 3, ⟨#[]⟩⟩, ⟨1, 0, ⟨#[98]⟩⟩]] ⟨#[112, 114, 105, 110, 116, 32, 53]⟩ = (⟨#[50, 55, 48]⟩, [[⟨0, 2, ⟨#[]⟩⟩, ⟨1, 0, ⟨#[97]⟩⟩], [⟨0, 3, ⟨#[]⟩⟩, ⟨1, 0, ⟨#[98]⟩⟩]]) := by decide +kernel
theorem l11 : lineF [[⟨0, 2, ⟨#[]⟩⟩, ⟨1, 0, ⟨#[97]⟩⟩], [⟨0, 3, ⟨#[]⟩⟩, ⟨1, 0, ⟨#[98]⟩⟩]] ⟨#[100, 101, 97, 108, 32, 53, 32, 50, 32, 51]⟩ = (⟨#[55, 32, 57, 32, 49, 49]⟩, [[⟨0, 2, ⟨#[]⟩⟩, ⟨1, 0, ⟨#[97]⟩⟩], [⟨0, 3, ⟨#[]⟩⟩, ⟨1, 0, ⟨#[98]⟩⟩]]) := by decide +kernel
theorem fact_in : (⟨#[112, 117, 116, 32, 49, 44, 58, 97, 10, 112, 117, 116, 32, 50, 44, 58, 97, 10, 114, 101, 97, 100, 32, 42, 44, 58, 97, 10, 102, 108, 121, 10, 116, 97, 107, 101, 32, 42, 44, 42, 10, 99, 111, 117, 110, 116, 32, 42, 44, 42, 10, 111, 110, 99, 101, 32, 51, 44, 42, 32, 51, 44, 58, 98, 10, 111, 110, 99, 101, 32, 51, 44, 42, 32, 51, 44, 58, 99, 10, 114, 101, 97, 100, 32, 55, 10, 112, 114, 105, 110, 116, 32, 53, 10, 100, 101, 97, 108, 32, 53, 32, 50, 32, 51, 10]⟩ : ByteArray) = sess [⟨#[112, 117, 116, 32, 49, 44, 58, 97]⟩, ⟨#[112, 117, 116, 32, 50, 44, 58, 97]⟩, ⟨#[114, 101, 97, 100, 32, 42, 44, 58, 97]⟩, ⟨#[102, 108, 121]⟩, ⟨#[116, 97, 107, 101, 32, 42, 44, 42]⟩, ⟨#[99, 111, 117, 110, 116, 32, 42, 44, 42]⟩, ⟨#[111, 110, 99, 101, 32, 51, 44, 42, 32, 51, 44, 58, 98]⟩, ⟨#[111, 110, 99, 101, 32, 51, 44, 42, 32, 51, 44, 58, 99]⟩, ⟨#[114, 101, 97, 100, 32, 55]⟩, ⟨#[112, 114, 105, 110, 116, 32, 53]⟩, ⟨#[100, 101, 97, 108, 32, 53, 32, 50, 32, 51]⟩] := by decide +kernel
theorem fact : runF ⟨#[112, 117, 116, 32, 49, 44, 58, 97, 10, 112, 117, 116, 32, 50, 44, 58, 97, 10, 114, 101, 97, 100, 32, 42, 44, 58, 97, 10, 102, 108, 121, 10, 116, 97, 107, 101, 32, 42, 44, 42, 10, 99, 111, 117, 110, 116, 32, 42, 44, 42, 10, 111, 110, 99, 101, 32, 51, 44, 42, 32, 51, 44, 58, 98, 10, 111, 110, 99, 101, 32, 51, 44, 42, 32, 51, 44, 58, 99, 10, 114, 101, 97, 100, 32, 55, 10, 112, 114, 105, 110, 116, 32, 53, 10, 100, 101, 97, 108, 32, 53, 32, 50, 32, 51, 10]⟩ = ⟨#[111, 107, 10, 111, 107, 10, 49, 44, 58, 97, 10, 98, 97, 100, 10, 49, 44, 58, 97, 10, 49, 10, 121, 101, 115, 10, 110, 111, 10, 69, 114, 114, 78, 111, 110, 101, 10, 50, 55, 48, 10, 55, 32, 57, 32, 49, 49, 10]⟩ := by
  rw [fact_in, runF, if_neg (by decide +kernel), runL_sess _ (by decide +kernel)]
  rw [step_one l1]
  rw [step_one l2]
  rw [step_one l3]
  rw [step_one l4]
  rw [step_one l5]
  rw [step_one l6]
  rw [step_one l7]
  rw [step_one l8]
  rw [step_one l9]
  rw [step_one l10]
  rw [step_one l11]
  decide +kernel
end Go.Proofs.YtpgemofkolmabaaGreatDoor.runBegins
namespace Go.Proofs.YtpgemofkolmabaaGreatDoor.runBegins
open Go.ChangeShapes Go.WideShapes Go.ChangeAt Go.RowKit Go.Joins Go.Deep
set_option linter.unusedVariables false

/-- where the beginning ends -/
def Edge (t : ByteArray) (K : Nat) : Prop := K = 0 ∨ ∃ h : K - 1 < t.size, t[K - 1]'h = 10
theorem ext_left (A r : ByteArray) : (A ++ r).extract 0 A.size = A := bytes_eq (by
  rw [ext_take, app_list]
  exact List.take_left' (by rw [Array.length_toList]; rfl))
set_option maxHeartbeats 400000 in
set_option maxRecDepth 100000 in
theorem walk (w : World) (hr : ∀ W, Below w.heap.size w W → RT W ∧ HG W) (t : ByteArray) (ht : t.size ≤ maxLen) (m : Int) (wm : (Lit.int .i64 m).wf = true) :
    Calls Tryz.prog 5 #[.string t, .int .i64 m] w fun e w' => e = .returned (.bool true) ∧ Below w.heap.size w w' := by
  have c0 := fun (t : ByteArray) (W : World) (hW : Below w.heap.size w W) => run_any t W fun W2 h2 => hr W2 (bcl hW h2)
  have hv := fun (W : World) (hW : Below w.heap.size w W) => c0 ⟨#[112, 117, 116, 32, 49, 44, 58, 97, 10, 112, 117, 116, 32, 50, 44, 58, 97, 10, 114, 101, 97, 100, 32, 42, 44, 58, 97, 10, 102, 108, 121, 10, 116, 97, 107, 101, 32, 42, 44, 42, 10, 99, 111, 117, 110, 116, 32, 42, 44, 42, 10, 111, 110, 99, 101, 32, 51, 44, 42, 32, 51, 44, 58, 98, 10, 111, 110, 99, 101, 32, 51, 44, 42, 32, 51, 44, 58, 99, 10, 114, 101, 97, 100, 32, 55, 10, 112, 114, 105, 110, 116, 32, 53, 10, 100, 101, 97, 108, 32, 53, 32, 50, 32, 51, 10]⟩ W hW
  rw [fact] at hv
  unfold maxLen at ht
  by_cases h3 : 3000 < t.size
  · have cl := fun (W : World) (hW : Below w.heap.size w W) => c0 t W hW
    rw [show runF t = cLong from if_pos h3] at cl
    have h3 : (3000 : Int) < (t.size : Int) := by omega
    simp only [cLong] at cl
    have C0 := Lib.hid hv; have CL := Lib.hid cl
    clear c0 hv hr cl
    go_enter Tryz.func5, Tryz.ntmps5
    go_wp2_with fail
    refine (C0.out _ (Below.refl _ _)).mono ?_
    rintro e w1 ⟨rfl, hb1⟩
    go_wp2_with (go_at_call 14; refine (CL.out _ hb1).mono ?_; rintro e w2 ⟨rfl, hb2⟩)
    go_ret
    exact ⟨ret_true (by first | rfl | (simp; done) | (simp; omega)), bcl hb1 hb2⟩
  · have h3' : ¬ (3000 : Int) < (t.size : Int) := by omega
    have hp := fun (K : Nat) (hk : K ≤ t.size) (h : K = t.size ∨ Edge t K) => runF_pref (by omega) hk h
    have C0 := Lib.hid hv; have CL := Lib.hid c0; have HP := Lib.hid hp
    clear c0 hv hr hp
    go_enter Tryz.func5, Tryz.ntmps5
    go_wp2_with fail
    refine (C0.out _ (Below.refl _ _)).mono ?_
    rintro e w1 ⟨rfl, hb1⟩
    go_wp2_with fail
    go_loopw [7, 8] (fun k n wr => ∃ (K N : Nat), k = .int .i64 K ∧ n = .int .i64 N ∧ K ≤ t.size ∧ N ≤ K ∧ ((N : Int) < m ∨ Edge t K) ∧ wr = w1) (fun k _ _ => t.size - (intOf k).toNat)
    case atStart => exact ⟨0, 0, rfl, rfl, Nat.zero_le _, Nat.le_refl _, .inr (.inl rfl), rfl⟩
    case round =>
      obtain ⟨K, N, rfl, rfl, hK, hN, hE, rfl⟩ := hrel
      by_cases y1 : (K : Int) < (t.size : Int)
      · by_cases y2 : (N : Int) < m
        · have k0 : (0 : Int) ≤ (K : Int) := by omega
          go_wp2_with fail
          all_goals go_roundw
          case rel =>
            rename_i heq
            refine ⟨K + 1, N + 1, by go_num, by go_num, by omega, by omega, .inr (.inr ⟨by omega, ?_⟩), by first | rfl | trivial⟩
            simp only [Nat.add_sub_cancel]
            have := eq_of_beq heq
            have h2 : (t[K]'(by omega)).toNat = 10 := by omega
            exact UInt8.toNat_inj.1 h2
          case measure => simp [intOf]; omega
          case rel => exact ⟨K + 1, N, by go_num, rfl, by omega, by omega, .inl y2, by first | rfl | trivial⟩
          case measure => simp [intOf]; omega
        · have hD : K = t.size ∨ Edge t K := by
            rcases hE with h | h
            · exact absurd h y2
            · exact .inr h
          obtain ⟨r, hr⟩ := HP.out K hK hD
          have ca := CL.out (t.extract 0 K)
          have cb := CL.out t
          rw [hr] at cb
          generalize runF (t.extract 0 K) = A at *
          have hle : A.size ≤ (A ++ r).size := by rw [ByteArray.size_append]; omega
          have CA := Lib.hid ca; have CB := Lib.hid cb
          have k0 : (0 : Int) ≤ (K : Int) := by omega
          have k1 : (K : Int) ≤ (t.size : Int) := by omega
          have hx : (A ++ r).extract 0 A.size = A := ext_left A r
          clear hr hE hD ca cb
          go_wp2_with fail
          refine (CA.out _ hb1).mono ?_
          rintro e w2 ⟨rfl, hb2⟩
          have hb3 := bcl hb1 hb2
          clear hb1 hb2
          go_wp2_with fail
          refine (CB.out _ hb3).mono ?_
          rintro e w3 ⟨rfl, hb4⟩
          go_wp2_with fail
          all_goals go_ret
          all_goals exact ⟨ret_true (by first | rfl | (simp; done) | (simp; omega)), bcl hb3 hb4⟩
      · obtain rfl : K = t.size := by omega
        have ca := CL.out t
        generalize runF t = A at *
        have CA := Lib.hid ca
        have k0 : (0 : Int) ≤ (t.size : Int) := by omega
        clear hE ca
        go_wp2_with fail
        refine (CA.out _ hb1).mono ?_
        rintro e w2 ⟨rfl, hb2⟩
        have hb3 := bcl hb1 hb2
        clear hb1 hb2
        go_wp2_with fail
        refine (CA.out _ hb3).mono ?_
        rintro e w3 ⟨rfl, hb4⟩
        go_wp2_with fail
        all_goals go_ret
        all_goals exact ⟨ret_true (by first | rfl | (simp; done) | (simp; omega)), bcl hb3 hb4⟩
end Go.Proofs.YtpgemofkolmabaaGreatDoor.runBegins
