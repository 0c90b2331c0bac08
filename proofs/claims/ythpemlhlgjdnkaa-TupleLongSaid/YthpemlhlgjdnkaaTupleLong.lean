/- TupleLongSaid: OTHER LENGTHS NEVER FIT: for every tuple and value. -/
import Derived.Test.YthpemlhlgjdnkaaTupleIs
import Derived.Test.YthpemlhlgjdnkaaVArg
import Derived.Test.YthpemlhlgjdnkaaRows
import Derived.WalkKit
import Derived.ProofKit
import Derived.OpenShut
import Derived.ShutString
import Derived.ChangeOld
import Derived.WalkLawsBesides
import Derived.WalkSpells
import Derived.RegionTactic
import Derived.ChangeAlike
namespace Go.Proofs.Ythpemlhlgjdnkaa.tupleLong
open Go.ChangeShapes Go.WideShapes Go.ChangeAt Go.RowKit
set_option linter.unusedVariables false

theorem va_left {t m : List Va} {i : Nat} (h : i < t.length) : va (t ++ m) i = va t i := by
  simp only [va, List.getD_eq_getElem?_getD]; rw [List.getElem?_append_left h]
theorem lsE_left {t m : List Va} {k : Nat} (h : k ≤ t.length) : lsE (t ++ m) k = lsE t k := by
  induction k with
  | zero => rfl
  | succ k ih => rw [lsE, lsE, ih (by omega), va_left (by omega)]
theorem long_no (t : List Va) (v : Va) : fitB t (t ++ [v]) = false := by
  rw [← Bool.not_eq_true, fitB_true]; intro h; have := h.1; simp at this
theorem long_err {t : List Va} {v : Va} (h : tfE t (t ++ [v]) ≠ 0) : t.length = 0 ∨ tuE (t ++ [v]) ≠ 0 := by
  by_cases h1 : liE t = 0
  · rw [tfE, if_neg (by simp [h1])] at h; exact .inr h
  · by_cases h0 : t.length = 0
    · exact .inl h0
    · refine .inr ?_
      have h2 : liE (t ++ [v]) ≠ 0 := by
        have hl : (t ++ [v]).length = t.length + 1 := by simp
        by_cases h5 : 5 < t.length + 1
        · rw [liE, if_neg (by rw [hl]; omega), if_pos (by rw [hl]; exact h5)]; decide
        · have h6 : liE t = lsE t t.length := by rw [liE, if_neg h0, if_neg (by omega)]
          rw [h6] at h1
          rw [liE, if_neg (by rw [hl]; omega), if_neg (by rw [hl]; omega), hl, lsE, if_pos (by rw [lsE_left (Nat.le_refl _)]; exact h1), lsE_left (Nat.le_refl _)]
          exact h1
      rw [tuE, if_pos h2]; exact h2

set_option maxHeartbeats 600000 in
set_option maxRecDepth 100000 in
theorem walk (w : World) (A : Option Addr) (c : Nat) (t : List Va) (hc : t.length ≤ c) (hm : c ≤ maxLen) (hA : Vals w A t) (hok : okL t) (hr : t.length * 32 ≤ reachBytes) (k n : Int) (s : ByteArray) (_ : I64 k) (_ : I64 n) (hs : s.size ≤ maxLen) :
    Calls Try.prog 4 #[.slice A t.length c, .agg #[.int .i64 k, .int .i64 n, .string s]] w fun e w' => e = .returned (.bool true) ∧ Below w.heap.size w w' := by
  have hrb : reachBytes = 140737488351232 := by decide
  rw [hrb] at hr
  have hnb : t.length * 32 + 32 ≤ 140737488355328 := by omega
  have ctn : ∀ W, Calls Try.prog 12 #[.slice none 0 0] W fun e w' => e = .returned (errV 5) ∧ Below W.heap.size W w' := fun W => tlike_any none 0 [] (by simp) (fun i hi => absurd hi (by simp)) W (Sl.zero)
  have hokm : okL (t ++ [(⟨k, n, s⟩ : Va)]) := fun i hi => by
    by_cases h : i < t.length
    · rw [va_left h]; exact hok i h
    · have : i = t.length := by simp at hi; omega
      subst this
      have : va (t ++ [(⟨k, n, s⟩ : Va)]) t.length = ⟨k, n, s⟩ := by simp [va, List.getD_eq_getElem?_getD]
      rw [this]; exact hs
  have hlen : (t ++ [(⟨k, n, s⟩ : Va)]).length = t.length + 1 := by simp
  have hml : t.length + 1 ≤ maxLen := by unfold maxLen; omega
  have hmt : t.length ≤ maxLen := by omega
  have cf := fun (W : World) (B : Option Addr) (d : Nat) (h1 : Vals W A t) (h2 : Vals W B (t ++ [(⟨k, n, s⟩ : Va)])) => tfits_any A c t B d (t ++ [(⟨k, n, s⟩ : Va)]) hmt (by rw [hlen]; exact hml) hok hokm W h1 h2
  have cc := fun (W : World) (B : Option Addr) (d : Nat) (h2 : Vals W B (t ++ [(⟨k, n, s⟩ : Va)])) => tcheck_any B d (t ++ [(⟨k, n, s⟩ : Va)]) (by rw [hlen]; exact hml) hokm W h2
  rw [hlen] at cf cc
  have hl := fun W g hg => lit_vals W [(⟨k, n, s⟩ : Va)] 23 (g := g) hg
  have HCTN := Lib.hid ctn; have HL := Lib.hid hl
  rw [long_no t (⟨k, n, s⟩ : Va), Bool.and_false] at cf
  have hle := @long_err t (⟨k, n, s⟩ : Va)
  generalize hM : t ++ [(⟨k, n, s⟩ : Va)] = M at *
  generalize tfE t M = E1 at *
  generalize tuE M = E2 at *
  have HM := Lib.hid hM
  clear ctn hl hokm hok hM hlen
  by_cases h1 : E1 = 0
  · rw [h1, eV_zero] at cf
    have CF := Lib.hid cf; clear cf cc hle h1
    go_enter Try.func4, Try.ntmps4
    go_wp2_with fail
    refine (HCTN.out _).mono ?_
    rintro e w1 ⟨rfl, hb1⟩
    have q0 := (hb1.cell (p := ⟨w.heap.size, 0, none⟩) (by simp))
    have q1 := (hb1.cell (p := ⟨w.heap.size, 1, none⟩) (by simp))
    have q2 := (hb1.cell (p := ⟨w.heap.size, 2, none⟩) (by simp))
    have hz1 := hb1.size
    simp at q0 q1 q2 hz1
    have hbw1 : Below w.heap.size w w1 := bcl (bal1 _ _) hb1
    have hA1 := hA.below hbw1 (Nat.le_refl _)
    clear hb1
    go_wp2_with (first
      | (at_builtin; refine wpList_append_vals rfl (.tmp 12) (.tmp 13) rfl w1.heap.size none 0 [] rfl OVals.nil A c t rfl hA1 (by simp; omega) (Nat.le_refl _) ?_; intro A2 c2 w2 ho2 hb2; rw [List.nil_append] at ho2; have q0 := (hb2.cell (p := ⟨w.heap.size, 0, none⟩) (by simp; omega)).trans q0; have q1 := (hb2.cell (p := ⟨w.heap.size, 1, none⟩) (by simp; omega)).trans q1; have q2 := (hb2.cell (p := ⟨w.heap.size, 2, none⟩) (by simp; omega)).trans q2; have hz2 := hb2.size; have hl1 := HL.out w2 w2.heap.size rfl; have HL1 := Lib.hid hl1; clear hl1)
      | (at_builtin; refine wpList_append_vals rfl (.tmp 15) (.tmp 17) rfl w1.heap.size A2 c2 t rfl (ho2.keep (bal1 _ _)) (some ⟨w2.heap.size, 0, none⟩) 1 [⟨k, n, s⟩] rfl HL1.out (by simp; omega) (le_al hz2 _) ?_; intro A3 c3 w3 ho3 hb3))
    have hbw2 := bcl hbw1 hb2
    rw [HM.out] at ho3
    have hbw3 : Below w.heap.size w w3 := (bal hbw2 _).trans (hb3.mono (Nat.le_of_lt hz1))
    have hv3 := ho3.vals
    have hA3 := hA.below hbw3 (Nat.le_refl _)
    clear HL1 ho2 hb2 hbw2 hbw1 hA1 hb3 ho3
    go_wp2_with fail
    refine (CF.out _ _ _ hA3 hv3).mono ?_
    rintro e w4 ⟨rfl, hb4⟩
    go_wp2_with fail
    go_ret
    exact ⟨ret_true (by first | rfl | (simp; done) | (simp; omega)), bcl hbw3 hb4⟩
  · rw [eV_of h1] at cf
    by_cases h2 : E2 = 0
    · have h0 : t.length = 0 := by
        rcases hle h1 with h | h
        · exact h
        · exact absurd h2 h
      rw [h2, eV_zero] at cc
      have hq : ((t.length : Int) == 0) = true := by rw [h0]; rfl
      have CF := Lib.hid cf; have CC := Lib.hid cc; clear cf cc hle h1 h0 h2
      go_enter Try.func4, Try.ntmps4
      go_wp2_with fail
      refine (HCTN.out _).mono ?_
      rintro e w1 ⟨rfl, hb1⟩
      have q0 := (hb1.cell (p := ⟨w.heap.size, 0, none⟩) (by simp))
      have q1 := (hb1.cell (p := ⟨w.heap.size, 1, none⟩) (by simp))
      have q2 := (hb1.cell (p := ⟨w.heap.size, 2, none⟩) (by simp))
      have hz1 := hb1.size
      simp at q0 q1 q2 hz1
      have hbw1 : Below w.heap.size w w1 := bcl (bal1 _ _) hb1
      have hA1 := hA.below hbw1 (Nat.le_refl _)
      clear hb1
      go_wp2_with (first
        | (at_builtin; refine wpList_append_vals rfl (.tmp 12) (.tmp 13) rfl w1.heap.size none 0 [] rfl OVals.nil A c t rfl hA1 (by simp; omega) (Nat.le_refl _) ?_; intro A2 c2 w2 ho2 hb2; rw [List.nil_append] at ho2; have q0 := (hb2.cell (p := ⟨w.heap.size, 0, none⟩) (by simp; omega)).trans q0; have q1 := (hb2.cell (p := ⟨w.heap.size, 1, none⟩) (by simp; omega)).trans q1; have q2 := (hb2.cell (p := ⟨w.heap.size, 2, none⟩) (by simp; omega)).trans q2; have hz2 := hb2.size; have hl1 := HL.out w2 w2.heap.size rfl; have HL1 := Lib.hid hl1; clear hl1)
        | (at_builtin; refine wpList_append_vals rfl (.tmp 15) (.tmp 17) rfl w1.heap.size A2 c2 t rfl (ho2.keep (bal1 _ _)) (some ⟨w2.heap.size, 0, none⟩) 1 [⟨k, n, s⟩] rfl HL1.out (by simp; omega) (le_al hz2 _) ?_; intro A3 c3 w3 ho3 hb3))
      have hbw2 := bcl hbw1 hb2
      rw [HM.out] at ho3
      have hbw3 : Below w.heap.size w w3 := (bal hbw2 _).trans (hb3.mono (Nat.le_of_lt hz1))
      have hv3 := ho3.vals
      have hA3 := hA.below hbw3 (Nat.le_refl _)
      clear HL1 ho2 hb2 hbw2 hbw1 hA1 hb3 ho3
      go_wp2_with fail
      refine (CF.out _ _ _ hA3 hv3).mono ?_
      rintro e w4 ⟨rfl, hb4⟩
      go_wp2_with fail
      refine (CC.out _ _ _ (hv3.below hb4 (Nat.le_refl _))).mono ?_
      rintro e w5 ⟨rfl, hb5⟩
      go_wp2_with fail
      go_ret
      exact ⟨ret_true (by first | rfl | (simp; done) | (simp; omega)), bcl (bcl hbw3 hb4) hb5⟩
    · rw [eV_of h2] at cc
      have CF := Lib.hid cf; have CC := Lib.hid cc; clear cf cc hle h1 h2
      go_enter Try.func4, Try.ntmps4
      go_wp2_with fail
      refine (HCTN.out _).mono ?_
      rintro e w1 ⟨rfl, hb1⟩
      have q0 := (hb1.cell (p := ⟨w.heap.size, 0, none⟩) (by simp))
      have q1 := (hb1.cell (p := ⟨w.heap.size, 1, none⟩) (by simp))
      have q2 := (hb1.cell (p := ⟨w.heap.size, 2, none⟩) (by simp))
      have hz1 := hb1.size
      simp at q0 q1 q2 hz1
      have hbw1 : Below w.heap.size w w1 := bcl (bal1 _ _) hb1
      have hA1 := hA.below hbw1 (Nat.le_refl _)
      clear hb1
      go_wp2_with (first
        | (at_builtin; refine wpList_append_vals rfl (.tmp 12) (.tmp 13) rfl w1.heap.size none 0 [] rfl OVals.nil A c t rfl hA1 (by simp; omega) (Nat.le_refl _) ?_; intro A2 c2 w2 ho2 hb2; rw [List.nil_append] at ho2; have q0 := (hb2.cell (p := ⟨w.heap.size, 0, none⟩) (by simp; omega)).trans q0; have q1 := (hb2.cell (p := ⟨w.heap.size, 1, none⟩) (by simp; omega)).trans q1; have q2 := (hb2.cell (p := ⟨w.heap.size, 2, none⟩) (by simp; omega)).trans q2; have hz2 := hb2.size; have hl1 := HL.out w2 w2.heap.size rfl; have HL1 := Lib.hid hl1; clear hl1)
        | (at_builtin; refine wpList_append_vals rfl (.tmp 15) (.tmp 17) rfl w1.heap.size A2 c2 t rfl (ho2.keep (bal1 _ _)) (some ⟨w2.heap.size, 0, none⟩) 1 [⟨k, n, s⟩] rfl HL1.out (by simp; omega) (le_al hz2 _) ?_; intro A3 c3 w3 ho3 hb3))
      have hbw2 := bcl hbw1 hb2
      rw [HM.out] at ho3
      have hbw3 : Below w.heap.size w w3 := (bal hbw2 _).trans (hb3.mono (Nat.le_of_lt hz1))
      have hv3 := ho3.vals
      have hA3 := hA.below hbw3 (Nat.le_refl _)
      clear HL1 ho2 hb2 hbw2 hbw1 hA1 hb3 ho3
      go_wp2_with fail
      refine (CF.out _ _ _ hA3 hv3).mono ?_
      rintro e w4 ⟨rfl, hb4⟩
      go_wp2_with fail
      refine (CC.out _ _ _ (hv3.below hb4 (Nat.le_refl _))).mono ?_
      rintro e w5 ⟨rfl, hb5⟩
      go_wp2_with fail
      go_ret
      exact ⟨ret_true (by first | rfl | (simp; done) | (simp; omega)), bcl (bcl hbw3 hb4) hb5⟩

/-! ### the row's frame -/
theorem own : ownKnob Try.prog.godebug = none := by kernel_rfl
theorem laidOut : laidOutB Try.prog = true := by kernel_rfl

set_option maxRecDepth 100000 in
theorem lifted (os : Os) (started : os.Started) (H : Type) (enc : TypeId × Value → H) :
    ReturnsInHanded {} Try.checked os 4 .any (Rows.tupleLongSpec.pre6 enc Try.prog Try.f4 Rows.tupleLongRow.domain false) (Rows.tupleLongSpec.post enc Try.prog Try.f4 false true false false) := by
  refine returnsInHanded_of_change_sized (C := Try.checked) own started (by kernel_rfl) Try.func4
    (ChangeSpec.witness6 (enc := enc) (C := Try.checked) false ⟨#[], #[.slice none 0 0, .agg #[.int .i64 0, .int .i64 0, .string ByteArray.empty]], []⟩ 8 (by kernel_rfl) (by kernel_rfl) (by kernel_rfl) (by kernel_rfl)) ?_
  intro W base args ds gs before hval0 hW hcnd hsz _
  have hval : ∀ (j : Nat) t v, Try.f4.params[j]? = some t → args[j]? = some v → Value.okWide Try.prog W .any base t v := hval0
  have hW' := hW
  obtain ⟨p, q, hA0, hV, rfl, hfz, hnd⟩ := hW
  have hA : DataW.TrodAll enc Try.prog W 0 (fun _ => true) true Try.f4.params.toList args.toList ds p := hA0
  rw [Try.params4] at hA hval
  obtain ⟨v0, vs0, d0, ds0, p0, q0, hargs, rfl, rfl, h0, r0⟩ := trodAll_cons hA
  obtain ⟨v1, vs1, d1, ds1, p1, q1, rfl, rfl, rfl, h1, r1⟩ := trodAll_cons r0
  obtain ⟨rfl, rfl, rfl⟩ := trodAll_nil r1
  obtain rfl : args = #[v0, v1] := by cases args; simp_all
  obtain ⟨rfl, rfl⟩ := trodVars_none hV
  have k0 := h0
  have lt0 : ∀ x ∈ p0, x.block < W.heap.size := by obtain ⟨m, hm⟩ := k0; exact DataW.trod_lt m _ _ _ hm
  obtain ⟨A0, c0, x0, rfl, hc0, hm0, hA0, w0⟩ := arg_Vals Try.underlying32 Try.underlying23 (by kernel_rfl) (by kernel_rfl) Try.underlying3 Try.underlying3 Try.underlying9 (hval 0 32 v0 rfl rfl) h0
  have r0' := slice_reach Try.underlying32 k0 hsz 0 (by rw [Try.params4]; rfl) rfl
  rw [show Try.prog.bytesOf 23 = 32 by kernel_rfl] at r0'
  have k1 := h1
  have lt1 : ∀ x ∈ p1, x.block < W.heap.size := by obtain ⟨m, hm⟩ := k1; exact DataW.trod_lt m _ _ _ hm
  obtain ⟨x1, y1, z1, rfl, wx1, wy1, wz1⟩ := arg_Value Try.underlying23 (by kernel_rfl) (by kernel_rfl) Try.underlying3 Try.underlying3 Try.underlying9 (hval 1 23 v1 rfl rfl) h1
  clear hA0 hval0
  refine (walk W A0 c0 x0 hc0 hm0 hA0 w0 r0' x1 y1 z1 wx1 wy1 wz1).mono fun e W' ⟨he, bel⟩ => ?_
  subst he
  exact ⟨_, rfl, _, _, _, [], _, [], hW', trodAll_mk1 (shut_bool Try.underlying4 _), (trodAll_cons_mk (Below.trod laidOut (by kernel_rfl) (of_decide_eq_true (by kernel_rfl)) k0 bel lt0) (trodAll_cons_mk (Below.trod laidOut (by kernel_rfl) (of_decide_eq_true (by kernel_rfl)) k1 bel lt1) trodAll_mk0)), rfl, bel.frame _, fun h => by cases h⟩

theorem over : Rows.tupleLongRow.holds Try.pinned (OpenSpec.ofChange Rows.tupleLongSpec) :=
  OpenClaim.holds_of_wide 4 Try.f4 rfl rfl rfl rfl rfl rfl rfl ⟨rfl, rfl, rfl, rfl, rfl⟩ rfl rfl rfl rfl rfl (by kernel_rfl) Try.func4 (by kernel_rfl)
    (of_decide_eq_true (by kernel_rfl)) (by unfold Func.isWrapper; first | (rw [if_pos (by decide +kernel)]; kernel_rfl) | (rw [if_neg (by decide +kernel)]; exact ⟨rfl, rfl⟩))
    (fun os started H enc _ => lifted os started H enc)

theorem proved : Rows.TupleLongSaid := over
#print axioms proved

end Go.Proofs.Ythpemlhlgjdnkaa.tupleLong
