/- ShareAloneSaid: WITH NOTHING BESIDE IT EACH KNOWS IT: for every secret and every number of shares. -/
import Derived.Test.YtpmgmlmpiofnpaaRows
import Derived.Test.YtpmgmlmpiofnpaaShare
import Derived.WalkKit
import Derived.ProofKit
import Derived.OpenShut
import Derived.ShutString
import Derived.ChangeOld
import Derived.WalkLawsBesides
import Derived.WalkSpells
import Derived.RegionTactic
import Derived.ChangeAlike
namespace Go.Proofs.Ytpmgmlmpiofnpaa.shareAlone
open Go.ChangeShapes Go.WideShapes Go.ChangeAt Go.RowKit
set_option linter.unusedVariables false

theorem hor1 (n x : Int) (h0 : 0 ≤ n) (h1 : n < 257) : PM.hor [n] x = n := by
  simp only [PM.hor]; rw [Int.zero_mul, Int.zero_add]; exact Int.emod_eq_of_lt h0 h1
theorem shares_drop {w : World} {A : Option Addr} {l : List Sh} (h : Shares w A l) {i : Nat} (hi : i < l.length) : ∃ b off, A = some ⟨b, off, none⟩ ∧ Shares w (some ⟨b, off + i * 2, none⟩) (l.drop i) := by
  obtain ⟨b, off, e, hb, hc⟩ := h (by omega)
  refine ⟨b, off, e, fun _ => ⟨b, off + i * 2, rfl, hb, fun j hj k hk => ?_⟩⟩
  have := hc (i + j) (by simp at hj; omega) k hk
  rw [Nat.add_mul, ← Nat.add_assoc] at this
  rw [this]
  simp [shc, ga, gb]

/-- what is dealt of a secret alone, from place i on, is right, and tells it -/
theorem part (s : Int) (hs : inB s = true) (n i : Nat) (hn : n ≤ 7) (hi : i < n) : poiE ((dealL [s] n).drop i) = 0 ∧ thrL (((dealL [s] n).drop i).take 1) 0 = s := by
  obtain ⟨s0, s1⟩ := inB_true.1 hs
  have hg : ∀ j, i + j < n → ga ((dealL [s] n).drop i) j = ((i + j + 1 : Nat) : Int) ∧ gb ((dealL [s] n).drop i) j = s := fun j hj => by
    have h1 := deal_ga [s] n (i + j) hj
    have h2 := deal_gb [s] n (i + j) hj
    rw [hor1 s _ s0 s1] at h2
    exact ⟨by rw [← h1]; simp [ga], by refine Eq.trans ?_ h2; simp [gb]⟩
  have hl : ((dealL [s] n).drop i).length = n - i := by simp [dealL_length]
  have hw : ∀ j k, i + j < n → k ≤ j → wasB ((dealL [s] n).drop i) ((i + j + 1 : Nat) : Int) k = false := by
    intro j k hj hk
    induction k with
    | zero => rfl
    | succ k ih =>
      simp only [wasB]
      rw [ih (by omega), (hg k (by omega)).1]
      simp; omega
  have hp : ∀ k, i + k ≤ n → ptE ((dealL [s] n).drop i) k = 0 := by
    intro k hk
    induction k with
    | zero => rfl
    | succ k ih =>
      simp only [ptE]
      rw [ih (by omega), if_pos rfl]
      have h1 : pinB ((dealL [s] n).drop i) k = true := by
        rw [pinB, (hg k (by omega)).1, (hg k (by omega)).2, hs, Bool.and_true]
        exact inB_true.2 ⟨by omega, by omega⟩
      rw [if_pos h1, (hg k (by omega)).1, hw k k (by omega) (Nat.le_refl _)]
      rfl
  have hpoi : poiE ((dealL [s] n).drop i) = 0 := by
    rw [poiE, if_neg (by omega), if_neg (by omega), hl]
    exact hp (n - i) (by omega)
  refine ⟨hpoi, ?_⟩
  obtain ⟨_, _, hpt⟩ := poi_pts _ hpoi
  have hpt1 := pts_take hpt 1 (by omega)
  have hl1 : (((dealL [s] n).drop i).take 1).length = 1 := by rw [List.length_take, hl]; omega
  rw [hl1] at hpt1
  have := PM.thr_hor hpt1 [s] (by simp) (fun j hj => by
    obtain rfl : j = 0 := by omega
    rw [gb_take _ 1 0 (by omega), (hg 0 (by omega)).2, hor1 s _ s0 s1]) 0
  rw [thrL, hl1, this, hor1 s 0 s0 s1]

set_option maxHeartbeats 1600000 in
set_option maxRecDepth 100000 in
theorem walk (w : World) (s : Int) (_ : I64 s) (m : Int) (_ : I64 m) : Calls Try.prog 12 #[.int .i64 s, .int .i64 m] w fun e w' => e = .returned (.bool true) ∧ Below w.heap.size w w' := by
  by_cases he : shE s [] m = 0
  · obtain ⟨hs, _, _, hm, _⟩ := shE_zero he
    obtain ⟨m0, m1⟩ := manB_true.1 hm
    obtain ⟨s0, s1⟩ := inB_true.1 hs
    obtain ⟨n, rfl⟩ := Int.eq_ofNat_of_zero_le (show 0 ≤ m by omega)
    have cd := fun W => deal_ok s none 0 [] n he W Ints.nil
    have CD := Lib.hid cd
    have HP := Lib.hid (part s hs n)
    have hn7 : n ≤ 7 := by omega
    clear cd he hm
    go_enter Try.func12, Try.ntmps12
    go_wp2_with fail
    refine (CD.out _).mono ?_
    rintro e w1 ⟨A1, c1, rfl, ho1, hb1⟩
    have hS := ho1.shares
    have hcap := ho1.cap
    have hlen := dealL_length [s] n
    have hga := deal_ga [s] n
    have hgb := deal_gb [s] n
    rw [hlen] at hcap
    have HGA := Lib.hid hga; have HGB := Lib.hid hgb
    generalize dealL [s] n = l at *
    clear hga hgb ho1
    have HL := Lib.hid hlen; clear hlen
    obtain ⟨hc0, hcm⟩ := hcap
    unfold maxLen at hcm
    go_wp2_with fail
    go_loopw [7] (fun i wr => ∃ k : Nat, k ≤ n ∧ i = .int .i64 k ∧ Below w1.heap.size w1 wr) (fun i _ => n - (intOf i).toNat)
    case atStart => exact ⟨0, Nat.zero_le _, rfl, Below.refl _ _⟩
    case round =>
      obtain ⟨k, hk, rfl, hb⟩ := hrel
      by_cases hlt : k < n
      · have hSr := hS.below hb (Nat.le_refl _)
        obtain ⟨b, off, rfl, hbl, k1, k2⟩ := hSr.at_ (i := k) (by rw [HL.out]; exact hlt)
        have hg1 := HGA.out k hlt
        have hg2 := HGB.out k hlt
        rw [hor1 s _ s0 s1] at hg2
        rw [hg1] at k1
        rw [hg2] at k2
        obtain ⟨hp, ht⟩ := HP.out k hn7 hlt
        obtain ⟨b', off', e, hSd⟩ := shares_drop hSr (i := k) (by rw [HL.out]; exact hlt)
        simp only [Option.some.injEq, Addr.mk.injEq, and_true] at e
        obtain ⟨rfl, rfl⟩ := e
        have hld : (l.drop k).length = n - k := by rw [List.length_drop, HL.out]
        have hj := join_ok (some ⟨b, off + k * 2, none⟩) (c1 - k) (l.drop k) 1 (by omega) (by unfold maxLen; omega) (by decide) hp (by omega) wr hSd
        rw [ht, hld, show ((1 : Nat) : Int) = 1 from rfl] at hj
        have HJ := Lib.hid hj
        have hck : (c1 = k) = False := by simp; omega
        clear hj hld hp ht hg1 hg2 hSd
        have k1' : wr.cell? ⟨b, off + k * 2, none⟩ = some (.int .i64 ((k : Int) + 1)) := by rw [k1]; rfl
        clear k1
        go_wp2_with fail
        refine HJ.out.mono ?_
        rintro e w2 ⟨rfl, hb2⟩
        have q1 := (hb2.cell (p := ⟨b, off + k * 2, none⟩) hbl).trans k1'
        have q2 := (hb2.cell (p := ⟨b, off + k * 2 + 1, none⟩) hbl).trans k2
        go_wp2_with fail
        go_roundw
        case rel => exact ⟨k + 1, by omega, by go_num, bcl hb hb2⟩
        case measure => simp [intOf]; omega
      · obtain rfl : k = n := by omega
        go_wp2_with fail
        go_ret
        exact ⟨ret_true (by first | rfl | (simp; done) | (simp; omega)), bcl hb1 hb⟩
  · have cd := fun W => deal_no s none 0 [] m he W Ints.nil
    have CD := Lib.hid cd
    have hbad : s < 0 ∨ 257 ≤ s ∨ m < 1 ∨ 7 < m := by
      rcases Int.lt_or_le s 0 with h | h
      · exact .inl h
      · rcases Int.lt_or_le 256 s with h2 | h2
        · exact .inr (.inl (by omega))
        · rcases Int.lt_or_le m 1 with h3 | h3
          · exact .inr (.inr (.inl h3))
          · rcases Int.lt_or_le 7 m with h4 | h4
            · exact .inr (.inr (.inr h4))
            · exact absurd (shE_of (inB_true.2 ⟨h, by omega⟩) (by simp) rfl (manB_true.2 ⟨h3, h4⟩) (by simp; omega)) he
    clear cd he
    rcases hbad with h | h | h | h
    all_goals
      go_enter Try.func12, Try.ntmps12
      go_wp2_with fail
      refine (CD.out _).mono ?_
      rintro e w1 ⟨rfl, rfl⟩
      go_wp2_with fail
      all_goals go_ret
      all_goals exact ⟨ret_true (by first | rfl | (simp; done) | (simp; omega)), (by repeat (first | exact Below.refl _ _ | assumption | refine bal ?_ _ | refine bdn ?_ _ | refine bdr ?_ | refine bcl ?_ (by assumption)))⟩

/-! ### the row's frame -/
theorem own : ownKnob Try.prog.godebug = none := by kernel_rfl
theorem laidOut : laidOutB Try.prog = true := by kernel_rfl

set_option maxRecDepth 100000 in
theorem lifted (os : Os) (started : os.Started) (H : Type) (enc : TypeId × Value → H) :
    ReturnsInHanded {} Try.checked os 12 .any (Rows.shareAloneSpec.pre6 enc Try.prog Try.f12 Rows.shareAloneRow.domain false) (Rows.shareAloneSpec.post enc Try.prog Try.f12 false true false false) := by
  refine returnsInHanded_of_change (C := Try.checked) own started (by kernel_rfl) Try.func12
    (ChangeSpec.witness6 (enc := enc) (C := Try.checked) false ⟨#[], #[.int .i64 0, .int .i64 0], []⟩ 8 (by kernel_rfl) (by kernel_rfl) (by kernel_rfl) (by kernel_rfl)) ?_
  intro W base args ds gs before hval0 hW hcnd _
  have hval : ∀ (j : Nat) t v, Try.f12.params[j]? = some t → args[j]? = some v → Value.okWide Try.prog W .any base t v := hval0
  have hW' := hW
  obtain ⟨p, q, hA0, hV, rfl, hfz, hnd⟩ := hW
  have hA : DataW.TrodAll enc Try.prog W 0 (fun _ => true) true Try.f12.params.toList args.toList ds p := hA0
  rw [Try.params12] at hA hval
  obtain ⟨v0, vs0, d0, ds0, p0, q0, hargs, rfl, rfl, h0, r0⟩ := trodAll_cons hA
  obtain ⟨v1, vs1, d1, ds1, p1, q1, rfl, rfl, rfl, h1, r1⟩ := trodAll_cons r0
  obtain ⟨rfl, rfl, rfl⟩ := trodAll_nil r1
  obtain rfl : args = #[v0, v1] := by cases args; simp_all
  obtain ⟨rfl, rfl⟩ := trodVars_none hV
  have k0 := h0
  have lt0 : ∀ x ∈ p0, x.block < W.heap.size := by obtain ⟨m, hm⟩ := k0; exact DataW.trod_lt m _ _ _ hm
  obtain ⟨x0, rfl, w0⟩ := arg_int Try.underlying3 (hval 0 3 v0 rfl rfl) h0
  have k1 := h1
  have lt1 : ∀ x ∈ p1, x.block < W.heap.size := by obtain ⟨m, hm⟩ := k1; exact DataW.trod_lt m _ _ _ hm
  obtain ⟨x1, rfl, w1⟩ := arg_int Try.underlying3 (hval 1 3 v1 rfl rfl) h1
  clear hA0 hval0
  refine (walk W x0 w0 x1 w1).mono fun e W' ⟨he, bel⟩ => ?_
  subst he
  exact ⟨_, rfl, _, _, _, [], _, [], hW', trodAll_mk1 (shut_bool Try.underlying4 _), (trodAll_cons_mk (Below.trod laidOut (by kernel_rfl) (of_decide_eq_true (by kernel_rfl)) k0 bel lt0) (trodAll_cons_mk (Below.trod laidOut (by kernel_rfl) (of_decide_eq_true (by kernel_rfl)) k1 bel lt1) trodAll_mk0)), rfl, bel.frame _, fun h => by cases h⟩

theorem over : Rows.shareAloneRow.holds Try.pinned (OpenSpec.ofChange Rows.shareAloneSpec) :=
  OpenClaim.holds_of_wide 12 Try.f12 rfl rfl rfl rfl rfl rfl rfl ⟨rfl, rfl, rfl, rfl, rfl⟩ rfl rfl rfl rfl rfl (by kernel_rfl) Try.func12 (by kernel_rfl)
    (of_decide_eq_true (by kernel_rfl)) (by unfold Func.isWrapper; first | (rw [if_pos (by decide +kernel)]; kernel_rfl) | (rw [if_neg (by decide +kernel)]; exact ⟨rfl, rfl⟩))
    (fun os started H enc _ => lifted os started H enc)

theorem proved : Rows.ShareAloneSaid := over
#print axioms proved

end Go.Proofs.Ytpmgmlmpiofnpaa.shareAlone
