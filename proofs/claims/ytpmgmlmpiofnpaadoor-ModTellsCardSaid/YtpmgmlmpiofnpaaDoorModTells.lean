/- ModTellsCardSaid: any two added, times each other, any power, and any inverse are the reference's: for every four ints. -/
import Derived.Test.YtpmgmlmpiofnpaaDoorRefIn
import Derived.Test.YtpmgmlmpiofnpaaDoorDoor
import Derived.Test.YtpmgmlmpiofnpaaDoorTie
import Derived.Test.YtpmgmlmpiofnpaaDoorCards
import Derived.WalkKit
import Derived.ProofKit
import Derived.OpenShut
import Derived.ShutString
import Derived.ChangeOld
import Derived.WalkLawsBesides
import Derived.WalkSpells
import Derived.RegionTactic
import Derived.ChangeAlike
import Derived.SevenTiedAt
import Derived.Deep.DeepCutAuto
import Derived.Outline
namespace Go.Proofs.YtpmgmlmpiofnpaaDoor.modTells
open Go.ChangeShapes Go.WideShapes Go.ChangeAt Go.RowKit
set_option linter.unusedVariables false

def adE (a b : Int) : Int := if (inB a && inB b) = true then 0 else 1
def adV (a b : Int) : Int := if (inB a && inB b) = true then (a + b) % 257 else 0
def muV (a b : Int) : Int := if (inB a && inB b) = true then a * b % 257 else 0
theorem both {a b : Int} (h : (inB a && inB b) = true) : (0 ≤ a ∧ a < 257) ∧ 0 ≤ b ∧ b < 257 := by
  rw [Bool.and_eq_true] at h; exact ⟨inB_true.1 h.1, inB_true.1 h.2⟩
theorem one_no {a b : Int} (h : (inB a && inB b) = false) : inB a = false ∨ inB b = false := by
  cases ha : inB a with
  | false => exact .inl rfl
  | true => rw [ha] at h; exact .inr (by simpa using h)
theorem add_u (a b : Int) (w : World) : Calls Tryd.prog 18 #[.int .i64 a, .int .i64 b] w fun e w' => e = .returned (.tuple #[.int .i64 (adV a b), eV (adE a b)]) ∧ w = w' := by
  cases h : (inB a && inB b) with
  | true => obtain ⟨⟨h1, h2⟩, h3, h4⟩ := both h
            simp only [adV, adE, h]; exact add_ok a b w h1 h2 h3 h4
  | false => simp only [adV, adE, h]; exact add_no a b w (one_no h)
theorem times_u (a b : Int) (w : World) : Calls Tryd.prog 19 #[.int .i64 a, .int .i64 b] w fun e w' => e = .returned (.tuple #[.int .i64 (muV a b), eV (adE a b)]) ∧ w = w' := by
  cases h : (inB a && inB b) with
  | true => obtain ⟨⟨h1, h2⟩, h3, h4⟩ := both h
            simp only [muV, adE, h]; exact times_ok a b w h1 h2 h3 h4
  | false => simp only [muV, adE, h]; exact times_no a b w (one_no h)
def poE (a n b : Int) : Int := if powB a n b = true then 0 else 1
def poV (a n b : Int) : Int := if powB a n b = true then a ^ n.toNat % b else 0
theorem power_u (a n b : Int) (w : World) : Calls Tryd.prog 21 #[.int .i64 a, .int .i64 n, .int .i64 b] w fun e w' => e = .returned (.tuple #[.int .i64 (poV a n b), eV (poE a n b)]) ∧ w = w' := by
  cases h : powB a n b with
  | true => simp only [poV, poE, h]; exact power_ok a n b w h
  | false => simp only [poV, poE, h]; exact power_no a n b w h
def inE (a : Int) : Int := if inB a = false then 1 else if a = 0 then 5 else 0
def inV (a : Int) : Int := if inE a = 0 then PM.iv a else 0
theorem inverse_u (a : Int) (w : World) : Calls Tryd.prog 22 #[.int .i64 a] w fun e w' => e = .returned (.tuple #[.int .i64 (inV a), eV (inE a)]) ∧ w = w' := by
  cases h : inB a with
  | false => simp only [inV, inE, h]; exact inverse_out a w h
  | true =>
    by_cases h0 : a = 0
    · subst h0; exact inverse_zero w
    · obtain ⟨h1, h2⟩ := inB_true.1 h
      simp only [inV, inE, h, if_neg h0]; exact inverse_ok a w (by omega) h2
/-- the inverse is the first that does it -/
theorem inv_first (a : Int) (h0 : 0 < a) (h1 : a < 257) (k : Int) (k0 : 0 ≤ k) (k1 : k < 257) (h : k * a % 257 = 1) : k = PM.iv a := by
  obtain ⟨i0, i1⟩ := PM.iv_range a
  refine PM.q_inj ?_ k0 k1 i0 i1
  have h2 := PM.q_iv a h0 h1
  have h3 : PM.q k * PM.q a = 1 := by rw [← PM.q_mul, ← PM.q_mod, h]; rfl
  grind

set_option maxHeartbeats 4000000 in
set_option maxRecDepth 100000 in
theorem walk (w : World) (hg : HG w) (a : Int) (_ : I64 a) (b : Int) (_ : I64 b) (n : Int) (_ : I64 n) (d : Int) (_ : I64 d) :
    Calls Tryd.prog 4 #[.int .i64 a, .int .i64 b, .int .i64 n, .int .i64 d] w fun e w' => e = .returned (.bool true) ∧ Below w.heap.size w w' := by
  have hd := DG.refl hg
  clear hg
  go_enter Tryd.func4, Tryd.ntmps4
  go_upto_region 6 with (go_at_call 17; refine (rin_any _ _).mono ?_; rintro e w' ⟨rfl, rfl⟩)
  go_cut [9, 10, 28] (fun s9 s10 s28 wx => s9 = .bool (inB a) ∧ s10 = .bool (inB b) ∧ s28 = .bool (inB a && inB b) ∧ wx = w)
  case first =>
    cases h1 : inB a <;> cases h2 : inB b
    all_goals
      go_wp2_with fail
      go_meet
      case rel => exact ⟨by simp [*], by simp [*], by simp [*], rfl⟩
  case rest =>
    obtain ⟨rfl, rfl, rfl, rfl⟩ := hcut
    go_upto_if 28 with fail
    go_cut [11, 12, 13] (fun s11 s12 s13 wx => s11 = .int .i64 (adE a b) ∧ s12 = .int .i64 (adV a b) ∧ s13 = .int .i64 (muV a b) ∧ wx = wc)
    case first =>
      cases h : (inB a && inB b) with
      | true =>
        have hE : adE a b = 0 := by rw [adE, if_pos h]
        have hV : adV a b = (a + b) % 257 := by rw [adV, if_pos h]
        have hM : muV a b = a * b % 257 := by rw [muV, if_pos h]
        obtain ⟨⟨h1, h2⟩, h3, h4⟩ := both h
        obtain ⟨m1, m2⟩ := mul_bd h1 h2 h3 h4 (by omega)
        have HE := Lib.hid hE; have HV := Lib.hid hV; have HM := Lib.hid hM
        clear hE hV hM h
        go_wp2_with fail
        go_meet
        case rel => exact ⟨by rw [HE.out], by rw [HV.out], by rw [HM.out], rfl⟩
      | false =>
        have hE : adE a b = 1 := by rw [adE, if_neg (by rw [h]; decide)]
        have hV : adV a b = 0 := by rw [adV, if_neg (by rw [h]; decide)]
        have hM : muV a b = 0 := by rw [muV, if_neg (by rw [h]; decide)]
        have HE := Lib.hid hE; have HV := Lib.hid hV; have HM := Lib.hid hM
        clear hE hV hM h
        go_wp2_with fail
        go_meet
        case rel => exact ⟨by rw [HE.out], by rw [HV.out], by rw [HM.out], rfl⟩
    case rest =>
      obtain ⟨rfl, rfl, rfl, rfl⟩ := hcut
      go_upto_region 16 with (first
        | (go_at_call 18; refine (add_u _ _ _).mono ?_; rintro e w' ⟨rfl, rfl⟩)
        | (go_at_call 19; refine (times_u _ _ _).mono ?_; rintro e w' ⟨rfl, rfl⟩)
        | (go_at_call 13; refine (same_eV _ _ _ (by assumption)).mono ?_; rintro e w' ⟨rfl, hd2⟩))
      go_cut [87] (fun s87 wx => s87 = .bool (powB a n d) ∧ wx = w')
      case first =>
        obtain c1 | ⟨c1, c2⟩ | ⟨c1, c2, c3⟩ | ⟨c1, c2, c3, c4⟩ | ⟨c1, c2, c3, c4, c5⟩ | ⟨c1, c2, c3, c4, c5, c6⟩ | ⟨c1, c2, c3, c4, c5, c6⟩ : d < 2 ∨ (2 ≤ d ∧ 1000000 < d) ∨ (2 ≤ d ∧ d ≤ 1000000 ∧ a < 0) ∨ (2 ≤ d ∧ d ≤ 1000000 ∧ 0 ≤ a ∧ d ≤ a) ∨ (2 ≤ d ∧ d ≤ 1000000 ∧ 0 ≤ a ∧ a < d ∧ n < 0) ∨ (2 ≤ d ∧ d ≤ 1000000 ∧ 0 ≤ a ∧ a < d ∧ 0 ≤ n ∧ 1000000 < n) ∨ (2 ≤ d ∧ d ≤ 1000000 ∧ 0 ≤ a ∧ a < d ∧ 0 ≤ n ∧ n ≤ 1000000) := by omega
        rotate_left 6
        · have hp : powB a n d = true := powB_true.2 ⟨c1, c2, c3, c4, c5, c6⟩
          have HP := Lib.hid hp; clear hp
          go_wp2_with fail
          go_meet
          case rel => exact ⟨by rw [HP.out]; try (simp; omega), rfl⟩
        all_goals
          have hp : powB a n d = false := by rw [← Bool.not_eq_true, powB_true]; omega
          have HP := Lib.hid hp; clear hp
          go_wp2_with fail
          go_meet
          case rel => exact ⟨by rw [HP.out]; try (simp; omega), rfl⟩
      case rest =>
        obtain ⟨rfl, rfl⟩ := hcut
        go_upto_if 87 with fail
        go_cut [11, 18] (fun s11 s18 wx => s11 = .int .i64 (poE a n d) ∧ s18 = .int .i64 (poV a n d) ∧ wx = wc)
        case first =>
          cases h : powB a n d with
          | true =>
            have hE : poE a n d = 0 := by rw [poE, if_pos h]
            have hV : poV a n d = a ^ n.toNat % d := by rw [poV, if_pos h]
            have HE := Lib.hid hE; have HV := Lib.hid hV; have HP := Lib.hid (powB_true.1 h)
            clear hE hV h
            obtain ⟨c1, c2, c3, c4, c5, c6⟩ := HP.out
            go_wp2_with (go_at_call 20; refine (rpower_any a n d _ c5 c6 c1 c2 c3 c4).mono ?_; rintro e w' ⟨rfl, rfl⟩)
            go_meet
            case rel => exact ⟨by rw [HE.out], by rw [HV.out], rfl⟩
          | false =>
            have hE : poE a n d = 1 := by rw [poE, if_neg (by rw [h]; decide)]
            have hV : poV a n d = 0 := by rw [poV, if_neg (by rw [h]; decide)]
            have HE := Lib.hid hE; have HV := Lib.hid hV
            clear hE hV h
            go_wp2_with fail
            go_meet
            case rel => exact ⟨by rw [HE.out], by rw [HV.out], rfl⟩
        case rest =>
          obtain ⟨rfl, rfl, rfl⟩ := hcut
          go_upto_if 108 with (first
            | (go_at_call 21; refine (power_u _ _ _ _).mono ?_; rintro e w' ⟨rfl, rfl⟩)
            | (go_at_call 13; refine (same_eV _ _ _ (by assumption)).mono ?_; rintro e w' ⟨rfl, hd3⟩))
          go_cut [9, 11, 18] (fun s9 s11 s18 wx => s9 = .bool (inB a) ∧ s11 = .int .i64 (inE a) ∧ s18 = .int .i64 (inV a) ∧ wx = w')
          case first =>
            cases h : inB a with
            | false =>
              have hE : inE a = 1 := by rw [inE, if_pos h]
              have hV : inV a = 0 := by rw [inV, if_neg (by rw [hE]; decide)]
              have HE := Lib.hid hE; have HV := Lib.hid hV
              clear hE hV
              go_wp2_with fail
              go_meet
              case rel => exact ⟨by simp [*], by rw [HE.out], by rw [HV.out], rfl⟩
            | true =>
              obtain ⟨a0, a1⟩ := inB_true.1 h
              by_cases hz : a = 0
              · have hE : inE a = 5 := by rw [inE, if_neg (by rw [h]; decide), if_pos hz]
                have hV : inV a = 0 := by rw [inV, if_neg (by rw [hE]; decide)]
                have HE := Lib.hid hE; have HV := Lib.hid hV
                have hq : (a == 0) = true := by simp [hz]
                clear hE hV hz
                go_wp2_with fail
                go_meet
                case rel => exact ⟨by simp [*], by rw [HE.out], by rw [HV.out], rfl⟩
              · have hE : inE a = 0 := by rw [inE, if_neg (by rw [h]; decide), if_neg hz]
                have hV : inV a = PM.iv a := by rw [inV, if_pos hE]
                have hq : (a == 0) = false := by simp [hz]
                have hf := fun k k0 k1 hk => inv_first a (by omega) a1 k k0 k1 hk
                have hm := PM.iv_mul a (by omega) a1
                rw [Int.mul_comm] at hm
                obtain ⟨i0, i1⟩ := PM.iv_range a
                have HE := Lib.hid hE; have HV := Lib.hid hV; have HF := Lib.hid hf; have HM := Lib.hid hm
                clear hE hV hz hf hm
                generalize PM.iv a = I at *
                go_wp2_with fail
                go_loop [18] (fun t => ∃ k : Int, 0 ≤ k ∧ k ≤ I ∧ t = .int .i64 k) (fun t => I.toNat - (intOf t).toNat)
                case atStart => exact ⟨0, by omega, i0, rfl⟩
                case round =>
                  obtain ⟨k, k0, k1, rfl⟩ := hrel
                  obtain ⟨m1, m2⟩ := mul_bd (b := 257) k0 (show k < 257 by omega) a0 a1 (by omega)
                  by_cases hk : k = I
                  · have hb : (k * a % 257 != 1) = false := by rw [hk, HM.out]; rfl
                    have HK := Lib.hid hk; clear hk
                    go_wp2_with fail
                    go_meet
                    case rel => exact ⟨by simp [*], by rw [HE.out], by rw [HV.out, HK.out], rfl⟩
                  · have hb : (k * a % 257 != 1) = true := by rw [bne_iff_ne]; exact fun h => hk (HF.out k k0 (by omega) h)
                    go_wp2_with fail
                    go_round
                    case rel => exact ⟨k + 1, by omega, by omega, rfl⟩
                    case measure => simp [intOf]; omega
          case rest =>
            obtain ⟨rfl, rfl, rfl, rfl⟩ := hcut
            go_wp2_with (first
              | (go_at_call 22; refine (inverse_u _ _).mono ?_; rintro e w' ⟨rfl, rfl⟩)
              | (go_at_call 13; refine (same_eV _ _ _ (by assumption)).mono ?_; rintro e w' ⟨rfl, hd4⟩))
            go_ret
            exact ⟨rfl, hd4.2⟩

/-! ### the card's frame -/
set_option maxRecDepth 100000 in
theorem lifted (os : Os) (started : os.Started) (H : Type) (enc : TypeId × Value → H) :
    ReturnsInHanded {} Tryd.checked os 4 .any (fun w args => (Rows.modTellsSpec.pre enc Tryd.prog Tryd.f4 [] false w args ∧ laidMetH Tryd.prog laidL w) ∧ sizedMet enc Tryd.prog Tryd.f4 (OpenSpec.ofChange Rows.modTellsSpec) false w args) (Rows.modTellsSpec.post enc Tryd.prog Tryd.f4 false true false false) := by
  refine returnsInHanded_of_change_and (C := Tryd.checked) (X := fun w _ => laidMetH Tryd.prog laidL w) (fun _ _ _ hh h => h.of_heap hh) door.own started (by kernel_rfl) Tryd.func4
    (ChangeSpec.witness_at (enc := enc) (C := Tryd.checked) (os := os) (X := fun w _ => laidMetH Tryd.prog laidL w) false (laidWorld os) #[.int .i64 0, .int .i64 0, .int .i64 0, .int .i64 0] 8 rfl (by kernel_rfl) (by kernel_rfl) (by kernel_rfl) (by kernel_rfl) (by kernel_rfl) (laidWorld_met os _)) ?_
  intro W base args ds gs before hval0 hW _ _ hL _
  have hg := handle_of_laid hL
  have hval : ∀ (j : Nat) t v, Tryd.f4.params[j]? = some t → args[j]? = some v → Value.okWide Tryd.prog W .any base t v := hval0
  have hW' := hW
  obtain ⟨p, q, hA0, hV, rfl, hfz, hnd⟩ := hW
  have hA : DataW.TrodAll enc Tryd.prog W 0 (fun _ => true) true Tryd.f4.params.toList args.toList ds p := hA0
  rw [Tryd.params4] at hA hval
  obtain ⟨v0, vs0, d0, ds0, p0, q0, hargs, rfl, rfl, h0, r0⟩ := trodAll_cons hA
  obtain ⟨v1, vs1, d1, ds1, p1, q1, rfl, rfl, rfl, h1, r1⟩ := trodAll_cons r0
  obtain ⟨v2, vs2, d2, ds2, p2, q2, rfl, rfl, rfl, h2, r2⟩ := trodAll_cons r1
  obtain ⟨v3, vs3, d3, ds3, p3, q3, rfl, rfl, rfl, h3, r3⟩ := trodAll_cons r2
  obtain ⟨rfl, rfl, rfl⟩ := trodAll_nil r3
  obtain rfl : args = #[v0, v1, v2, v3] := by cases args; simp_all
  obtain ⟨rfl, rfl⟩ := trodVars_none hV
  have k0 := h0
  have lt0 : ∀ x ∈ p0, x.block < W.heap.size := by obtain ⟨m, hm⟩ := k0; exact DataW.trod_lt m _ _ _ hm
  obtain ⟨x0, rfl, w0⟩ := arg_int Tryd.underlying3 (hval 0 3 v0 rfl rfl) h0
  have k1 := h1
  have lt1 : ∀ x ∈ p1, x.block < W.heap.size := by obtain ⟨m, hm⟩ := k1; exact DataW.trod_lt m _ _ _ hm
  obtain ⟨x1, rfl, w1⟩ := arg_int Tryd.underlying3 (hval 1 3 v1 rfl rfl) h1
  have k2 := h2
  have lt2 : ∀ x ∈ p2, x.block < W.heap.size := by obtain ⟨m, hm⟩ := k2; exact DataW.trod_lt m _ _ _ hm
  obtain ⟨x2, rfl, w2⟩ := arg_int Tryd.underlying3 (hval 2 3 v2 rfl rfl) h2
  have k3 := h3
  have lt3 : ∀ x ∈ p3, x.block < W.heap.size := by obtain ⟨m, hm⟩ := k3; exact DataW.trod_lt m _ _ _ hm
  obtain ⟨x3, rfl, w3⟩ := arg_int Tryd.underlying3 (hval 3 3 v3 rfl rfl) h3
  clear hA0 hval0
  refine (walk W hg x0 w0 x1 w1 x2 w2 x3 w3).mono fun e W' ⟨he, bel⟩ => ?_
  subst he
  exact ⟨_, rfl, _, _, _, [], _, [], hW', trodAll_mk1 (shut_bool Tryd.underlying4 _), (trodAll_cons_mk (Below.trod door.laidOut (by kernel_rfl) (of_decide_eq_true (by kernel_rfl)) k0 bel lt0) (trodAll_cons_mk (Below.trod door.laidOut (by kernel_rfl) (of_decide_eq_true (by kernel_rfl)) k1 bel lt1) (trodAll_cons_mk (Below.trod door.laidOut (by kernel_rfl) (of_decide_eq_true (by kernel_rfl)) k2 bel lt2) (trodAll_cons_mk (Below.trod door.laidOut (by kernel_rfl) (of_decide_eq_true (by kernel_rfl)) k3 bel lt3) trodAll_mk0)))), rfl, bel.frame _, fun h => by cases h⟩

theorem over : Rows.ModTellsSaid :=
  OpenClaim.holds_of_wide 4 Tryd.f4 rfl rfl rfl rfl rfl rfl rfl ⟨rfl, rfl, rfl, rfl, rfl⟩ rfl rfl rfl rfl rfl (by kernel_rfl) Tryd.func4 (by kernel_rfl)
    (of_decide_eq_true (by kernel_rfl)) (by unfold Func.isWrapper; first | (rw [if_pos (by decide +kernel)]; kernel_rfl) | (rw [if_neg (by decide +kernel)]; exact ⟨rfl, rfl⟩))
    (fun os started H enc _ => lifted os started H enc)

theorem proved : Rows.ModTellsCardSaid :=
  Claim7.holds_tied_plain_at .later [] [.handle] true _ true over (fun _ h => by cases h) (by kernel_rfl) (fun _ h => by cases h) modTells_row_tie rfl ⟨rfl, rfl⟩ (by kernel_rfl) rfl
    (fun f fn hf hfn => by
      obtain rfl : f = 4 := Option.some.inj ((show Tryd.prog.funcNamed Rows.modTellsRow.func = some 4 by kernel_rfl).symm.trans hf) |>.symm
      obtain rfl : fn = Tryd.f4 := (Option.some.inj (Tryd.func4.symm.trans hfn)).symm
      exact ⟨by kernel_rfl, fun j t ht => by
        rw [Tryd.params4] at ht
        have hm : t ∈ [3, 3, 3, 3] := by simpa using Array.mem_of_getElem? ht
        have hall : ([3, 3, 3, 3].all fun u => !Tryd.prog.wantsStandIn u) = true := by kernel_rfl
        exact (show Tryd.prog.wantsStandIn t = false by simpa using List.all_eq_true.1 hall t hm)⟩)
    (by kernel_rfl)
#print axioms proved

end Go.Proofs.YtpmgmlmpiofnpaaDoor.modTells
