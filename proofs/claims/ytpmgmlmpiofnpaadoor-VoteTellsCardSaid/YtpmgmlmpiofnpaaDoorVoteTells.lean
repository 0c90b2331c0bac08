/- VoteTellsCardSaid: how many of any number may lie, what wins, and how many say the same at most, is the reference's: for every number, texts and need. -/
import Derived.Test.YtpmgmlmpiofnpaaDoorRefWin
import Derived.Test.YtpmgmlmpiofnpaaDoorDoor
import Derived.Test.YtpmgmlmpiofnpaaDoorTie
import Derived.Test.YtpmgmlmpiofnpaaDoorCards
import Derived.WalkKit
import Derived.ProofKit
import Derived.OpenShut
import Derived.ShutString
import Derived.ChangeOld
import Derived.WalkLawsBesides
import Derived.WalkSpells
import Derived.RegionTactic
import Derived.ChangeAlike
import Derived.SevenTiedAt
import Derived.Deep.DeepCutAuto
import Derived.Outline
import Derived.Deep.QuietTactic
import Derived.BigQuiet
namespace Go.Proofs.YtpmgmlmpiofnpaaDoor.voteTells
open Go.ChangeShapes Go.WideShapes Go.ChangeAt Go.RowKit
set_option linter.unusedVariables false

def faE (n : Int) : Int := if copB n = true then 0 else 1
def faV (n : Int) : Int := if copB n = true then (n - 1) / 3 else 0
theorem faults_u (n : Int) (w : World) : Calls Tryd.prog 12 #[.int .i64 n] w fun e w' => e = .returned (.tuple #[.int .i64 (faV n), eV (faE n)]) ∧ w = w' := by
  cases h : copB n with
  | true => obtain ⟨h1, h2⟩ := copB_true.1 h
            simp only [faV, faE, h]; exact faults_ok n w h1 h2
  | false => simp only [faV, faE, h]; exact faults_no n w h
def wiE (ss : List ByteArray) (need : Int) : Int := if copB need = false then 1 else if 7 < ss.length then 4 else match wn ss need ss.length with
  | some _ => 0
  | none => 5
def wiS (ss : List ByteArray) (need : Int) : ByteArray := if copB need = false then ⟨#[]⟩ else if 7 < ss.length then ⟨#[]⟩ else match wn ss need ss.length with
  | some i => gs ss i
  | none => ⟨#[]⟩
theorem win_u (A : Option Addr) (c : Nat) (ss : List ByteArray) (need : Int) (w : World) (hA : Strs w A ss) (hs : ∀ i, i < ss.length → (gs ss i).size ≤ maxLen) :
    Calls Tryd.prog 15 #[.slice A ss.length c, .int .i64 need] w fun e w' => e = .returned (.tuple #[.string (wiS ss need), eV (wiE ss need)]) ∧ Below w.heap.size w w' := by
  cases hc : copB need with
  | false =>
    simp only [wiS, wiE, hc, if_true]
    exact (win_range A c ss need w hc).mono fun e w' ⟨h1, h2⟩ => ⟨h1, h2 ▸ Below.refl _ _⟩
  | true =>
    by_cases h7 : 7 < ss.length
    · simp only [wiS, wiE, hc, if_pos h7, Bool.true_eq_false, if_false]
      exact (win_full A c ss need w hc h7).mono fun e w' ⟨h1, h2⟩ => ⟨h1, h2 ▸ Below.refl _ _⟩
    · refine (win_any A c ss need w hc (by omega) hA hs).mono fun e w' ⟨h1, h2⟩ => ⟨?_, h2⟩
      rw [h1]
      simp only [wiS, wiE, winV, hc, if_neg h7, Bool.true_eq_false, if_false]
      cases wn ss need ss.length <;> rfl
/-- the most that say the same as one of the first k -/
def mx (ss : List ByteArray) : Nat → Nat
  | 0 => 0
  | k + 1 => max (mx ss k) (cn ss ss.length (gs ss k))
theorem cn_mono (ss : List ByteArray) (s : ByteArray) {k n : Nat} (h : k ≤ n) : cn ss k s ≤ cn ss n s := by
  induction n with
  | zero => obtain rfl : k = 0 := by omega
            exact Nat.le_refl _
  | succ n ih =>
    by_cases e : k = n + 1
    · subst e; exact Nat.le_refl _
    · have := ih (by omega); rw [cn_succ]; omega
theorem mx_mo (ss : List ByteArray) : mx ss ss.length = mo ss ss.length := by
  have h1 : ∀ k, mx ss k ≤ mo ss ss.length := by
    intro k
    induction k with
    | zero => simp [mx]
    | succ k ih => have := cn_le_mo ss (gs ss k) ss.length; simp only [mx]; omega
  have h2 : ∀ k, k ≤ ss.length → mo ss k ≤ mx ss k := by
    intro k
    induction k with
    | zero => intro _; simp [mo]
    | succ k ih =>
      intro hk
      have h3 := ih (by omega)
      have h4 := cn_mono ss (gs ss k) hk
      rw [cn_succ, if_pos rfl] at h4
      simp only [mo, mx]; omega
  exact Nat.le_antisymm (h1 _) (h2 _ (Nat.le_refl _))
theorem mx_le (ss : List ByteArray) (k : Nat) : mx ss k ≤ ss.length := by
  induction k with
  | zero => simp [mx]
  | succ k ih => have := cn_le ss ss.length (gs ss k); simp only [mx]; omega

set_option maxHeartbeats 600000 in
set_option maxRecDepth 100000 in
theorem walk (w : World) (hg : HG w) (n : Int) (hn : I64 n) (A : Option Addr) (c : Nat) (ss : List ByteArray) (hc : ss.length ≤ c) (hcm : c ≤ maxLen) (hA : Strs w A ss) (hs : ∀ i, i < ss.length → (gs ss i).size ≤ maxLen) (need : Int) (_ : I64 need) :
    Calls Tryd.prog 3 #[.int .i64 n, .slice A ss.length c, .int .i64 need] w fun e w' => e = .returned (.bool true) ∧ Below w.heap.size w w' := by
  unfold maxLen at hcm
  have cwi := fun W hX => win_u A c ss need W hX hs
  have cmo := fun (h7 : ss.length ≤ 7) W hX => most_any A c ss W h7 hX hs
  have CWI := Lib.hid cwi; have CMO := Lib.hid cmo; clear cwi cmo hs
  have hd := DG.refl hg
  clear hg
  go_enter Tryd.func3, Tryd.ntmps3
  go_upto_region 3 with fail
  go_cut [26] (fun s26 wx => s26 = .bool (!copB n) ∧ wx = w)
  case first =>
    obtain h | ⟨h, h'⟩ | ⟨h, h'⟩ : n < 1 ∨ (1 ≤ n ∧ 7 < n) ∨ (1 ≤ n ∧ n ≤ 7) := by omega
    rotate_left 2
    · have hp : copB n = true := copB_true.2 ⟨h, h'⟩
      have HP := Lib.hid hp; clear hp
      go_wp2_with fail
      go_meet
      case rel => exact ⟨by rw [HP.out]; first | rfl | (simp; omega), rfl⟩
    all_goals
      have hp : copB n = false := by rw [← Bool.not_eq_true, copB_true]; omega
      have HP := Lib.hid hp; clear hp
      go_wp2_with fail
      go_meet
      case rel => exact ⟨by rw [HP.out]; first | rfl | (simp; omega), rfl⟩
  case rest =>
    obtain ⟨rfl, rfl⟩ := hcut
    obtain ⟨wA, rfl⟩ : ∃ wA : World, wA = wc := ⟨_, rfl⟩
    go_upto_if 26 with fail
    go_cut [7, 8] (fun s7 s8 wx => s7 = .int .i64 (faE n) ∧ s8 = .int .i64 (faV n) ∧ wx = wA)
    case first =>
      cases h : copB n with
      | true =>
        obtain ⟨n0, n1⟩ := copB_true.1 h
        have hE : faE n = 0 := by rw [faE, if_pos h]
        have hV : faV n = (n - 1) / 3 := by rw [faV, if_pos h]
        have HE := Lib.hid hE; have HV := Lib.hid hV; clear hE hV h
        go_wp2_with fail
        go_meet
        case rel => exact ⟨by rw [HE.out], by rw [HV.out], rfl⟩
      | false =>
        have hE : faE n = 1 := by rw [faE, if_neg (by rw [h]; decide)]
        have hV : faV n = 0 := by rw [faV, if_neg (by rw [h]; decide)]
        have HE := Lib.hid hE; have HV := Lib.hid hV; clear hE hV h
        go_wp2_with fail
        go_meet
        case rel => exact ⟨by rw [HE.out], by rw [HV.out], rfl⟩
    case rest =>
      obtain ⟨rfl, rfl, rfl⟩ := hcut
      obtain ⟨wB, rfl⟩ : ∃ wB : World, wB = wc := ⟨_, rfl⟩
      go_upto_region 10 with (first
        | (go_at_call 12; refine (faults_u _ _).mono ?_; rintro e w' ⟨rfl, rfl⟩)
        | (go_at_call 13; refine (same_eV _ wB _ hd).mono ?_; rintro e w1 ⟨rfl, hd1⟩))
      go_cut [48] (fun s48 wx => s48 = .bool (!copB need) ∧ wx = w1)
      case first =>
        obtain h | ⟨h, h'⟩ | ⟨h, h'⟩ : need < 1 ∨ (1 ≤ need ∧ 7 < need) ∨ (1 ≤ need ∧ need ≤ 7) := by omega
        rotate_left 2
        · have hp : copB need = true := copB_true.2 ⟨h, h'⟩
          have HP := Lib.hid hp; clear hp
          go_wp2_with fail
          go_meet
          case rel => exact ⟨by rw [HP.out]; first | rfl | (simp; omega), rfl⟩
        all_goals
          have hp : copB need = false := by rw [← Bool.not_eq_true, copB_true]; omega
          have HP := Lib.hid hp; clear hp
          go_wp2_with fail
          go_meet
          case rel => exact ⟨by rw [HP.out]; first | rfl | (simp; omega), rfl⟩
      case rest =>
        obtain ⟨rfl, rfl⟩ := hcut
        obtain ⟨wC, rfl⟩ : ∃ wC : World, wC = wc := ⟨_, rfl⟩
        go_upto_if 48 with fail
        go_cut [7, 12] (fun s7 s12 wx => s7 = .int .i64 (wiE ss need) ∧ s12 = .string (wiS ss need) ∧ DG wB wx)
        case first =>
          cases h : copB need with
          | false =>
            have hE : wiE ss need = 1 := by rw [wiE, if_pos h]
            have hV : wiS ss need = ⟨#[]⟩ := by rw [wiS, if_pos h]
            have HE := Lib.hid hE; have HV := Lib.hid hV; clear hE hV h
            go_wp2_with fail
            go_meet
            case rel => exact ⟨by rw [HE.out], by rw [HV.out], hd1⟩
          | true =>
            by_cases h7 : 7 < ss.length
            · have hE : wiE ss need = 4 := by rw [wiE, if_neg (by rw [h]; decide), if_pos h7]
              have hV : wiS ss need = ⟨#[]⟩ := by rw [wiS, if_neg (by rw [h]; decide), if_pos h7]
              have HE := Lib.hid hE; have HV := Lib.hid hV; clear hE hV h
              go_wp2_with fail
              go_meet
              case rel => exact ⟨by rw [HE.out], by rw [HV.out], hd1⟩
            · have h7' : ss.length ≤ 7 := by omega
              have cs := swin_any A c ss need wC h7' (hA.below hd1.b (Nat.le_refl _))
              cases hw : wn ss need ss.length with
              | none =>
                have hE : wiE ss need = 5 := by rw [wiE, if_neg (by rw [h]; decide), if_neg h7, hw]
                have hV : wiS ss need = ⟨#[]⟩ := by rw [wiS, if_neg (by rw [h]; decide), if_neg h7, hw]
                have hS : swV ss need = .tuple #[.string ⟨#[]⟩, .bool false] := by rw [swV, hw]
                rw [hS] at cs
                have HE := Lib.hid hE; have HV := Lib.hid hV; have CS := Lib.hid cs; clear hE hV h cs hS hw
                go_wp2_with fail
                refine CS.out.mono ?_
                rintro e w2 ⟨rfl, hb2⟩
                go_wp2_with fail
                go_meet
                case rel => exact ⟨by rw [HE.out], by rw [HV.out], hd1.below hb2⟩
              | some i =>
                have hE : wiE ss need = 0 := by rw [wiE, if_neg (by rw [h]; decide), if_neg h7, hw]
                have hV : wiS ss need = gs ss i := by rw [wiS, if_neg (by rw [h]; decide), if_neg h7, hw]
                have hS : swV ss need = .tuple #[.string (gs ss i), .bool true] := by rw [swV, hw]
                rw [hS] at cs
                have HE := Lib.hid hE; have HV := Lib.hid hV; have CS := Lib.hid cs; clear hE hV h cs hS hw
                go_wp2_with fail
                refine CS.out.mono ?_
                rintro e w2 ⟨rfl, hb2⟩
                go_wp2_with fail
                go_meet
                case rel => exact ⟨by rw [HE.out], by rw [HV.out], hd1.below hb2⟩
        case rest =>
          obtain ⟨rfl, rfl, hd2⟩ := hcut
          go_upto_if 77 with (first
            | (go_at_call 15; refine (CWI.out _ (hA.below hd2.b (Nat.le_refl _))).mono ?_; rintro e w3 ⟨rfl, hb3⟩)
            | (go_at_call 13; refine (same_eV _ wB _ (hd2.below hb3)).mono ?_; rintro e w4 ⟨rfl, hd4⟩))
          by_cases h7 : 7 < ss.length
          · have cf := most_full A c ss
            have hdl : decide (7 < (ss.length : Int)) = true := by simp; omega
            have CF := Lib.hid (fun W => cf W h7); clear cf
            go_wp2_with fail
            refine wp_loop_rounds 1 ?_
            rw [rounds_succ]
            go_wp2_with (first
              | (go_at_call 16; refine (CF.out _).mono ?_; rintro e w' ⟨rfl, rfl⟩)
              | (go_at_call 13; refine (same_err _ wB _ hd4).mono ?_; rintro e w5 ⟨rfl, hd5⟩))
            go_ret
            exact ⟨ret_true (by first | rfl | (simp; done) | (simp; omega)), hd5.b⟩
          · have h7' : ss.length ≤ 7 := by omega
            have hdl : decide (7 < (ss.length : Int)) = false := by simp; omega
            have cm := CMO.out h7'
            have hmm := mx_mo ss
            rw [← hmm] at cm
            have CM := Lib.hid cm; clear cm hmm
            go_wp2_with fail
            go_loopw [8, 17, 18, 19] (fun m i _ _ wr => ∃ k : Nat, k ≤ ss.length ∧ i = .int .i64 k ∧ m = .int .i64 (mx ss k) ∧ DG wB wr) (fun _ i _ _ _ => ss.length - (intOf i).toNat)
            case atStart => exact ⟨0, Nat.zero_le _, rfl, rfl, hd4⟩
            case round =>
              obtain ⟨k, hk, rfl, rfl, hdr⟩ := hrel
              obtain ⟨wo, rfl⟩ : ∃ wo : World, wo = wr := ⟨_, rfl⟩
              by_cases hlt : k < ss.length
              · have hbk : decide ((k : Int) < ss.length) = true := by simp; omega
                go_wp2_with fail
                go_loopw [18, 19] (fun m i wr => ∃ j : Nat, j ≤ ss.length ∧ i = .int .i64 j ∧ m = .int .i64 (cn ss j (gs ss k)) ∧ DG wB wr) (fun _ i _ => ss.length - (intOf i).toNat)
                case atStart => exact ⟨0, Nat.zero_le _, rfl, rfl, hdr⟩
                case round =>
                  obtain ⟨j, hj, rfl, rfl, hdj⟩ := hrel
                  have hle := cn_le ss j (gs ss k)
                  by_cases hjk : j < ss.length
                  · obtain ⟨b, off, rfl, hbl, hcc⟩ := (hA.below hdj.b (Nat.le_refl _)).at_ hlt
                    obtain ⟨b2, off2, e2, hbl2, hdd⟩ := (hA.below hdj.b (Nat.le_refl _)).at_ hjk
                    simp only [Option.some.injEq, Addr.mk.injEq, and_true] at e2
                    obtain ⟨rfl, rfl⟩ := e2
                    have hs := cn_succ ss j (gs ss k)
                    have q1 : (0 : Int) ≤ j := by omega
                    have q2 : (j : Int) < ss.length := by omega
                    have q3 : (0 : Int) ≤ k := by omega
                    have q4 : (k : Int) < ss.length := by omega
                    by_cases he : gs ss k = gs ss j
                    · rw [if_pos he] at hs
                      have hq : ((gs ss j).toList == (gs ss k).toList) = true := by rw [he]; exact str_same _
                      have HS := Lib.hid hs; clear hs he
                      go_wp2_with fail
                      go_quiet (fail)
                      go_wp2_with fail
                      go_roundw
                      case rel => exact ⟨j + 1, by omega, by go_num, by rw [HS.out]; go_num, hdj.below (bdn (Below.refl _ _) _)⟩
                      case measure => simp [intOf]; omega
                    · rw [if_neg he] at hs
                      have hq : ((gs ss j).toList == (gs ss k).toList) = false := str_other fun h => he h.symm
                      have HS := Lib.hid hs; clear hs he
                      go_wp2_with fail
                      go_quiet (fail)
                      go_wp2_with fail
                      go_roundw
                      case rel => exact ⟨j + 1, by omega, by go_num, by rw [HS.out]; go_num, hdj.below (bdn (Below.refl _ _) _)⟩
                      case measure => simp [intOf]; omega
                  · obtain rfl : j = ss.length := by omega
                    have hx : mx ss (k + 1) = max (mx ss k) (cn ss ss.length (gs ss k)) := rfl
                    have HX := Lib.hid hx; clear hx
                    go_wp2_with fail
                    all_goals
                      go_roundw
                      case rel => exact ⟨k + 1, by omega, by go_num, by rw [HX.out]; congr 1; omega, hdj⟩
                      case measure => simp [intOf]; omega
              · obtain rfl : k = ss.length := by omega
                go_wp2_with (first
                  | (go_at_call 16; refine (CM.out _ (hA.below hdr.b (Nat.le_refl _))).mono ?_; rintro e w6 ⟨rfl, hb6⟩)
                  | (go_at_call 13; refine (same_nil _).mono ?_; rintro e w' ⟨rfl, rfl⟩))
                go_ret
                exact ⟨ret_true (by first | rfl | (simp; done) | (simp; omega)), (hdr.below hb6).b⟩

/-! ### the card's frame -/
set_option maxRecDepth 100000 in
theorem lifted (os : Os) (started : os.Started) (H : Type) (enc : TypeId × Value → H) :
    ReturnsInHanded {} Tryd.checked os 3 .any (fun w args => (Rows.voteTellsSpec.pre enc Tryd.prog Tryd.f3 [] false w args ∧ laidMetH Tryd.prog laidL w) ∧ sizedMet enc Tryd.prog Tryd.f3 (OpenSpec.ofChange Rows.voteTellsSpec) false w args) (Rows.voteTellsSpec.post enc Tryd.prog Tryd.f3 false true false false) := by
  refine returnsInHanded_of_change_and (C := Tryd.checked) (X := fun w _ => laidMetH Tryd.prog laidL w) (fun _ _ _ hh h => h.of_heap hh) door.own started (by kernel_rfl) Tryd.func3
    (ChangeSpec.witness_at (enc := enc) (C := Tryd.checked) (os := os) (X := fun w _ => laidMetH Tryd.prog laidL w) false (laidWorld os) #[.int .i64 0, .slice none 0 0, .int .i64 0] 8 rfl (by kernel_rfl) (by kernel_rfl) (by kernel_rfl) (by kernel_rfl) (by kernel_rfl) (laidWorld_met os _)) ?_
  intro W base args ds gs before hval0 hW _ _ hL _
  have hg := handle_of_laid hL
  have hval : ∀ (j : Nat) t v, Tryd.f3.params[j]? = some t → args[j]? = some v → Value.okWide Tryd.prog W .any base t v := hval0
  have hW' := hW
  obtain ⟨p, q, hA0, hV, rfl, hfz, hnd⟩ := hW
  have hA : DataW.TrodAll enc Tryd.prog W 0 (fun _ => true) true Tryd.f3.params.toList args.toList ds p := hA0
  rw [Tryd.params3] at hA hval
  obtain ⟨v0, vs0, d0, ds0, p0, q0, hargs, rfl, rfl, h0, r0⟩ := trodAll_cons hA
  obtain ⟨v1, vs1, d1, ds1, p1, q1, rfl, rfl, rfl, h1, r1⟩ := trodAll_cons r0
  obtain ⟨v2, vs2, d2, ds2, p2, q2, rfl, rfl, rfl, h2, r2⟩ := trodAll_cons r1
  obtain ⟨rfl, rfl, rfl⟩ := trodAll_nil r2
  obtain rfl : args = #[v0, v1, v2] := by cases args; simp_all
  obtain ⟨rfl, rfl⟩ := trodVars_none hV
  have k0 := h0
  have lt0 : ∀ x ∈ p0, x.block < W.heap.size := by obtain ⟨m, hm⟩ := k0; exact DataW.trod_lt m _ _ _ hm
  obtain ⟨x0, rfl, w0⟩ := arg_int Tryd.underlying3 (hval 0 3 v0 rfl rfl) h0
  have k1 := h1
  have lt1 : ∀ x ∈ p1, x.block < W.heap.size := by obtain ⟨m, hm⟩ := k1; exact DataW.trod_lt m _ _ _ hm
  obtain ⟨A1, c1, x1, rfl, hc1, hm1, hA1, w1⟩ := arg_Strs Tryd.underlying22 Tryd.underlying9 (by kernel_rfl) (hval 1 22 v1 rfl rfl) h1
  have k2 := h2
  have lt2 : ∀ x ∈ p2, x.block < W.heap.size := by obtain ⟨m, hm⟩ := k2; exact DataW.trod_lt m _ _ _ hm
  obtain ⟨x2, rfl, w2⟩ := arg_int Tryd.underlying3 (hval 2 3 v2 rfl rfl) h2
  clear hA0 hval0
  refine (walk W hg x0 w0 A1 c1 x1 hc1 hm1 hA1 w1 x2 w2).mono fun e W' ⟨he, bel⟩ => ?_
  subst he
  exact ⟨_, rfl, _, _, _, [], _, [], hW', trodAll_mk1 (shut_bool Tryd.underlying4 _), (trodAll_cons_mk (Below.trod door.laidOut (by kernel_rfl) (of_decide_eq_true (by kernel_rfl)) k0 bel lt0) (trodAll_cons_mk (Below.trod door.laidOut (by kernel_rfl) (of_decide_eq_true (by kernel_rfl)) k1 bel lt1) (trodAll_cons_mk (Below.trod door.laidOut (by kernel_rfl) (of_decide_eq_true (by kernel_rfl)) k2 bel lt2) trodAll_mk0))), rfl, bel.frame _, fun h => by cases h⟩

theorem over : Rows.VoteTellsSaid :=
  OpenClaim.holds_of_wide 3 Tryd.f3 rfl rfl rfl rfl rfl rfl rfl ⟨rfl, rfl, rfl, rfl, rfl⟩ rfl rfl rfl rfl rfl (by kernel_rfl) Tryd.func3 (by kernel_rfl)
    (of_decide_eq_true (by kernel_rfl)) (by unfold Func.isWrapper; first | (rw [if_pos (by decide +kernel)]; kernel_rfl) | (rw [if_neg (by decide +kernel)]; exact ⟨rfl, rfl⟩))
    (fun os started H enc _ => lifted os started H enc)

theorem proved : Rows.VoteTellsCardSaid :=
  Claim7.holds_tied_plain_at .later [] [.handle] true _ true over (fun _ h => by cases h) (by kernel_rfl) (fun _ h => by cases h) voteTells_row_tie rfl ⟨rfl, rfl⟩ (by kernel_rfl) rfl
    (fun f fn hf hfn => by
      obtain rfl : f = 3 := Option.some.inj ((show Tryd.prog.funcNamed Rows.voteTellsRow.func = some 3 by kernel_rfl).symm.trans hf) |>.symm
      obtain rfl : fn = Tryd.f3 := (Option.some.inj (Tryd.func3.symm.trans hfn)).symm
      exact ⟨by kernel_rfl, fun j t ht => by
        rw [Tryd.params3] at ht
        have hm : t ∈ [3, 22, 3] := by simpa using Array.mem_of_getElem? ht
        have hall : ([3, 22, 3].all fun u => !Tryd.prog.wantsStandIn u) = true := by kernel_rfl
        exact (show Tryd.prog.wantsStandIn t = false by simpa using List.all_eq_true.1 hall t hm)⟩)
    (by kernel_rfl)
#print axioms proved

end Go.Proofs.YtpmgmlmpiofnpaaDoor.voteTells
