/- TopLockSaid: A LOCK BY A TUPLE: for every list of names. -/
import Derived.Test.YthpemlhlgjdnkaaOnce2
import Derived.Test.YthpemlhlgjdnkaaVArg
import Derived.Test.YthpemlhlgjdnkaaRows
import Derived.WalkKit
import Derived.ProofKit
import Derived.OpenShut
import Derived.ShutString
import Derived.ChangeOld
import Derived.WalkLawsBesides
import Derived.WalkSpells
import Derived.RegionTactic
import Derived.ChangeAlike
import Derived.Deep.QuietTactic
import Derived.BigQuiet
namespace Go.Proofs.Ythpemlhlgjdnkaa.topLock
open Go.ChangeShapes Go.WideShapes Go.ChangeAt Go.RowKit
set_option linter.unusedVariables false

def vAny : Va := ⟨2, 0, ⟨#[]⟩⟩
def vNum (n : Int) : Va := ⟨0, n, ⟨#[]⟩⟩
def vLock : Va := ⟨1, 0, ⟨#[108, 111, 99, 107]⟩⟩
theorem ok1 {v : Va} (h : v.s.size ≤ maxLen) : okL [v] := fun i hi => by
  obtain rfl : i = 0 := by simpa using hi
  exact h
theorem ok2 {u v : Va} (h1 : u.s.size ≤ maxLen) (h2 : v.s.size ≤ maxLen) : okL [u, v] := fun i hi => by
  simp at hi
  rcases (show i = 0 ∨ i = 1 by omega) with rfl | rfl
  · exact h1
  · exact h2
theorem lit1 (W : World) (v : Va) {g : Nat} (hg : g = W.heap.size) : Vals (W.alloc (.cells #[.int .i64 v.k, .int .i64 v.n, .string v.s] 23)) (some ⟨g, 0, none⟩) [v] := lit_vals W [v] 23 hg
theorem lit2 (W : World) (u v : Va) {base : Nat} : Vin (W.alloc (.cells #[.int .i64 u.k, .int .i64 u.n, .string u.s, .int .i64 v.k, .int .i64 v.n, .string v.s] 23)) base (some ⟨W.heap.size, 0, none⟩) [u, v] :=
  ⟨lit_vals W [u, v] 23 rfl, fun _ a ha => by
    injection ha with ha
    subst ha
    exact .inr ⟨_, heap_alloc_new W _⟩⟩
set_option maxHeartbeats 800000 in
theorem one_any (w : World) : Calls Try.prog 24 #[] w fun e w' => e = .returned (.bool true) ∧ Below w.heap.size w w' := by
  go_enter Try.func24, Try.ntmps24
  go_wp2_with (first | (go_at_call 20; refine (spnew _).mono ?_; rintro e w' ⟨rfl, rfl⟩))
  obtain ⟨W1, hW1⟩ : ∃ W1, W1 = (w.alloc (.cells #[.slice none 0 0] 76)).alloc (.cells #[.int .i64 0, .int .i64 4, .string ⟨#[]⟩] 23) := ⟨_, rfl⟩
  have b1 : Below w.heap.size w W1 := by rw [hW1]; exact bal (bal1 _ _) _
  have s1 : Spc W1 w.heap.size w.heap.size none [] := by rw [hW1]; exact (Spc.new w (Nat.le_refl _)).keep (bal1 _ _)
  have v1 : Vals W1 (some ⟨w.heap.size + 1, 0, none⟩) [vNum 4] := by rw [hW1]; exact lit1 _ (vNum 4) (by simp)
  rw [← hW1]
  have cp := spput_any w.heap.size w.heap.size none [] _ 1 [vNum 4] (by decide) (ok1 (by decide)) W1 s1 v1
  have hpe : putE [] [vNum 4] = 0 := by decide
  rw [putL, hpe, if_pos rfl, eV_zero] at cp
  refine cp.mono ?_
  rintro e w2 ⟨rfl, g2, s2, x2, _⟩
  have b2 := b1.trans (s1.below x2)
  clear cp hpe hW1 v1 x2 s1
  go_wp2_with fail
  have v2 : Vals (w2.alloc (.cells #[.int .i64 2, .int .i64 0, .string ⟨#[]⟩] 23)) (some ⟨w2.heap.size, 0, none⟩) [vAny] := lit1 w2 vAny rfl
  obtain ⟨k, hk, _, _, _, ct⟩ := sptake_ok w.heap.size w.heap.size g2 [[vNum 4]] _ 1 [vAny] (by decide) (ok1 (by decide)) _ (s2.keep (bal1 _ _)) v2 (by decide)
  obtain rfl : k = 0 := by simpa using hk
  have s3 := s2.keep (bal1 w2 (.cells #[.int .i64 2, .int .i64 0, .string ⟨#[]⟩] 23))
  refine ct.mono ?_
  rintro e w3 ⟨B, C, rfl, hv, _, _, _, _, x3⟩
  have b3 := (bal b2 (.cells #[.int .i64 2, .int .i64 0, .string ⟨#[]⟩] 23)).trans (s3.below x3)
  rw [show gg [[vNum 4]] 0 = [vNum 4] from rfl] at hv
  rw [show (gg [[vNum 4]] 0).length = 1 from rfl]
  obtain ⟨b, off, rfl, hbl, k0, k1, k2⟩ := hv.at_ (i := 0) (by decide)
  rw [show (va [vNum 4] 0).n = 4 from rfl, show off + 0 * 3 + 1 = off + 1 by omega] at k1
  clear k0 k2 hv ct v2 s2 s3 x3 b1 b2
  go_wp2_with fail
  go_ret
  exact ⟨ret_true (by first | rfl | (simp; done) | (simp; omega)), b3⟩
def star : List Va := [vLock, vAny]
def tk (n : Int) : List Va := [vLock, vNum n]
theorem fit_star (n : Int) : fitB star (tk n) = true := by
  rw [fitB_true]
  refine ⟨rfl, fun i hi => ?_⟩
  have hi : i < 2 := hi
  rcases (show i = 0 ∨ i = 1 by omega) with rfl | rfl
  · show likB vLock vLock = true
    simp [likB]
  · show likB vAny (vNum n) = true
    simp [likB, vAny]
theorem fit_self (t : List Va) : fitB t t = true := by
  rw [fitB_true]
  exact ⟨rfl, fun i hi => by simp [likB]⟩
theorem cnt_one {a x : List Va} (h : fitB a x = true) : cnt a [x] 1 = 1 := by
  have : gg [x] 0 = x := rfl
  simp [cnt, this, h]
theorem fin_one {a x : List Va} (hl : liE a = 0) (h : fitB a x = true) : finE a [x] = 0 := by
  have : ¬ plc a [x] < 0 := fun hn => by
    have := idx_neg.1 hn 0 (by simp)
    simp [gg, h] at this
  rw [finE, if_neg (by simp [hl]), if_neg this]
theorem li_star : liE star = 0 := by decide
theorem oc_star (n : Int) : ocE star (tk n) = tuE (tk n) := by rw [ocE, if_neg (by simp [li_star])]
theorem ok_star : okL star := ok2 (by decide) (by decide)
theorem ok_tk (n : Int) : okL (tk n) := ok2 (by decide) (show (ByteArray.mk #[]).size ≤ maxLen by decide)
set_option maxHeartbeats 1600000 in
set_option maxRecDepth 100000 in
theorem walk (w : World) (A : Option Addr) (c : Nat) (xs : List Int) (hc : xs.length ≤ c) (hm : c ≤ maxLen) (hA : Ints w A xs) (_ : ∀ i, i < xs.length → I64 (gi xs i)) :
    Calls Try.prog 7 #[.slice A xs.length c] w fun e w' => e = .returned (.bool true) ∧ Below w.heap.size w w' := by
  have hml : xs.length ≤ maxLen := by omega
  unfold maxLen at hml
  go_enter Try.func7, Try.ntmps7
  go_wp2_with (first | (go_at_call 24; refine (one_any _).mono ?_; rintro e w1 ⟨rfl, hb1⟩) | (go_at_call 20; refine (spnew _).mono ?_; rintro e w' ⟨rfl, rfl⟩))
  obtain ⟨W1, hW1⟩ : ∃ W1, W1 = (w1.alloc (.cells #[.slice none 0 0] 76)).alloc (.cells #[.int .i64 1, .int .i64 0, .string ⟨#[108, 111, 99, 107]⟩, .int .i64 2, .int .i64 0, .string ⟨#[]⟩] 23) := ⟨_, rfl⟩
  have b1 : Below w.heap.size w W1 := by rw [hW1]; exact bal (bal hb1 _) _
  have s1 : Spc W1 w.heap.size w1.heap.size none [] := by rw [hW1]; exact (Spc.new w1 hb1.size).keep (bal1 _ _)
  have v1 : Vin W1 w.heap.size (some ⟨w1.heap.size + 1, 0, none⟩) star := by
    have := lit2 (w1.alloc (.cells #[.slice none 0 0] 76)) vLock vAny (base := w.heap.size)
    rw [show (w1.alloc (.cells #[.slice none 0 0] 76)).heap.size = w1.heap.size + 1 by simp] at this
    rw [hW1]; exact this
  rw [← hW1]
  generalize w1.heap.size = p at *
  generalize p + 1 = q at *
  have S1 := Lib.hid s1; have V1 := Lib.hid v1
  clear hb1 hW1 s1 v1
  go_loopw [6, 7] (fun h i wr => ∃ (k : Nat) (z : Int) (g : Option Nat) (L : List (List Va)), k ≤ xs.length ∧ k ≤ 40 ∧ i = .int .i64 k ∧ h = .int .i64 z ∧ Hid ((z = -1 ∧ L = []) ∨ ∃ j : Nat, z = (j : Int) ∧ j < k ∧ L = [tk (gi xs j)]) ∧ Hid (Spc wr w.heap.size p g L) ∧ Hid (Vin wr w.heap.size (some ⟨q, 0, none⟩) star) ∧ Below w.heap.size w wr) (fun h i _ => 40 - (intOf i).toNat)
  case atStart => exact ⟨0, -1, none, [], by omega, by omega, rfl, rfl, .inl ⟨rfl, rfl⟩, S1.out, V1.out, b1⟩
  case round =>
    obtain ⟨k, z, g, L, hk, hk2, rfl, rfl, HK, HS, HV, hb⟩ := hrel
    by_cases hgo : k < xs.length ∧ k < 40
    · obtain ⟨hlt, hlt2⟩ := hgo
      have hq : decide ((k : Int) < 40) = true := by simp; omega
      obtain ⟨b, off, rfl, hbl, hcc⟩ := hA.at_ (i := k) hlt
      have hcw : ∀ (j : Nat), j < xs.length → ∀ (W : World), Below w.heap.size w W → W.cell? ⟨b, off + j, none⟩ = some (.int .i64 (gi xs j)) := fun j hj W hW => by
        obtain ⟨b', off', e, _, hc'⟩ := hA.at_ (i := j) hj
        simp only [Option.some.injEq, Addr.mk.injEq, and_true] at e
        obtain ⟨rfl, rfl⟩ := e
        exact (hW.cell (p := ⟨b, off + j, none⟩) hbl).trans hc'
      have k0 := hcw k hlt wr hb
      have HCW := Lib.hid hcw
      obtain ⟨x, hx⟩ : ∃ x, gi xs k = x := ⟨_, rfl⟩
      rw [hx] at k0
      have HX := Lib.hid hx
      have vt : ∀ W : World, Vin (W.alloc (.cells #[.int .i64 1, .int .i64 0, .string ⟨#[108, 111, 99, 107]⟩, .int .i64 0, .int .i64 x, .string ⟨#[]⟩] 23)) w.heap.size (some ⟨W.heap.size, 0, none⟩) (tk x) := fun W => lit2 W vLock (vNum x)
      have VT := Lib.hid (vt wr)
      clear hcw hcc vt hx
      obtain ⟨W2, hW2⟩ : ∃ W2, W2 = wr.alloc (.cells #[.int .i64 1, .int .i64 0, .string ⟨#[108, 111, 99, 107]⟩, .int .i64 0, .int .i64 x, .string ⟨#[]⟩] 23) := ⟨_, rfl⟩
      have hb2 : Below wr.heap.size wr W2 := by rw [hW2]; exact bal1 _ _
      have HS2 := Lib.hid (HS.out.keep hb2)
      have HV2 := Lib.hid (HV.out.below hb2 (Nat.le_refl _) hb.size)
      have VT2 : Hid (Vin W2 w.heap.size (some ⟨wr.heap.size, 0, none⟩) (tk x)) := by rw [hW2]; exact VT.out
      have hbw2 := bcl hb hb2
      by_cases ho : tuE (tk x) = 0
      · have hoc : ocE star (tk x) = 0 := by rw [oc_star, ho]
        rcases HK.out with ⟨rfl, rfl⟩ | ⟨j, rfl, hj, rfl⟩
        · have cp := onput_ok w.heap.size p g [] _ 2 star _ 2 (tk x) (by decide) (show 2 ≤ maxLen by decide) ok_star (ok_tk x) W2 HV2.out.1 VT2.out.1 HS2.out hoc rfl (by decide)
          have CP := Lib.hid cp
          clear cp ho hoc
          go_wp2_with fail
          rw [← hW2]
          clear hW2
          refine CP.out.mono ?_
          rintro e w3 ⟨rfl, g3, s3, x3, _⟩
          have hv3 := HV2.out.chg HS2.out x3
          have hbw3 := hbw2.trans (HS2.out.below x3)
          go_wp2_with fail
          refine (count_spc _ _ _ ([] ++ [tk x]) _ 2 star (by decide) ok_star li_star 1 (cnt_one (fit_star x)) _ s3 hv3.1).mono ?_
          rintro e w4 ⟨rfl, hb4⟩
          have HS4 := Lib.hid (s3.keep hb4)
          have HV4 := Lib.hid (hv3.below hb4 (Nat.le_refl _) hbw3.size)
          have hbw4 := bcl hbw3 hb4
          clear s3 x3 hv3
          go_wp2_with fail
          go_roundw
          case rel => exact ⟨k + 1, k, g3, [tk x], by omega, by omega, by go_num, rfl, .inr ⟨k, rfl, by omega, by rw [HX.out]⟩, HS4, HV4, hbw4⟩
          case measure => simp [intOf]; omega
        · have cp := onput_no w.heap.size p g [tk (gi xs j)] _ 2 star _ 2 (tk x) (by decide) (show 2 ≤ maxLen by decide) ok_star (ok_tk x) W2 HV2.out.1 VT2.out.1 HS2.out hoc (by rw [show [tk (gi xs j)].length = 1 from rfl, cnt_one (fit_star _)]; decide)
          have CP := Lib.hid cp
          have HLI := Lib.hid (show liE (tk x) = 0 from (tuE_zero ho).1)
          have hjl : j < xs.length := by omega
          have kj := HCW.out j hjl
          have HKJ := Lib.hid kj
          clear cp ho hoc kj HK
          obtain ⟨y, hy⟩ : ∃ y, gi xs j = y := ⟨_, rfl⟩
          have HY := Lib.hid hy
          have i1 : (0 : Int) ≤ k := by omega
          have i2 : (k : Int) < xs.length := by omega
          have i3 : (0 : Int) ≤ j := by omega
          have i4 : (j : Int) < xs.length := by omega
          have hq2 : decide ((j : Int) < 0) = false := by simp
          have hq3 : decide ((0 : Int) ≤ j) = true := by simp
          rw [hy] at HS2 HS HKJ
          clear hy
          go_wp2_with fail
          rw [← hW2]
          clear hW2
          refine CP.out.mono ?_
          rintro e w3 ⟨rfl, hb3⟩
          have hbw3 := bcl hbw2 hb3
          have k3 := HCW.out k hlt w3 hbw3
          rw [HX.out] at k3
          have k4 := HKJ.out w3 hbw3
          have HS3 := Lib.hid (HS2.out.keep hb3)
          have HV3 := Lib.hid (HV2.out.below hb3 (Nat.le_refl _) hbw2.size)
          have VT3 := Lib.hid (VT2.out.below hb3 (Nat.le_refl _) hbw2.size)
          go_wp2_with fail
          by_cases hxy : x = y
          · have he : (x == y) = true := by simp [hxy]
            have HXY := Lib.hid hxy
            clear hxy
            go_quiet (fail)
            go_wp2_with fail
            have hbd : Below w3.heap.size w3 (w3.drewN nq) := bdn (Below.refl _ _) nq
            have HS4 := Lib.hid (HS3.out.keep hbd)
            have hv4 := HV3.out.below hbd (Nat.le_refl _) hbw3.size
            have hbw4 := bcl hbw3 hbd
            obtain ⟨k', hk', _, _, _, ct⟩ := sptake_ok w.heap.size p g [tk y] _ 2 (tk x) (show 2 ≤ maxLen by decide) (ok_tk x) (w3.drewN nq) HS4.out (VT3.out.below hbd (Nat.le_refl _) hbw3.size).1 (fin_one HLI.out (by rw [HXY.out]; exact fit_self _))
            obtain rfl : k' = 0 := by simpa using hk'
            refine ct.mono ?_
            rintro e w5 ⟨B5, C5, rfl, _, _, _, _, s5, x5⟩
            have hv5 := hv4.chg HS4.out x5
            have hbw5 := hbw4.trans (HS4.out.below x5)
            clear ct hk'
            go_wp2_with fail
            refine (count_spc _ _ _ [] _ 2 star (by decide) ok_star li_star 0 rfl _ s5 hv5.1).mono ?_
            rintro e w6 ⟨rfl, hb6⟩
            have HS6 := Lib.hid (s5.keep hb6)
            have HV6 := Lib.hid (hv5.below hb6 (Nat.le_refl _) hbw5.size)
            have hbw6 := bcl hbw5 hb6
            clear s5 x5 hv5 k0 k3 k4 hv4
            go_wp2_with fail
            go_roundw
            case rel => exact ⟨k + 1, -1, g, [], by omega, by omega, by go_num, rfl, .inl ⟨rfl, rfl⟩, HS6, HV6, hbw6⟩
            case measure => simp [intOf]; omega
          · have he : (x == y) = false := by simp [hxy]
            clear hxy
            go_quiet (fail)
            go_wp2_with fail
            have hbd : Below w3.heap.size w3 (w3.drewN nq) := bdn (Below.refl _ _) nq
            have HS4 := Lib.hid (HS3.out.keep hbd)
            have hv4 := HV3.out.below hbd (Nat.le_refl _) hbw3.size
            have hbw4 := bcl hbw3 hbd
            refine (count_spc _ _ _ [tk y] _ 2 star (by decide) ok_star li_star 1 (cnt_one (fit_star y)) _ HS4.out hv4.1).mono ?_
            rintro e w6 ⟨rfl, hb6⟩
            have HS6 := Lib.hid (HS4.out.keep hb6)
            have HV6 := Lib.hid (hv4.below hb6 (Nat.le_refl _) hbw4.size)
            have hbw6 := bcl hbw4 hb6
            clear k0 k3 k4 hv4
            go_wp2_with fail
            go_roundw
            case rel => exact ⟨k + 1, j, g, [tk y], by omega, by omega, by go_num, rfl, .inr ⟨j, rfl, by omega, by rw [HY.out]⟩, HS6, HV6, hbw6⟩
            case measure => simp [intOf]; omega
      · have hoc : ocE star (tk x) ≠ 0 := by rw [oc_star]; exact ho
        have cp := fun (v : Value) => onput_bad v (some ⟨q, 0, none⟩) 2 star (some ⟨wr.heap.size, 0, none⟩) 2 (tk x) (by decide) (show 2 ≤ maxLen by decide) ok_star (ok_tk x) W2 HV2.out.1 VT2.out.1 hoc
        have cc := fun (W : World) (hW : Vals W (some ⟨wr.heap.size, 0, none⟩) (tk x)) => tcheck_any _ 2 (tk x) (show 2 ≤ maxLen by decide) (ok_tk x) W hW
        rw [eV_of ho] at cc
        generalize ocE star (tk x) = E1 at *
        generalize tuE (tk x) = E2 at *
        have CP := Lib.hid cp; have CC := Lib.hid cc
        clear cp cc ho hoc
        go_wp2_with fail
        rw [← hW2]
        clear hW2
        refine (CP.out _).mono ?_
        rintro e w3 ⟨rfl, hb3⟩
        go_wp2_with fail
        refine (CC.out _ (VT2.out.1.below hb3 (Nat.le_refl _))).mono ?_
        rintro e w4 ⟨rfl, hb4⟩
        have hb5 := bcl hb3 hb4
        have HS5 := Lib.hid (HS2.out.keep hb5)
        have HV5 := Lib.hid (HV2.out.below hb5 (Nat.le_refl _) hbw2.size)
        have hbw5 := bcl hbw2 hb5
        have HK2 : Hid ((z = -1 ∧ L = []) ∨ ∃ j : Nat, z = (j : Int) ∧ j < k + 1 ∧ L = [tk (gi xs j)]) := by
          rcases HK.out with h | ⟨j, h1, h2, h3⟩
          · exact .inl h
          · exact .inr ⟨j, h1, by omega, h3⟩
        clear k0
        go_wp2_with fail
        go_roundw
        case rel => exact ⟨k + 1, z, g, L, by omega, by omega, by go_num, rfl, HK2, HS5, HV5, hbw5⟩
        case measure => simp [intOf]; omega
    · have hend : ¬ k < xs.length ∨ k < xs.length ∧ decide ((k : Int) < 40) = false := by
        by_cases h1 : k < xs.length
        · exact .inr ⟨h1, by simp; omega⟩
        · exact .inl h1
      clear hgo
      rcases hend with hend | ⟨hend, hq⟩
      all_goals
        go_wp2_with fail
        go_ret
        exact ⟨ret_true (by first | rfl | (simp; done) | (simp; omega)), hb⟩

/-! ### the row's frame -/
theorem own : ownKnob Try.prog.godebug = none := by kernel_rfl
theorem laidOut : laidOutB Try.prog = true := by kernel_rfl

set_option maxRecDepth 100000 in
theorem lifted (os : Os) (started : os.Started) (H : Type) (enc : TypeId × Value → H) :
    ReturnsInHanded {} Try.checked os 7 .any (Rows.topLockSpec.pre6 enc Try.prog Try.f7 Rows.topLockRow.domain false) (Rows.topLockSpec.post enc Try.prog Try.f7 false true false false) := by
  refine returnsInHanded_of_change (C := Try.checked) own started (by kernel_rfl) Try.func7
    (ChangeSpec.witness6 (enc := enc) (C := Try.checked) false ⟨#[], #[.slice none 0 0], []⟩ 8 (by kernel_rfl) (by kernel_rfl) (by kernel_rfl) (by kernel_rfl)) ?_
  intro W base args ds gs before hval0 hW hcnd _
  have hval : ∀ (j : Nat) t v, Try.f7.params[j]? = some t → args[j]? = some v → Value.okWide Try.prog W .any base t v := hval0
  have hW' := hW
  obtain ⟨p, q, hT0, hV, rfl, hfz, hnd⟩ := hW
  have hA : DataW.TrodAll enc Try.prog W 0 (fun _ => true) true Try.f7.params.toList args.toList ds p := hT0
  rw [Try.params7] at hA hval
  obtain ⟨v0, vs0, d0, ds0, p0, q0, hargs, rfl, rfl, h0, r0⟩ := trodAll_cons hA
  obtain ⟨rfl, rfl, rfl⟩ := trodAll_nil r0
  obtain rfl : args = #[v0] := by cases args; simp_all
  obtain ⟨rfl, rfl⟩ := trodVars_none hV
  have k0 := h0
  have lt0 : ∀ x ∈ p0, x.block < W.heap.size := by obtain ⟨m, hm⟩ := k0; exact DataW.trod_lt m _ _ _ hm
  obtain ⟨A0, c0, x0, rfl, hc0, hm0, hA0, w0⟩ := arg_Ints Try.underlying49 Try.underlying3 (by kernel_rfl) (hval 0 49 v0 rfl rfl) h0
  clear hT0 hval0
  refine (walk W A0 c0 x0 hc0 hm0 hA0 w0).mono fun e W' ⟨he, bel⟩ => ?_
  subst he
  exact ⟨_, rfl, _, _, _, [], _, [], hW', trodAll_mk1 (shut_bool Try.underlying4 _), (trodAll_cons_mk (Below.trod laidOut (by kernel_rfl) (of_decide_eq_true (by kernel_rfl)) k0 bel lt0) trodAll_mk0), rfl, bel.frame _, fun h => by cases h⟩

theorem over : Rows.topLockRow.holds Try.pinned (OpenSpec.ofChange Rows.topLockSpec) :=
  OpenClaim.holds_of_wide 7 Try.f7 rfl rfl rfl rfl rfl rfl rfl ⟨rfl, rfl, rfl, rfl, rfl⟩ rfl rfl rfl rfl rfl (by kernel_rfl) Try.func7 (by kernel_rfl)
    (of_decide_eq_true (by kernel_rfl)) (by unfold Func.isWrapper; first | (rw [if_pos (by decide +kernel)]; kernel_rfl) | (rw [if_neg (by decide +kernel)]; exact ⟨rfl, rfl⟩))
    (fun os started H enc _ => lifted os started H enc)

theorem proved : Rows.TopLockSaid := over
#print axioms proved

end Go.Proofs.Ythpemlhlgjdnkaa.topLock
