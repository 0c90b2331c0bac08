/- VaultKeeps: the walk. -/
import Derived.Test.YtpmgmlmpiofnpaaDoorVaultGet
import Derived.Test.YtpmgmlmpiofnpaaDoorDoor
import Derived.WalkKit
import Derived.WalkLawsBesides
import Derived.WalkSpells
import Derived.RegionTactic
import Derived.Deep.CutBlock
import Derived.Deep.DeepCutAuto
import Derived.Outline
namespace Go.Proofs.YtpmgmlmpiofnpaaDoor.vaultKeeps
open Go.ChangeShapes Go.WideShapes Go.ChangeAt Go.RowKit Go.Deep
set_option linter.unusedVariables false

theorem same_errW (n : Int) (W : World) (h : HG W) : Calls Tryd.prog 13 #[errV n, .int .i64 n] W fun e w' => e = .returned (.bool true) ∧ Below W.heap.size W w' :=
  (same_err n W W (DG.refl h)).mono fun e w' ⟨h1, h2⟩ => ⟨h1, h2.2⟩
def K0 : ByteArray → Option (List Int) := fun _ => none
abbrev bk : ByteArray := ⟨#[107]⟩
abbrev bx : ByteArray := ⟨#[120]⟩
def K1 : ByteArray → Option (List Int) := fun s => if s = bk then some [9, 4] else K0 s
theorem bk_le : bk.size ≤ maxLen := by decide
theorem bx_le : bx.size ≤ maxLen := by decide
def L3 : List Sh := [(1, 13), (2, 1), (3, 21)]
theorem L3_get : vgE 3 2 [9, 4] L3 = 0 := by decide +kernel
theorem three_shares (w : World) (a b c d e f : Int) {g : Nat} (hg : g = w.heap.size) : Shares (w.alloc (.cells #[.int .i64 a, .int .i64 b, .int .i64 c, .int .i64 d, .int .i64 e, .int .i64 f] 41)) (some ⟨g, 0, none⟩) [(a, b), (c, d), (e, f)] := fun _ => by
  subst hg
  refine ⟨w.heap.size, 0, rfl, by simp, fun i hi j hj => ?_⟩
  have hi3 : i < 3 := by simpa using hi
  rcases (show i = 0 ∨ i = 1 ∨ i = 2 by omega) with rfl | rfl | rfl <;> rcases (show j = 0 ∨ j = 1 by omega) with rfl | rfl <;> simp [shc, ga, gb]
/-- the closed fact's part: New, Put, Part, Part, Get at 3, 2, "k" -/
structure Fact (w0 w : World) : Prop where
  hg : HG w
  b : Below w0.heap.size w0 w
/-- eight bools -/
def seenA (f : Nat → Bool) : Array Value := #[.bool (f 0), .bool (f 1), .bool (f 2), .bool (f 3), .bool (f 4), .bool (f 5), .bool (f 6), .bool (f 7)]
theorem seenA_at (f : Nat → Bool) {j : Nat} (h : j < 8) : (seenA f)[j]? = some (.bool (f j)) := by
  rcases (show j = 0 ∨ j = 1 ∨ j = 2 ∨ j = 3 ∨ j = 4 ∨ j = 5 ∨ j = 6 ∨ j = 7 by omega) with rfl | rfl | rfl | rfl | rfl | rfl | rfl | rfl <;> rfl
theorem seenA_set (f : Nat → Bool) {j : Nat} (h : j < 8) : (seenA f).setIfInBounds j (.bool true) = seenA (fun y => if y = j then true else f y) := by
  rcases (show j = 0 ∨ j = 1 ∨ j = 2 ∨ j = 3 ∨ j = 4 ∨ j = 5 ∨ j = 6 ∨ j = 7 by omega) with rfl | rfl | rfl | rfl | rfl | rfl | rfl | rfl <;> rfl
/-- all of them may be -/
def okS (many : Nat) (S : List Sh) : Prop := ∀ i, i < S.length → badB many S i = false
theorem okS.app {many : Nat} {S : List Sh} (h : okS many S) {a b : Int} (ha : 1 ≤ a ∧ a ≤ many) (hb : 0 ≤ b ∧ b < 257) : okS many (S ++ [(a, b)]) := fun i hi => by
  rw [List.length_append, List.length_singleton] at hi
  rcases Nat.lt_or_ge i S.length with hl | hl
  · have := h i hl
    unfold badB at this ⊢
    rwa [(ga_app_lt hl).1, (ga_app_lt hl).2]
  · obtain rfl : i = S.length := by omega
    refine badB_false.2 ⟨?_, ?_⟩
    · rw [ga_app_eq.1]; exact atB_true.2 ha
    · rw [ga_app_eq.2]; exact inB_true.2 hb
/-- what was seen of the first k -/
structure Seen (q : List Int) (S : List Sh) (k : Nat) (f : Nat → Bool) (n : Nat) : Prop where
  n_ : n = (gdL q S k).length
  f_ : ∀ a, a < 8 → (f a = true ↔ ∃ i, i < (gdL q S k).length ∧ ga (gdL q S k) i = (a : Int))
theorem Seen.zero (q : List Int) (S : List Sh) : Seen q S 0 (fun _ => false) 0 := ⟨rfl, fun a _ => by simp [gdL]⟩
theorem has_seen {q : List Int} {S : List Sh} {k : Nat} (ht : gb S k = PM.hor q (ga S k)) : hasB (gdL q S k) (ga S k) (gb S k) = true ↔ ∃ i, i < (gdL q S k).length ∧ ga (gdL q S k) i = ga S k := by
  rw [hasB_true]
  constructor
  · rintro ⟨i, h1, h2, _⟩; exact ⟨i, h1, h2⟩
  · rintro ⟨i, h1, h2⟩
    exact ⟨i, h1, h2, by rw [(gdL_good q S k).true_ i h1, h2, ht]⟩
theorem Seen.skip {q : List Int} {S : List Sh} {k n j : Nat} {f : Nat → Bool} (h : Seen q S k f n) (hj : ga S k = (j : Int)) (hj8 : j < 8) (hc : gb S k ≠ PM.hor q (ga S k) ∨ f j = true) : Seen q S (k + 1) f n := by
  have e : gdL q S (k + 1) = gdL q S k := by
    rw [gdL, if_neg]
    rw [Bool.and_eq_true, beq_iff_eq, Bool.not_eq_true']
    rintro ⟨h1, h2⟩
    rcases hc with h3 | h3
    · exact h3 h1
    · have : hasB (gdL q S k) (ga S k) (gb S k) = true := (has_seen h1).2 (by rw [hj]; exact (h.f_ j hj8).1 h3)
      rw [this] at h2; cases h2
  exact ⟨by rw [e]; exact h.n_, fun a ha => by rw [e]; exact h.f_ a ha⟩
theorem Seen.add {q : List Int} {S : List Sh} {k n j : Nat} {f : Nat → Bool} (h : Seen q S k f n) (hj : ga S k = (j : Int)) (hj8 : j < 8) (h1 : gb S k = PM.hor q (ga S k)) (h2 : f j = false) : Seen q S (k + 1) (fun y => if y = j then true else f y) (n + 1) := by
  have hh : hasB (gdL q S k) (ga S k) (gb S k) = false := by
    rw [← Bool.not_eq_true, has_seen h1, hj, ← h.f_ j hj8, h2]; decide
  have e : gdL q S (k + 1) = gdL q S k ++ [(ga S k, gb S k)] := by rw [gdL, if_pos (by rw [hh, h1]; simp)]
  refine ⟨by rw [e, List.length_append, List.length_singleton, h.n_], fun a ha => ?_⟩
  rw [e, List.length_append, List.length_singleton]
  by_cases ea : a = j
  · subst ea
    simp only [if_true, true_iff]
    exact ⟨(gdL q S k).length, by omega, ga_app_eq.1.trans hj⟩
  · simp only [if_neg ea]
    rw [h.f_ a ha]
    constructor
    · rintro ⟨i, hi, e2⟩; exact ⟨i, by omega, (ga_app_lt hi).1.trans e2⟩
    · rintro ⟨i, hi, e2⟩
      rcases Nat.lt_or_ge i (gdL q S k).length with hl | hl
      · exact ⟨i, hl, (ga_app_lt hl).1.symm.trans e2⟩
      · obtain rfl : i = (gdL q S k).length := by omega
        rw [ga_app_eq.1, hj] at e2
        exact absurd (by omega) ea
theorem vpE_k : vpE 0 3 2 (fun _ => none) bk 9 [4] = 0 := by decide +kernel
set_option maxHeartbeats 6400000 in
set_option maxRecDepth 100000 in
theorem walk (w : World) (hg : HG w) (m : Int) (_ : I64 m) (nd : Int) (_ : I64 nd) (x : Int) (_ : I64 x) (A : Option Addr) (c : Nat) (r : List Int) (hrc : r.length ≤ c) (hcm : c ≤ maxLen) (hA : Ints w A r) (_ : ∀ i, i < r.length → I64 (gi r i))
    (B : Option Addr) (d : Nat) (l : List Sh) (hld : l.length ≤ d) (hdm : d ≤ maxLen) (hB : Shares w B l) (_ : ∀ i, i < l.length → I64 (ga l i) ∧ I64 (gb l i)) (C : Option Addr) (e : Nat) (hs : List Int) (hhe : hs.length ≤ e) (hem : e ≤ maxLen) (hC : Ints w C hs) (_ : ∀ i, i < hs.length → I64 (gi hs i)) :
    Calls Tryd.prog 10 #[.int .i64 m, .int .i64 nd, .int .i64 x, .slice A r.length c, .slice B l.length d, .slice C hs.length e] w fun e w' => e = .returned (.bool true) ∧ Below w.heap.size w w' := by
  have HG0 := Lib.hid hg; have HA := Lib.hid hA; have HB := Lib.hid hB; have HC := Lib.hid hC
  have cn1 := vtnew_ok 3 2 (by decide) (by decide) (by decide) w (base := w.heap.size) (Nat.le_refl _)
  have cp1 := fun (W : World) (p M : Nat) (A : Option Addr) (hV : Vlt W w.heap.size p M 0 3 2 (fun _ => none)) (hA : Ints W A [4]) => vtput_ok hV bk 9 A 1 [4] hA vpE_k
  have cq1 := fun (W : World) (p M : Nat) (hV : Vlt W w.heap.size p M 1 3 2 (fun t => if t = bk then some [9, 4] else (fun _ => none) t)) => vtpart_ok hV bk bk_le 0 (by decide) [9, 4] (by simp)
  rw [show ((0 : Nat) : Int) + 1 = 1 from rfl, show PM.hor [9, 4] 1 = 13 from rfl] at cq1
  have cq3 := fun (W : World) (p M : Nat) (hV : Vlt W w.heap.size p M 1 3 2 (fun t => if t = bk then some [9, 4] else (fun _ => none) t)) => vtpart_ok hV bk bk_le 2 (by decide) [9, 4] (by simp)
  rw [show ((2 : Nat) : Int) + 1 = 3 from rfl, show PM.hor [9, 4] 3 = 21 from rfl] at cq3
  have cg := fun (W : World) (p M : Nat) (A : Option Addr) (hV : Vlt W w.heap.size p M 1 3 2 (fun t => if t = bk then some [9, 4] else (fun _ => none) t)) (hA : Shares W A L3) => vtget_any hV bk bk_le A 3 L3 (by decide) (by decide) hA [9, 4] (by simp)
  rw [L3_get, if_pos rfl, vgV_hor (many := 3) (by decide) L3_get rfl, hor_zero 9 [4] (by decide)] at cg
  have CN1 := Lib.hid cn1; have CP1 := Lib.hid cp1; have CQ1 := Lib.hid cq1; have CQ3 := Lib.hid cq3; have CG := Lib.hid cg
  clear hg hA hB hC cn1 cp1 cq1 cq3 cg
  unfold maxLen at hcm hdm hem
  go_enter Tryd.func10, Tryd.ntmps10
  go_wp2_with fail
  refine CN1.out.mono ?_
  rintro e0 w1 ⟨p, M, rfl, hV1, hb1⟩
  have HV1 := Lib.hid (hV1.keep (bal1 w1 (.cells #[.int .i64 4] 3))); have HB1 := Lib.hid (bal hb1 (.cells #[.int .i64 4] 3))
  have HI1 := Lib.hid (one_ints w1 4 3 (g := w1.heap.size) rfl)
  clear hV1 hb1
  go_wp2_with fail
  refine (CP1.out _ _ _ _ HV1.out HI1.out).mono ?_
  rintro e0 w2 ⟨rfl, hV2, hc2⟩
  have HV2 := Lib.hid hV2; have HB2 := Lib.hid (HB1.out.trans (hc2.below (fun b hb => by rw [hb]; exact HV1.out.hM) HV1.out.hb))
  clear hV2 hc2 HV1 HI1 HB1
  go_wp2_with fail
  refine (CQ1.out _ _ _ HV2.out).mono ?_
  rintro e0 w3 ⟨rfl, hb3⟩
  have HV3 := Lib.hid ((HV2.out.keep hb3).keep (bal1 _ (.cells #[.int .i64 1, .int .i64 13] 41))); have HB3 := Lib.hid (bal (bcl HB2.out hb3) (.cells #[.int .i64 1, .int .i64 13] 41))
  have HN3 := Lib.hid (AtNew w3 (.int .i64 1) (.int .i64 13) 41)
  have hz3 : w3.heap.size < (w3.alloc (.cells #[.int .i64 1, .int .i64 13] 41)).heap.size := by simp
  clear hb3 HV2 HB2
  go_wp2_with fail
  refine (CQ3.out _ _ _ HV3.out).mono ?_
  rintro e0 w4 ⟨rfl, hb4⟩
  have a0 := (hb4.cell (p := ⟨w3.heap.size, 0, none⟩) hz3).trans HN3.out.1
  have a1 := (hb4.cell (p := ⟨w3.heap.size, 1, none⟩) hz3).trans HN3.out.2
  have hz4 : w3.heap.size < w4.heap.size := lt_of_cell a0
  have HV4 := Lib.hid (HV3.out.keep hb4); have HB4 := Lib.hid (bcl HB3.out hb4)
  clear hb4 HV3 HB3 HN3 hz3
  go_wp2_with fail
  obtain ⟨W5, hW5⟩ : ∃ W5, W5 = (w4.alloc (.cells #[.int .i64 3, .int .i64 21] 41)).alloc (.cells #[.int .i64 1, .int .i64 13, .int .i64 2, .int .i64 1, .int .i64 3, .int .i64 21] 41) := ⟨_, rfl⟩
  have hb5 : Below w4.heap.size w4 W5 := by rw [hW5]; exact bal (bal1 _ _) _
  have HV5 := Lib.hid (HV4.out.keep hb5); have HB5 := Lib.hid (bcl HB4.out hb5)
  have HS5 := Lib.hid (show Shares W5 (some ⟨w4.heap.size + 1, 0, none⟩) L3 by rw [hW5]; exact three_shares _ _ _ _ _ _ _ (by simp))
  have a2 := (hb5.cell (p := ⟨w3.heap.size, 1, none⟩) hz4).trans a1
  rw [← hW5]
  clear hW5 hb5 a0 a1 HV4 HB4
  refine (CG.out _ _ _ _ HV5.out HS5.out).mono ?_
  rintro e0 w6 ⟨rfl, hb6⟩
  have a3 := (hb6.cell (p := ⟨w3.heap.size, 1, none⟩) (lt_of_cell a2)).trans a2
  have HB6 := Lib.hid (bcl HB5.out hb6)
  clear hb6 a2 HV5 HB5 HS5 hz4 CN1 CP1 CQ1 CQ3 CG
  by_cases hval : 1 ≤ m ∧ m ≤ 7 ∧ 1 ≤ nd ∧ nd ≤ m
  · obtain ⟨v1, v2, v3, v4⟩ := hval
    obtain ⟨mm, rfl⟩ := Int.eq_ofNat_of_zero_le (show 0 ≤ m by omega)
    obtain ⟨nn, rfl⟩ := Int.eq_ofNat_of_zero_le (show 0 ≤ nd by omega)
    have cn := fun (W : World) (h : w.heap.size ≤ W.heap.size) => vtnew_ok mm nn (by omega) (by omega) (by omega) W (base := w.heap.size) h
    have CN := Lib.hid cn
    have hz6 := HB6.out.size
    clear cn
    by_cases hE : vpE 0 mm nn (fun _ => none) bx x r = 0
    · obtain ⟨_, _, hrl, hsh, _⟩ := vpE_zero hE
      have hall := all_cons (shE_zero hsh).1 (shE_zero hsh).2.2.1
      have hxin := (shE_zero hsh).1
      have cp := fun (W : World) (p M : Nat) (hV : Vlt W w.heap.size p M 0 mm nn (fun _ => none)) (hA : Ints W A r) => vtput_ok hV bx x A c r hA hE
      have CP := Lib.hid cp
      have hq0 := hor_zero x r hxin
      have hql : (x :: r).length = nn := by rw [List.length_cons]; exact hrl
      clear cp hE hsh hxin hrl
      go_upto_block 0 with (first
        | (go_at_call 43; refine (CN.out _ hz6).mono ?_; rintro e0 w7 ⟨p7, M7, rfl, hV7, hb7⟩; have HV7 := Lib.hid hV7; have HB7 := Lib.hid (bcl HB6.out hb7); clear hV7 hb7)
        | (go_at_call 44; refine (CP.out _ _ _ HV7.out (HA.out.below HB7.out (Nat.le_refl _))).mono ?_; rintro e0 w8 ⟨rfl, hV8, hc8⟩; have HB8 := Lib.hid (HB7.out.trans (hc8.below (fun b hb => by rw [hb]; exact HV7.out.hM) HV7.out.hb)); have HV8 := Lib.hid hV8; clear hV8 hc8))
      clear HV7 HB7 CN CP HB6 hz6 a3
      generalize x :: r = q at *
      have HQ0 := Lib.hid hq0; have HQL := Lib.hid hql; have HALL := Lib.hid hall
      clear hq0 hql hall
      have hz8 := HB8.out.size
      go_cut [24] (fun s24 wx => ∃ (A' : Option Addr) (c' : Nat) (S : List Sh), s24 = .slice A' S.length c' ∧ S.length ≤ 12 ∧ Hid (okS mm S) ∧ Hid (OShares wx w8.heap.size A' c' S) ∧ Hid (Below w8.heap.size w8 wx))
      case first =>
        go_wp2_with fail
        go_loopw [24, 25] (fun o i wr => ∃ (k : Nat) (A' : Option Addr) (c' : Nat) (S : List Sh), k ≤ l.length ∧ k ≤ 12 ∧ S.length ≤ k ∧ i = .int .i64 k ∧ o = .slice A' S.length c' ∧ Hid (okS mm S) ∧ Hid (OShares wr w8.heap.size A' c' S) ∧ Hid (Below w8.heap.size w8 wr)) (fun _ i _ => 13 - (intOf i).toNat)
        case atStart => exact ⟨0, none, 0, [], Nat.zero_le _, by omega, Nat.le_refl _, rfl, rfl, fun i hi => absurd hi (by simp), OShares.nil, Below.refl _ _⟩
        case round =>
          obtain ⟨k, A', c', S, hkl, hk12, hSk, rfl, rfl, HS, HO, HBL⟩ := hrel
          have hzr := HBL.out.size
          by_cases t1 : k < l.length
          · by_cases t2 : k < 12
            · obtain ⟨b, off, rfl, hbl, c0, c1⟩ := (HB.out.below (bcl HB8.out HBL.out) (Nat.le_refl _)).at_ t1
              have i0 : (0 : Int) ≤ (k : Int) := by omega
              have i1 : (k : Int) < (l.length : Nat) := by omega
              have hl6 : S.length ≤ 1000000 := by omega
              generalize ga l k = a at *
              generalize gb l k = b2 at *
              by_cases hin : 1 ≤ a ∧ a ≤ mm ∧ 0 ≤ b2 ∧ b2 ≤ 256
              · obtain ⟨g1, g2, g3, g4⟩ := hin
                have HS2 := Lib.hid (HS.out.app ⟨g1, g2⟩ ⟨g3, (show b2 < 257 by omega)⟩)
                go_wp2_with (at_builtin; refine wpList_append_share rfl _ _ rfl w8.heap.size A' c' _ rfl (HO.out.keep (bal1 _ _)) wr.heap.size a b2 rfl (cell_new2a _ _ _ _) (cell_new2b _ _ _ _) hl6 (le_al hzr _) ?_; intro A5 c5 w5' ho5 hb5; have HO5 := Lib.hid ho5; have HB5 := Lib.hid ((bal HBL.out _).trans hb5); clear ho5 hb5)
                go_roundw
                case rel => exact ⟨k + 1, A5, c5, S ++ [(a, b2)], by omega, by omega, by simp; omega, by go_num, by simp, HS2, HO5, HB5⟩
                case measure => simp [intOf]; omega
              · have hx : (decide (1 ≤ a) = false) ∨ (decide (1 ≤ a) = true ∧ decide (a ≤ (mm : Int)) = false) ∨ (decide (1 ≤ a) = true ∧ decide (a ≤ (mm : Int)) = true ∧ decide (0 ≤ b2) = false) ∨ (decide (1 ≤ a) = true ∧ decide (a ≤ (mm : Int)) = true ∧ decide (0 ≤ b2) = true ∧ decide (b2 ≤ 256) = false) := by
                  simp only [decide_eq_true_eq, decide_eq_false_iff_not]; omega
                clear hin
                rcases hx with x1 | ⟨x1, x2⟩ | ⟨x1, x2, x3⟩ | ⟨x1, x2, x3, x4⟩
                all_goals
                  go_wp2_with fail
                  go_roundw
                  case rel => exact ⟨k + 1, A', c', S, by omega, by omega, by omega, by go_num, rfl, HS, HO, HBL⟩
                  case measure => simp [intOf]; omega
            · have hf : decide ((k : Int) < 12) = false := by simp; omega
              go_wp2_with fail
              go_meet
              case rel => exact ⟨A', c', S, rfl, by omega, HS, HO, HBL⟩
          · have hf : decide ((k : Int) < (l.length : Nat)) = false := by simp; omega
            go_wp2_with fail
            go_meet
            case rel => exact ⟨A', c', S, rfl, by omega, HS, HO, HBL⟩
      case rest =>
        obtain ⟨A1, c1, S1, rfl, hS1, HS1, HO1, HBL1⟩ := hcut
        obtain ⟨W9, hw⟩ : ∃ W9 : World, W9 = wc := ⟨_, rfl⟩
        subst hw
        have hz9 := HBL1.out.size
        have cpn := fun (W : World) (hV : Vlt W w.heap.size p7 M7 1 mm nn (fun t => if t = bx then some q else (fun _ => none) t)) (z : Int) (hz : atB mm z = false) => vtpart_range hV bx bx_le z q (by simp) hz
        have cpo := fun (W : World) (hV : Vlt W w.heap.size p7 M7 1 mm nn (fun t => if t = bx then some q else (fun _ => none) t)) (i : Nat) (hi : i < mm) => vtpart_ok hV bx bx_le i hi q (by simp)
        have CPN := Lib.hid cpn; have CPO := Lib.hid cpo
        clear cpn cpo
        go_upto_block 2 with fail
        go_cut [24] (fun s24 wx => ∃ (A' : Option Addr) (c' : Nat) (S : List Sh), s24 = .slice A' S.length c' ∧ S.length ≤ 24 ∧ Hid (okS mm S) ∧ Hid (OShares wx w8.heap.size A' c' S) ∧ Hid (Below w8.heap.size w8 wx))
        case first =>
          go_wp2_with fail
          go_loopw [24, 26, 27, 28] (fun o i _ _ wr => ∃ (k : Nat) (A' : Option Addr) (c' : Nat) (S : List Sh), k ≤ hs.length ∧ k ≤ 12 ∧ S.length ≤ 12 + k ∧ i = .int .i64 k ∧ o = .slice A' S.length c' ∧ Hid (okS mm S) ∧ Hid (OShares wr w8.heap.size A' c' S) ∧ Hid (Below w8.heap.size w8 wr)) (fun _ i _ _ _ => 13 - (intOf i).toNat)
          case atStart => exact ⟨0, A1, c1, S1, Nat.zero_le _, by omega, by omega, rfl, rfl, HS1, HO1, HBL1⟩
          case round =>
            clear HS1 HO1 HBL1
            obtain ⟨k, A', c', S, hkl, hk12, hSk, rfl, rfl, HS, HO, HBL⟩ := hrel
            have hzr := HBL.out.size
            by_cases t1 : k < hs.length
            · by_cases t2 : k < 12
              · obtain ⟨b, off, rfl, hbl, c0⟩ := (HC.out.below (bcl HB8.out HBL.out) (Nat.le_refl _)).at_ t1
                have i0 : (0 : Int) ≤ (k : Int) := by omega
                have i1 : (k : Int) < (hs.length : Nat) := by omega
                have hl6 : S.length ≤ 1000000 := by omega
                have HVR := Lib.hid (HV8.out.keep HBL.out)
                generalize gi hs k = z at *
                cases hz : atB mm z with
                | false =>
                  have cp := CPN.out _ HVR.out z hz
                  have CP := Lib.hid cp
                  clear cp hz
                  go_wp2_with (go_at_call 45; refine CP.out.mono ?_; rintro e0 w9 ⟨rfl, hb9⟩; have HB9 := Lib.hid (bal hb9 (.cells #[.int .i64 0, .int .i64 0] 41)); clear hb9)
                  go_roundw
                  case rel => exact ⟨k + 1, A', c', S, by omega, by omega, by omega, by go_num, rfl, HS, Lib.hid (HO.out.keep HB9.out), Lib.hid (bcl HBL.out HB9.out)⟩
                  case measure => simp [intOf]; omega
                | true =>
                  obtain ⟨z1, z2⟩ := atB_true.1 hz
                  obtain ⟨i, hi⟩ := Int.eq_ofNat_of_zero_le (show 0 ≤ z - 1 by omega)
                  obtain rfl : z = (i : Int) + 1 := by omega
                  have cp := CPO.out _ HVR.out i (by omega)
                  obtain ⟨hr0, hr1⟩ := PM.hor_range q ((i : Int) + 1)
                  have HS2 := Lib.hid (HS.out.app (a := (i : Int) + 1) (b := PM.hor q ((i : Int) + 1)) ⟨z1, z2⟩ ⟨hr0, hr1⟩)
                  generalize PM.hor q ((i : Int) + 1) = v at *
                  generalize (i : Int) + 1 = z at *
                  have CP := Lib.hid cp
                  clear cp hz hi z1 z2 hr0 hr1
                  go_wp2_with (first
                    | (go_at_call 45; refine CP.out.mono ?_; rintro e0 w9 ⟨rfl, hb9⟩; have HB9 := Lib.hid (bal hb9 (.cells #[.int .i64 z, .int .i64 v] 41)); have hz9' : w8.heap.size ≤ (w9.alloc (.cells #[.int .i64 z, .int .i64 v] 41)).heap.size := Nat.le_trans hzr HB9.out.size; clear hb9)
                    | (at_builtin; refine wpList_append_share rfl _ _ rfl w8.heap.size A' c' _ rfl ((HO.out.keep HB9.out).keep (bal1 _ _)) (w9.heap.size + 1) z v rfl (by first | exact cell_new2a _ _ _ _ | simp) (by first | exact cell_new2b _ _ _ _ | simp) hl6 (le_al hz9' _) ?_; intro A5 c5 w5' ho5 hb5; have HO5 := Lib.hid ho5; have HB5 := Lib.hid ((bal (bcl HBL.out HB9.out) _).trans hb5); clear ho5 hb5))
                  go_roundw
                  case rel => exact ⟨k + 1, A5, c5, S ++ [(z, v)], by omega, by omega, by simp; omega, by go_num, by simp, HS2, HO5, HB5⟩
                  case measure => simp [intOf]; omega
              · have hf : decide ((k : Int) < 12) = false := by simp; omega
                go_wp2_with fail
                go_meet
                case rel => exact ⟨A', c', S, rfl, by omega, HS, HO, HBL⟩
            · have hf : decide ((k : Int) < (hs.length : Nat)) = false := by simp; omega
              go_wp2_with fail
              go_meet
              case rel => exact ⟨A', c', S, rfl, by omega, HS, HO, HBL⟩
        case rest =>
          clear HS1 HO1 HBL1 hS1 hz9 CPN CPO
          obtain ⟨A', c', S, rfl, hS24, HS, HO, HBL⟩ := hcut
          obtain ⟨W9, hw⟩ : ∃ W9 : World, W9 = wc := ⟨_, rfl⟩
          subst hw
          have hmk : ∀ W : World, (Instr.makeSlice 82 (.int .i64 8) (.int .i64 8)).run Tryd.prog W = .ok (.slice (some ⟨W.heap.size, 0, none⟩) 8 8) (W.alloc (.cells #[.bool false, .bool false, .bool false, .bool false, .bool false, .bool false, .bool false, .bool false] 4)) := fun _ => by kernel_rfl
          have HZ0 := Lib.hid (show AtB (W9.alloc (.cells #[.bool false, .bool false, .bool false, .bool false, .bool false, .bool false, .bool false, .bool false] 4)) W9.heap.size (seenA (fun _ => false)) 4 from AtB.new _ _ _)
          have hcap := HO.out.cap
          have hcap1 : c' ≤ 9223372036854775807 := by have := hcap.2; unfold maxLen at this; omega
          have hmm7 : mm ≤ 7 := by omega
          have hget : vgE mm nn q S = if (gdL q S S.length).length < nn then 5 else 0 := by
            rw [vgE, if_neg (by omega), if_neg (by rw [anyB_false.2 HS.out]; decide)]
          have hval := fun h => vgV_hor (many := mm) hmm7 (l := S) (need := nn) (q := q) h HQL.out
          rw [HQ0.out] at hval
          have ctr := fun (W : World) (hV : Vlt W w.heap.size p7 M7 1 mm nn (fun t => if t = bx then some q else (fun _ => none) t)) (a b : Int) (hab : (inB a && inB b) = true) => vttrue_any hV bx bx_le a b q (by simp)
          have cg := fun (W : World) (hV : Vlt W w.heap.size p7 M7 1 mm nn (fun t => if t = bx then some q else (fun _ => none) t)) (hW : Shares W A' S) => vtget_any hV bx bx_le A' c' S hcap.1 hcap.2 hW q (by simp)
          have CTR := Lib.hid ctr; have CG := Lib.hid cg; have HGET := Lib.hid hget; have HVAL := Lib.hid hval; have HV9 := Lib.hid (HV8.out.keep HBL.out); have HSH := Lib.hid HO.out.shares; have HB9 := Lib.hid (bcl HB8.out HBL.out)
          clear ctr cg hget hval hcap HO HBL HV8 HB8
          go_wp2_with fail
          clear hmk
          go_loopw [30, 31, 32, 33] (fun n i _ _ wr => ∃ (k cn : Nat) (f : Nat → Bool), k ≤ S.length ∧ i = .int .i64 k ∧ n = .int .i64 cn ∧ Hid (Seen q S k f cn) ∧ Hid (AtB wr W9.heap.size (seenA f) 4) ∧ Hid (Below W9.heap.size W9 wr)) (fun _ i _ _ _ => S.length - (intOf i).toNat)
          case atStart => exact ⟨0, 0, fun _ => false, Nat.zero_le _, rfl, rfl, Seen.zero q S, HZ0, bal1 _ _⟩
          case round =>
            clear HZ0
            obtain ⟨k, cn, f, hk, rfl, rfl, HSN, HZ, HBL⟩ := hrel
            have hcn : cn ≤ k := by rw [HSN.out.n_]; exact gdL_le q S k
            by_cases hlt : k < S.length
            · obtain ⟨b, off, rfl, hbl, c0, c1'⟩ := (HSH.out.below HBL.out (Nat.le_refl _)).at_ hlt
              obtain ⟨ht1, ht2⟩ := badB_false.1 (HS.out k hlt)
              obtain ⟨a1, a2⟩ := atB_true.1 ht1
              obtain ⟨j, hj⟩ := Int.eq_ofNat_of_zero_le (show 0 ≤ ga S k by omega)
              have hj8 : j < 8 := by omega
              have hin : (inB (ga S k) && inB (gb S k)) = true := by rw [ht2, Bool.and_true]; exact inB_true.2 ⟨by omega, by omega⟩
              have ct := CTR.out _ (HV9.out.keep HBL.out) (ga S k) (gb S k) hin
              rw [if_pos hin] at ct
              have i0 : (0 : Int) ≤ (k : Int) := by omega
              have i1 : (k : Int) < (S.length : Nat) := by omega
              have j0 : (0 : Int) ≤ (j : Int) := by omega
              have j1 : (j : Int) < 8 := by omega
              have hcn24 : cn ≤ 24 := by omega
              rw [hj] at c0 ct
              clear ht1 ht2 a1 a2 hin
              by_cases hb : gb S k = PM.hor q (ga S k)
              · have hbt : (gb S k == PM.hor q (j : Int)) = true := by rw [← hj]; exact beq_iff_eq.2 hb
                rw [hbt] at ct
                have CT := Lib.hid ct
                cases hf : f j with
                | true =>
                  have HSN2 := Lib.hid (HSN.out.skip hj hj8 (.inr hf))
                  clear ct hbt hj hb
                  generalize gb S k = b2 at *
                  go_wp2_with (go_at_call 47; refine CT.out.mono ?_; rintro e0 w12 ⟨rfl, hb12⟩; have HZ12 := Lib.hid (HZ.out.below hb12 HZ.out.lt); have HB12 := Lib.hid (HBL.out.trans (hb12.mono HBL.out.size)); have z0 := HZ12.out.cell (i := j) (seenA_at f hj8); rw [hf] at z0; have d0 := (hb12.cell (p := ⟨b, off + k * 2, none⟩) hbl).trans c0; clear hb12)
                  go_roundw
                  case rel => exact ⟨k + 1, cn, f, by omega, by go_num, rfl, HSN2, HZ12, HB12⟩
                  case measure => simp [intOf]; omega
                | false =>
                  have HSN2 := Lib.hid (HSN.out.add hj hj8 hb hf)
                  clear ct hbt hj hb
                  generalize gb S k = b2 at *
                  go_wp2_with (go_at_call 47; refine CT.out.mono ?_; rintro e0 w12 ⟨rfl, hb12⟩; have HZ12 := Lib.hid (HZ.out.below hb12 HZ.out.lt); have HB12 := Lib.hid (HBL.out.trans (hb12.mono HBL.out.size)); have z0 := HZ12.out.cell (i := j) (seenA_at f hj8); rw [hf] at z0; have d0 := (hb12.cell (p := ⟨b, off + k * 2, none⟩) hbl).trans c0; have fz := HZ12.out.frozen j; clear hb12)
                  have HZ13 := HZ12.out.set j (.bool true)
                  rw [seenA_set f hj8] at HZ13
                  have HZ14 := Lib.hid HZ13
                  have HB13 := Lib.hid (HB12.out.setCell (p := ⟨W9.heap.size, j, none⟩) (Nat.le_refl _) (.bool true))
                  clear HZ13
                  go_roundw
                  case rel => exact ⟨k + 1, cn + 1, _, by omega, by go_num, by go_num, HSN2, HZ14, HB13⟩
                  case measure => simp [intOf]; omega
              · have hbt : (gb S k == PM.hor q (j : Int)) = false := by rw [← hj]; exact beq_eq_false_iff_ne.2 hb
                rw [hbt] at ct
                have CT := Lib.hid ct
                have HSN2 := Lib.hid (HSN.out.skip hj hj8 (.inl hb))
                clear ct hbt hj hb
                generalize gb S k = b2 at *
                go_wp2_with (go_at_call 47; refine CT.out.mono ?_; rintro e0 w12 ⟨rfl, hb12⟩; have HZ12 := Lib.hid (HZ.out.below hb12 HZ.out.lt); have HB12 := Lib.hid (HBL.out.trans (hb12.mono HBL.out.size)); clear hb12)
                go_roundw
                case rel => exact ⟨k + 1, cn, f, by omega, by go_num, rfl, HSN2, HZ12, HB12⟩
                case measure => simp [intOf]; omega
            · obtain rfl : k = S.length := by omega
              have hcnn := HSN.out.n_
              have cg := CG.out _ (HV9.out.keep HBL.out) (HSH.out.below HBL.out (Nat.le_refl _))
              by_cases hlow : cn < nn
              · rw [HGET.out, ← hcnn, if_pos hlow, if_neg (by decide)] at cg
                have CGG := Lib.hid cg
                clear cg hcnn
                go_wp2_with (first | (go_at_call 46; refine CGG.out.mono ?_; rintro e0 w12 ⟨rfl, hb12⟩; have HB12 := Lib.hid (bcl HB9.out (HBL.out.trans (hb12.mono HBL.out.size))); have HG12 := Lib.hid (HG0.out.below HB12.out); clear hb12) | (go_at_call 13; refine (same_errW 5 _ HG12.out).mono ?_; rintro e0 w13 ⟨rfl, hb13⟩))
                go_ret
                exact ⟨ret_true (by first | rfl | (simp; done) | (simp; omega)), bcl HB12.out hb13⟩
              · have hg0 : vgE mm nn q S = 0 := by rw [HGET.out, ← hcnn, if_neg hlow]
                rw [hg0, if_pos rfl, HVAL.out hg0] at cg
                have CGG := Lib.hid cg
                clear cg hcnn hg0
                go_wp2_with (go_at_call 46; refine CGG.out.mono ?_; rintro e0 w12 ⟨rfl, hb12⟩; have HB12 := Lib.hid (bcl HB9.out (HBL.out.trans (hb12.mono HBL.out.size))); clear hb12)
                go_ret
                exact ⟨ret_true (by first | rfl | (simp; done) | (simp; omega)), HB12.out⟩
    · have cp := fun (W : World) (p M : Nat) (hV : Vlt W w.heap.size p M 0 mm nn (fun _ => none)) (hA : Ints W A r) => vtput_no hV bx bx_le x A c r (by unfold maxLen; omega) hA hE
      have CP := Lib.hid cp
      generalize vpE 0 mm nn (fun _ => none) bx x r = E at *
      clear cp hE
      go_wp2_with (first
        | (go_at_call 43; refine (CN.out _ hz6).mono ?_; rintro e0 w7 ⟨p7, M7, rfl, hV7, hb7⟩; have HV7 := Lib.hid hV7; have HB7 := Lib.hid (bcl HB6.out hb7); clear hV7 hb7)
        | (go_at_call 44; refine (CP.out _ _ _ HV7.out (HA.out.below HB7.out (Nat.le_refl _))).mono ?_; rintro e0 w8 ⟨rfl, hb8⟩))
      go_ret
      exact ⟨rfl, bcl HB7.out hb8⟩
  · have cn := fun (W : World) => vtnew_no m nd hval W
    have CN := Lib.hid cn
    clear cn hval
    go_wp2_with (go_at_call 43; refine (CN.out _).mono ?_; rintro e0 w7 ⟨rfl, rfl⟩)
    go_ret
    exact ⟨rfl, HB6.out⟩
end Go.Proofs.YtpmgmlmpiofnpaaDoor.vaultKeeps
