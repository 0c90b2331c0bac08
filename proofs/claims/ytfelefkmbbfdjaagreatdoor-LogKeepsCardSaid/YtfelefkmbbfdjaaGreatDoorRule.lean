/- Package rule: Who, Deed, Place, Let, Check, First, May: what each returns. -/
import Derived.Test.YtfelefkmbbfdjaaGreatDoorRMem
import Derived.Test.YtfelefkmbbfdjaaGreatDoorFF
import Derived.Test.YtfelefkmbbfdjaaGreatDoorSpace
import Derived.StillTailTactics
namespace Go.Proofs.YtfelefkmbbfdjaaGreatDoor
open Go.ChangeShapes Go.WideShapes Go.ChangeAt Go.RowKit
set_option linter.unusedVariables false

def whoB (n : Int) : Bool := decide (0 ≤ n) && decide (n ≤ 1000000)
def deedB (n : Int) : Bool := decide (0 ≤ n) && decide (n ≤ 2)
theorem whoB_true {n : Int} : whoB n = true ↔ 0 ≤ n ∧ n ≤ 1000000 := by simp [whoB]
theorem deedB_true {n : Int} : deedB n = true ↔ 0 ≤ n ∧ n ≤ 2 := by simp [deedB]
theorem who_any (n : Int) (w : World) : Calls Tryz.prog 60 #[.int .i64 n] w fun e w' => e = .returned (.bool (whoB n)) ∧ w = w' := by
  by_cases h : 0 ≤ n
  · by_cases h1 : n ≤ 1000000
    · rw [whoB, decide_eq_true h, decide_eq_true h1]
      go_enter Tryz.func60, Tryz.ntmps60
      go_wp2
      go_ret
      exact ⟨rfl, rfl⟩
    · rw [whoB, decide_eq_true h, decide_eq_false h1]
      have hq : decide (n ≤ 1000000) = false := decide_eq_false h1
      go_enter Tryz.func60, Tryz.ntmps60
      go_wp2
      go_ret
      exact ⟨rfl, rfl⟩
  · rw [whoB, decide_eq_false h, Bool.false_and]
    have hq : decide (0 ≤ n) = false := decide_eq_false h
    go_enter Tryz.func60, Tryz.ntmps60
    go_wp2
    go_ret
    exact ⟨rfl, rfl⟩
theorem deed_any (n : Int) (w : World) : Calls Tryz.prog 59 #[.int .i64 n] w fun e w' => e = .returned (.bool (deedB n)) ∧ w = w' := by
  by_cases h : 0 ≤ n
  · by_cases h1 : n ≤ 2
    · rw [deedB, decide_eq_true h, decide_eq_true h1]
      go_enter Tryz.func59, Tryz.ntmps59
      go_wp2
      go_ret
      exact ⟨rfl, rfl⟩
    · rw [deedB, decide_eq_true h, decide_eq_false h1]
      have hq : decide (n ≤ 2) = false := decide_eq_false h1
      go_enter Tryz.func59, Tryz.ntmps59
      go_wp2
      go_ret
      exact ⟨rfl, rfl⟩
  · rw [deedB, decide_eq_false h, Bool.false_and]
    have hq : decide (0 ≤ n) = false := decide_eq_false h
    go_enter Tryz.func59, Tryz.ntmps59
    go_wp2
    go_ret
    exact ⟨rfl, rfl⟩
/-- does a rule go? -/
def goB (d o : Int) (a : List Va) (who deed : Int) (t : List Va) : Bool := (d == deed) && ((decide (o < 0)) || (o == who)) && fitB a t
set_option maxHeartbeats 1600000 in
set_option maxRecDepth 100000 in
theorem plclos_any (d o : Int) (a : List Va) (B : Option Addr) (C : Nat) (m : Bool) (who deed : Int) (A : Option Addr) (c : Nat) (t : List Va) (q1 q2 q3 : Nat) (hm : a.length ≤ maxLen) (w : World) (hB : Vals w B a) (hA : Vals w A t)
    (h1 : w.cell? ⟨q1, 0, none⟩ = some (.int .i64 deed)) (h2 : w.cell? ⟨q2, 0, none⟩ = some (.int .i64 who)) (h3 : w.cell? ⟨q3, 0, none⟩ = some (.slice A t.length c)) :
    Calls Tryz.prog 108 #[.agg #[.int .i64 d, .int .i64 o, .slice B a.length C, .bool m], .pointer (some ⟨q1, 0, none⟩), .pointer (some ⟨q2, 0, none⟩), .pointer (some ⟨q3, 0, none⟩)] w fun e w' => e = .returned (.bool (goB d o a who deed t)) ∧ Below w.heap.size w w' := by
  have hb : Below w.heap.size w (w.alloc (.cells #[.int .i64 d, .int .i64 o, .slice B a.length C, .bool m] 34)) := bal1 _ _
  have e1 : (w.alloc (.cells #[.int .i64 d, .int .i64 o, .slice B a.length C, .bool m] 34)).cell? ⟨q1, 0, none⟩ = some (.int .i64 deed) := (hb.cell (p := ⟨q1, 0, none⟩) (lt_of_cell h1)).trans h1
  have e2 : (w.alloc (.cells #[.int .i64 d, .int .i64 o, .slice B a.length C, .bool m] 34)).cell? ⟨q2, 0, none⟩ = some (.int .i64 who) := (hb.cell (p := ⟨q2, 0, none⟩) (lt_of_cell h2)).trans h2
  have e3 : (w.alloc (.cells #[.int .i64 d, .int .i64 o, .slice B a.length C, .bool m] 34)).cell? ⟨q3, 0, none⟩ = some (.slice A t.length c) := (hb.cell (p := ⟨q3, 0, none⟩) (lt_of_cell h3)).trans h3
  have ct := fun (W2 : World) (b2 : Below w.heap.size w W2) => tis_any B C a A c t hm W2 (hB.below b2 (Nat.le_refl _)) (hA.below b2 (Nat.le_refl _))
  clear h1 h2 h3 hB hA
  cases x1 : (d == deed) with
  | false =>
    have hv : goB d o a who deed t = false := by rw [goB, x1]; rfl
    rw [hv]
    clear hv ct
    go_enter Tryz.func108, Tryz.ntmps108
    go_wp2_with fail
    go_ret
    exact ⟨rfl, (by repeat (first | exact Below.refl _ _ | assumption | refine bal ?_ _ | refine bdn ?_ _ | refine bdr ?_ | refine bcl ?_ (by assumption)))⟩
  | true =>
    cases x2 : decide (o < 0) with
    | true =>
      have hv : goB d o a who deed t = fitB a t := by rw [goB, x1, x2]; rfl
      rw [hv]
      generalize fitB a t = z at *
      have CT := Lib.hid ct
      clear hv ct
      go_enter Tryz.func108, Tryz.ntmps108
      go_wp2_with fail
      refine (CT.out _ hb).mono ?_
      rintro e w2 ⟨rfl, hb2⟩
      go_wp2_with fail
      go_ret
      exact ⟨rfl, (by repeat (first | exact Below.refl _ _ | assumption | refine bal ?_ _ | refine bdn ?_ _ | refine bdr ?_ | refine bcl ?_ (by assumption)))⟩
    | false =>
      cases x3 : (o == who) with
      | true =>
        have hv : goB d o a who deed t = fitB a t := by rw [goB, x1, x2, x3]; rfl
        rw [hv]
        generalize fitB a t = z at *
        have CT := Lib.hid ct
        clear hv ct
        go_enter Tryz.func108, Tryz.ntmps108
        go_wp2_with fail
        refine (CT.out _ hb).mono ?_
        rintro e w2 ⟨rfl, hb2⟩
        go_wp2_with fail
        go_ret
        exact ⟨rfl, (by repeat (first | exact Below.refl _ _ | assumption | refine bal ?_ _ | refine bdn ?_ _ | refine bdr ?_ | refine bcl ?_ (by assumption)))⟩
      | false =>
        have hv : goB d o a who deed t = false := by rw [goB, x1, x2, x3]; rfl
        rw [hv]
        clear hv ct
        go_enter Tryz.func108, Tryz.ntmps108
        go_wp2_with fail
        go_ret
        exact ⟨rfl, (by repeat (first | exact Below.refl _ _ | assumption | refine bal ?_ _ | refine bdn ?_ _ | refine bdr ?_ | refine bcl ?_ (by assumption)))⟩
set_option maxHeartbeats 800000 in
set_option maxRecDepth 100000 in
theorem ruidx_any (A : Option Addr) (cap : Nat) (l : List Ru) (hm : l.length ≤ maxLen) (g : FuncId) (q1 q2 q3 : Value) (p : Nat → Bool) (w : World) (hA : Rls w A l)
    (hp : ∀ W, Below w.heap.size w W → ∀ i, i < l.length → ∀ B C, Vals W B (ru l i).a → Calls Tryz.prog g #[.agg #[.int .i64 (ru l i).d, .int .i64 (ru l i).o, .slice B (ru l i).a.length C, .bool (ru l i).m], q1, q2, q3] W fun e w' => e = .returned (.bool (p i)) ∧ Below W.heap.size W w')
    (hg : ∀ args w, (callFunc g args).run Tryz.prog w = .ok (.enter g args) w) :
    Calls Tryz.prog 107 #[.slice A l.length cap, .func (.func g) #[] #[q1, q2, q3]] w fun e w' => e = .returned (.int .i64 (idx p l.length)) ∧ Below w.heap.size w w' := by
  have HP := Lib.hid hp; clear hp
  unfold maxLen at hm
  go_enter Tryz.func107, Tryz.ntmps107
  go_wp2_with fail
  go_loopw [8] (fun i wr => ∃ k : Nat, k ≤ l.length ∧ i = .int .i64 k ∧ Hid (fst' p k = none) ∧ Below w.heap.size w wr) (fun i _ => l.length - (intOf i).toNat)
  case atStart => exact ⟨0, Nat.zero_le _, rfl, rfl, Below.refl _ _⟩
  case round =>
    obtain ⟨k, hk, rfl, hf, hb⟩ := hrel
    by_cases hlt : k < l.length
    · obtain ⟨b, off, B, C, rfl, hbl, c0, c1, c2, c3, hv, _, _⟩ := (hA.below hb (Nat.le_refl _)).at_ (i := k) hlt
      cases hpk : p k with
      | true =>
        have hi : idx p l.length = (k : Int) := idx_some (k := k + 1) (by simp only [fst', hf.out, hpk, if_true]) (by omega)
        have HI := Lib.hid hi; clear hi
        have hc := HP.out wr hb k hlt B C hv
        rw [hpk] at hc
        have HC := Lib.hid hc; clear hc hpk
        go_wp2_with fail
        refine HC.out.mono ?_
        rintro e w1 ⟨rfl, hb1⟩
        go_wp2_with fail
        rw [HI.out]
        go_ret
        exact ⟨rfl, bcl hb hb1⟩
      | false =>
        have hn' : fst' p (k + 1) = none := by simp [fst', hf.out, hpk]
        have HN := Lib.hid hn'; clear hn'
        have hc := HP.out wr hb k hlt B C hv
        rw [hpk] at hc
        have HC := Lib.hid hc; clear hc hpk
        go_wp2_with fail
        refine HC.out.mono ?_
        rintro e w1 ⟨rfl, hb1⟩
        go_wp2_with fail
        go_roundw
        case rel => exact ⟨k + 1, by omega, by go_num, HN, bcl hb hb1⟩
        case measure => simp [intOf]; omega
    · obtain rfl : k = l.length := by omega
      have HI := Lib.hid (idx_none hf.out)
      go_wp2_with fail
      rw [HI.out]
      go_ret
      exact ⟨rfl, hb⟩
/-- which rule goes, or -1 -/
def plcR (l : List Ru) (who deed : Int) (t : List Va) : Int := idx (fun i => goB (ru l i).d (ru l i).o (ru l i).a who deed t) l.length
/-- the likes of rules are short -/
def shR (l : List Ru) : Prop := ∀ i, i < l.length → (ru l i).a.length ≤ maxLen
theorem shR_of {w : World} {A : Option Addr} {l : List Ru} (h : Rls w A l) : shR l := fun i hi => by
  obtain ⟨b, off, B, C, _, _, _, _, _, _, _, h1, h2⟩ := h.at_ hi
  omega
set_option maxHeartbeats 800000 in
set_option maxRecDepth 100000 in
theorem place_any (A : Option Addr) (cap : Nat) (l : List Ru) (hm : l.length ≤ maxLen) (who deed : Int) (T : Option Addr) (c : Nat) (t : List Va) (w : World) (hA : Rls w A l) (hT : Vals w T t) :
    Calls Tryz.prog 89 #[.slice A l.length cap, .int .i64 who, .int .i64 deed, .slice T t.length c] w fun e w' => e = .returned (.int .i64 (plcR l who deed t)) ∧ Below w.heap.size w w' := by
  have hs := shR_of hA
  have ci : ∀ W, Below w.heap.size w W → ∀ q1 q2 q3, W.cell? ⟨q1, 0, none⟩ = some (.int .i64 deed) → W.cell? ⟨q2, 0, none⟩ = some (.int .i64 who) → W.cell? ⟨q3, 0, none⟩ = some (.slice T t.length c) →
      Calls Tryz.prog 107 #[.slice A l.length cap, .func (.func 108) #[] #[.pointer (some ⟨q1, 0, none⟩), .pointer (some ⟨q2, 0, none⟩), .pointer (some ⟨q3, 0, none⟩)]] W fun e w' => e = .returned (.int .i64 (plcR l who deed t)) ∧ Below W.heap.size W w' := fun W hb q1 q2 q3 h1 h2 h3 =>
    ruidx_any A cap l hm 108 _ _ _ _ W (hA.below hb (Nat.le_refl _)) (fun W2 hb2 i hi B C hB => plclos_any _ _ _ B C _ who deed T c t q1 q2 q3 (hs i hi) W2 hB (hT.below (bcl hb hb2) (Nat.le_refl _)) ((hb2.cell (p := ⟨q1, 0, none⟩) (lt_of_cell h1)).trans h1) ((hb2.cell (p := ⟨q2, 0, none⟩) (lt_of_cell h2)).trans h2) ((hb2.cell (p := ⟨q3, 0, none⟩) (lt_of_cell h3)).trans h3)) (enters_of Tryz.func108 (by kernel_rfl) rfl)
  have CI := Lib.hid ci; clear ci hs
  generalize plcR l who deed t = z at *
  have hb3 : Below w.heap.size w (((w.alloc (.cells #[.int .i64 who] 3)).alloc (.cells #[.int .i64 deed] 3)).alloc (.cells #[.slice T t.length c] 32)) := bal (bal (bal1 _ _) _) _
  have g1 : (((w.alloc (.cells #[.int .i64 who] 3)).alloc (.cells #[.int .i64 deed] 3)).alloc (.cells #[.slice T t.length c] 32)).cell? ⟨w.heap.size, 0, none⟩ = some (.int .i64 who) := by
    rw [World.cell?_alloc_lt _ _ ⟨w.heap.size, 0, none⟩ (by simp; omega), World.cell?_alloc_lt _ _ ⟨w.heap.size, 0, none⟩ (by simp)]; exact cell_new1 _ _ _
  have g2 : (((w.alloc (.cells #[.int .i64 who] 3)).alloc (.cells #[.int .i64 deed] 3)).alloc (.cells #[.slice T t.length c] 32)).cell? ⟨w.heap.size + 1, 0, none⟩ = some (.int .i64 deed) := by
    rw [World.cell?_alloc_lt _ _ ⟨w.heap.size + 1, 0, none⟩ (by simp), show w.heap.size + 1 = (w.alloc (.cells #[.int .i64 who] 3)).heap.size by simp]; exact cell_new1 _ _ _
  have g3 : (((w.alloc (.cells #[.int .i64 who] 3)).alloc (.cells #[.int .i64 deed] 3)).alloc (.cells #[.slice T t.length c] 32)).cell? ⟨w.heap.size + 1 + 1, 0, none⟩ = some (.slice T t.length c) := by
    rw [show w.heap.size + 1 + 1 = ((w.alloc (.cells #[.int .i64 who] 3)).alloc (.cells #[.int .i64 deed] 3)).heap.size by simp]; exact cell_new1 _ _ _
  go_enter Tryz.func89, Tryz.ntmps89
  go_wp2_with fail
  refine (CI.out _ hb3 _ _ _ g2 g1 g3).mono ?_
  rintro e w1 ⟨rfl, hb1⟩
  go_wp2_with fail
  go_ret
  exact ⟨rfl, (by repeat (first | exact Below.refl _ _ | assumption | refine bal ?_ _ | refine bdn ?_ _ | refine bdr ?_ | refine bcl ?_ (by assumption)))⟩
theorem plcR_at {l : List Ru} {who deed : Int} {t : List Va} (h : ¬ plcR l who deed t < 0) : ∃ k : Nat, plcR l who deed t = (k : Int) ∧ k < l.length ∧ goB (ru l k).d (ru l k).o (ru l k).a who deed t = true ∧ ∀ j, j < k → goB (ru l j).d (ru l j).o (ru l j).a who deed t = false := by
  obtain ⟨k, h1, h2, h3, h4⟩ := idx_at (p := fun i => goB (ru l i).d (ru l i).o (ru l i).a who deed t) (n := l.length) (by unfold plcR at h; omega)
  exact ⟨k, h1, h2, h3, h4⟩
/-- may it be done? -/
def letR (l : List Ru) (who deed : Int) (t : List Va) : Bool := !decide (plcR l who deed t < 0) && (ru l (plcR l who deed t).toNat).m
set_option maxHeartbeats 800000 in
set_option maxRecDepth 100000 in
theorem let_any (A : Option Addr) (cap : Nat) (l : List Ru) (hm : l.length ≤ maxLen) (who deed : Int) (T : Option Addr) (c : Nat) (t : List Va) (w : World) (hA : Rls w A l) (hT : Vals w T t) :
    Calls Tryz.prog 64 #[.slice A l.length cap, .int .i64 who, .int .i64 deed, .slice T t.length c] w fun e w' => e = .returned (.bool (letR l who deed t)) ∧ Below w.heap.size w w' := by
  have cp := place_any A cap l hm who deed T c t w hA hT
  by_cases h : plcR l who deed t < 0
  · have hv : letR l who deed t = false := by rw [letR, decide_eq_true h]; rfl
    rw [hv]
    have hq : decide (0 ≤ plcR l who deed t) = false := decide_eq_false (by omega)
    generalize plcR l who deed t = z at *
    have CP := Lib.hid cp; clear cp hv h
    go_enter Tryz.func64, Tryz.ntmps64
    go_wp2_with (go_at_call 89; refine CP.out.mono ?_; rintro e w1 ⟨rfl, hb1⟩)
    go_ret
    exact ⟨rfl, (by repeat (first | exact Below.refl _ _ | assumption | refine bal ?_ _ | refine bdn ?_ _ | refine bdr ?_ | refine bcl ?_ (by assumption)))⟩
  · obtain ⟨k, hk, hlt, _⟩ := plcR_at h
    have hv : letR l who deed t = (ru l k).m := by rw [letR, decide_eq_false h, hk]; simp
    rw [hv]
    rw [hk] at cp
    have CP := Lib.hid cp; clear cp hv h hk
    go_enter Tryz.func64, Tryz.ntmps64
    go_wp2_with (go_at_call 89; refine CP.out.mono ?_; rintro e w1 ⟨rfl, hb1⟩; obtain ⟨b, off, B, C, rfl, hbl, c0, c1, c2, c3, hv, _, _⟩ := (hA.below hb1 (Nat.le_refl _)).at_ (i := k) hlt)
    go_ret
    exact ⟨rfl, (by repeat (first | exact Below.refl _ _ | assumption | refine bal ?_ _ | refine bdn ?_ _ | refine bdr ?_ | refine bcl ?_ (by assumption)))⟩
/-- what is wrong with a rule -/
def oneE (r : Ru) : Int := if deedB r.d = false ∨ (r.o ≠ -1 ∧ whoB r.o = false) then 1 else liE r.a
/-- what is wrong with rules -/
def rulE (l : List Ru) : Int := if 8 < l.length then 4 else ff (fun i => oneE (ru l i)) l.length
theorem rulE_zero {l : List Ru} (h : rulE l = 0) : l.length ≤ 8 ∧ ∀ i, i < l.length → oneE (ru l i) = 0 := by
  unfold rulE at h
  split at h
  · cases h
  · exact ⟨by omega, fun i hi => ff_zero h hi⟩
theorem oneE_zero {r : Ru} (h : oneE r = 0) : deedB r.d = true ∧ (r.o = -1 ∨ whoB r.o = true) ∧ liE r.a = 0 := by
  unfold oneE at h
  split at h
  · cases h
  · rename_i h1
    refine ⟨?_, ?_, h⟩
    · cases e : deedB r.d with
      | true => rfl
      | false => exact absurd (.inl e) h1
    · by_cases e : r.o = -1
      · exact .inl e
      · cases e2 : whoB r.o with
        | true => exact .inr rfl
        | false => exact absurd (.inr ⟨e, e2⟩) h1
set_option maxHeartbeats 1600000 in
set_option maxRecDepth 100000 in
theorem rucheck_any (A : Option Addr) (cap : Nat) (l : List Ru) (hm : l.length ≤ maxLen) (hok : okR l) (w : World) (hA : Rls w A l) :
    Calls Tryz.prog 37 #[.slice A l.length cap] w fun e w' => e = .returned (eV (rulE l)) ∧ Below w.heap.size w w' := by
  have hs := shR_of hA
  unfold maxLen at hm
  by_cases h8 : 8 < l.length
  · have hv : rulE l = 4 := by rw [rulE, if_pos h8]
    rw [hv]
    clear hv hs
    go_enter Tryz.func37, Tryz.ntmps37
    go_wp2_with fail
    go_ret
    exact ⟨rfl, Below.refl _ _⟩
  · have hv : rulE l = ff (fun i => oneE (ru l i)) l.length := by rw [rulE, if_neg h8]
    rw [hv]
    have HOK := Lib.hid hok; have HS := Lib.hid hs
    clear hv hok hs
    go_enter Tryz.func37, Tryz.ntmps37
    go_wp2_with fail
    go_loopw [12] (fun i wr => ∃ j : Nat, j ≤ l.length ∧ i = .int .i64 j ∧ Hid (ff (fun i => oneE (ru l i)) j = 0) ∧ Below w.heap.size w wr) (fun i _ => l.length - (intOf i).toNat)
    case atStart => exact ⟨0, by omega, rfl, rfl, (by repeat (first | exact Below.refl _ _ | assumption | refine bal ?_ _ | refine bdn ?_ _ | refine bdr ?_ | refine bcl ?_ (by assumption)))⟩
    case round =>
      obtain ⟨j, hj, rfl, hzz, hb⟩ := hrel
      by_cases hlt : j < l.length
      · obtain ⟨b, off, B, C, rfl, hbl, c0, c1, c2, c3, hv, _, _⟩ := (hA.below hb (Nat.le_refl _)).at_ (i := j) hlt
        have hbad : oneE (ru l j) ≠ 0 → Hid (ff (fun i => oneE (ru l i)) l.length = oneE (ru l j)) := fun h => Lib.hid (ff_at (f := fun i => oneE (ru l i)) hzz.out h hlt)
        have cd := fun W => deed_any (ru l j).d W
        have cw := fun W => who_any (ru l j).o W
        have ct := fun (W : World) (hb2 : Below wr.heap.size wr W) => tlike_any B C (ru l j).a (HS.out j hlt) (HOK.out j hlt).1 W (hv.below hb2 (Nat.le_refl _))
        cases x1 : deedB (ru l j).d with
        | false =>
          have ho : oneE (ru l j) = 1 := by rw [oneE, if_pos (.inl x1)]
          have HB := hbad (by rw [ho]; decide)
          rw [ho] at HB
          rw [x1] at cd
          have CD := Lib.hid cd; clear cd cw ct hbad ho x1
          go_wp2_with (go_at_call 59; refine (CD.out _).mono ?_; rintro e w2 ⟨rfl, rfl⟩)
          rw [HB.out]
          go_ret
          exact ⟨rfl, (by repeat (first | exact Below.refl _ _ | assumption | refine bal ?_ _ | refine bdn ?_ _ | refine bdr ?_ | refine bcl ?_ (by assumption)))⟩
        | true =>
          rw [x1] at cd
          have rest : (ru l j).o = -1 ∨ whoB (ru l j).o = true → oneE (ru l j) = liE (ru l j).a := fun h => by
            rw [oneE, if_neg]
            rintro (h2 | ⟨h2, h3⟩)
            · rw [x1] at h2; cases h2
            · rcases h with h | h
              · exact h2 h
              · rw [h3] at h; cases h
          by_cases x2 : (ru l j).o = -1
          · have hq : ((ru l j).o != -1) = false := by simp [x2]
            have hr := rest (.inl x2)
            by_cases h0 : liE (ru l j).a = 0
            · have HN := Lib.hid (ff_next (f := fun i => oneE (ru l i)) hzz.out (hr.trans h0))
              rw [h0, eV_zero] at ct
              have CD := Lib.hid cd; have CT := Lib.hid ct; clear cd cw ct hbad hr rest h0 x1 x2
              go_wp2_with (first | (go_at_call 59; refine (CD.out _).mono ?_; rintro e w2 ⟨rfl, rfl⟩) | (go_at_call 61; refine (CT.out _ (by first | exact bal1 _ _ | exact bdr (bal1 _ _))).mono ?_; rintro e w3 ⟨rfl, hb3⟩))
              go_roundw
              case rel => exact ⟨j + 1, by omega, by go_num, HN, bcl (bal hb _) hb3⟩
              case measure => simp [intOf]; omega
            · have HB := hbad (by rw [hr]; exact h0)
              rw [hr] at HB
              have HX := Lib.hid (eV_of h0)
              rw [eV_of h0] at ct
              generalize liE (ru l j).a = E at *
              have CD := Lib.hid cd; have CT := Lib.hid ct; clear cd cw ct hbad hr rest h0 x1 x2
              go_wp2_with (first | (go_at_call 59; refine (CD.out _).mono ?_; rintro e w2 ⟨rfl, rfl⟩) | (go_at_call 61; refine (CT.out _ (by first | exact bal1 _ _ | exact bdr (bal1 _ _))).mono ?_; rintro e w3 ⟨rfl, hb3⟩))
              rw [HB.out, HX.out]
              go_ret
              exact ⟨rfl, bcl (bal hb _) hb3⟩
          · have hq : ((ru l j).o != -1) = true := by simp [x2]
            cases x3 : whoB (ru l j).o with
            | false =>
              have ho : oneE (ru l j) = 1 := by rw [oneE, if_pos (.inr ⟨x2, x3⟩)]
              have HB := hbad (by rw [ho]; decide)
              rw [ho] at HB
              rw [x3] at cw
              have CD := Lib.hid cd; have CW := Lib.hid cw; clear cd cw ct hbad ho x1 x2 x3 rest
              go_wp2_with (first | (go_at_call 59; refine (CD.out _).mono ?_; rintro e w2 ⟨rfl, rfl⟩) | (go_at_call 60; refine (CW.out _).mono ?_; rintro e w3 ⟨rfl, rfl⟩))
              rw [HB.out]
              go_ret
              exact ⟨rfl, (by repeat (first | exact Below.refl _ _ | assumption | refine bal ?_ _ | refine bdn ?_ _ | refine bdr ?_ | refine bcl ?_ (by assumption)))⟩
            | true =>
              rw [x3] at cw
              have hr := rest (.inr x3)
              by_cases h0 : liE (ru l j).a = 0
              · have HN := Lib.hid (ff_next (f := fun i => oneE (ru l i)) hzz.out (hr.trans h0))
                rw [h0, eV_zero] at ct
                have CD := Lib.hid cd; have CW := Lib.hid cw; have CT := Lib.hid ct; clear cd cw ct hbad hr rest h0 x1 x2 x3
                go_wp2_with (first | (go_at_call 59; refine (CD.out _).mono ?_; rintro e w2 ⟨rfl, rfl⟩) | (go_at_call 60; refine (CW.out _).mono ?_; rintro e w4 ⟨rfl, rfl⟩) | (go_at_call 61; refine (CT.out _ (by first | exact bal1 _ _ | exact bdr (bal1 _ _))).mono ?_; rintro e w3 ⟨rfl, hb3⟩))
                go_roundw
                case rel => exact ⟨j + 1, by omega, by go_num, HN, bcl (bal hb _) hb3⟩
                case measure => simp [intOf]; omega
              · have HB := hbad (by rw [hr]; exact h0)
                rw [hr] at HB
                have HX := Lib.hid (eV_of h0)
                rw [eV_of h0] at ct
                generalize liE (ru l j).a = E at *
                have CD := Lib.hid cd; have CW := Lib.hid cw; have CT := Lib.hid ct; clear cd cw ct hbad hr rest h0 x1 x2 x3
                go_wp2_with (first | (go_at_call 59; refine (CD.out _).mono ?_; rintro e w2 ⟨rfl, rfl⟩) | (go_at_call 60; refine (CW.out _).mono ?_; rintro e w4 ⟨rfl, rfl⟩) | (go_at_call 61; refine (CT.out _ (by first | exact bal1 _ _ | exact bdr (bal1 _ _))).mono ?_; rintro e w3 ⟨rfl, hb3⟩))
                rw [HB.out, HX.out]
                go_ret
                exact ⟨rfl, bcl (bal hb _) hb3⟩
      · obtain rfl : j = l.length := by omega
        go_wp2_with fail
        rw [hzz.out]
        go_ret
        exact ⟨rfl, hb⟩
/-- what is wrong with rules, and what is done -/
def rbE (l : List Ru) (who deed : Int) (t : List Va) : Int := if rulE l ≠ 0 then rulE l else if (whoB who && deedB deed) = false then 1 else tuE t
end Go.Proofs.YtfelefkmbbfdjaaGreatDoor
