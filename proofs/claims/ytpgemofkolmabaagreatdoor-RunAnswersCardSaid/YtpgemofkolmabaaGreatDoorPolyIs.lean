/- poly.Is (a range over slices.Backward): the value of a polynomial by Horner's way. -/
import Derived.RangeFuncBox
import Derived.RangeFuncNested
import Derived.RangeFuncBound
import Derived.RangeFuncCalls
import Derived.RangeFuncLeaves
import Derived.Shelf.Abstract
import Derived.OwnWalkIn
import Derived.TacticsInMore
import Derived.LoopNIn
import Derived.LoopIn
import Derived.Test.YtpgemofkolmabaaGreatDoorPoly
namespace Go.Proofs.YtpgemofkolmabaaGreatDoor
open Go.RowKit Go.Shelf
set_option linter.unusedVariables false
attribute [local go_sem] Oper.semAt_some

/-- what has come when k rounds are over -/
def upto {α : Type} (f : Nat → α) (k : Nat) : List α := (List.range k).map f
theorem upto_succ {α : Type} (f : Nat → α) (k : Nat) : upto f (k + 1) = upto f k ++ [f k] := by simp [upto, List.range_succ]
theorem upto_length {α : Type} (f : Nat → α) (k : Nat) : (upto f k).length = k := by simp [upto]

/-- what a round of the range is handed: an index, and a number that is one of these -/
abbrev IP := { p : Int × Int // (0 ≤ p.1 ∧ p.1 ≤ 1000000) ∧ 0 ≤ p.2 ∧ p.2 < 257 }
/-- round j, of a list that is right -/
def bk (xs : List Int) (h : xs.length ≤ 7 ∧ ∀ i, 0 ≤ gi xs i ∧ gi xs i < 257) (j : Nat) : IP :=
  ⟨(((xs.length - 1 - j : Nat) : Int), gi xs (xs.length - 1 - j)), ⟨by simp, by simp; omega⟩, (h.2 _).1, (h.2 _).2⟩

/-- what a round keeps: what lay below n₀, and the iterator's own box -/
def Kb (Bs n₀ : Nat) (A B : World) : Prop := Below n₀ A B ∧ B.cell? ⟨Bs, 0, none⟩ = A.cell? ⟨Bs, 0, none⟩
theorem kb_t {Bs n₀ : Nat} {A B C : World} (h : Kb Bs n₀ A B) (k : Kb Bs n₀ B C) : Kb Bs n₀ A C := ⟨h.1.trans k.1, k.2.trans h.2⟩
theorem kb_b {Bs n₀ : Nat} {w : World} (hn : n₀ ≤ w.heap.size) (hB : Bs < w.heap.size) (W : World) (l : Nat) (o o' : Obj) (hl : w.heap.size ≤ l) (h : W.heap[l]? = some o) (h1 : o.isCells = false) (h2 : o.isWalk = false) : Kb Bs n₀ W (W.putObj l o') :=
  ⟨belowK_b hn W l o o' hl h h1 h2, by
    have hlt := (Array.getElem?_eq_some_iff.1 h).1
    exact World.cell?_of_block ((grownBy_putObj' W l o').block Bs (by omega) (by simp; omega))⟩

set_option maxRecDepth 100000 in
set_option maxHeartbeats 2000000 in
/-- slices.Backward's closure -/
theorem backward1_in (F : Fence) (n : Nat) (h7 : F.fn 218) (hro : F.round = none) (hn : 1 ≤ n) (l Bs n₀ cap : Nat) (A : Option Addr) (xs : List Int) (hx : xs.length ≤ 7 ∧ ∀ i, 0 ≤ gi xs i ∧ gi xs i < 257)
    (J Jx : List IP → World → Prop)
    (hY : ∀ pre x W, J pre W → pre.length < xs.length → YieldAt F (n - 1) Tryz.prog l #[.int .i64 x.1.1, .int .i64 x.1.2] W fun e W' =>
      (e = .returned (.bool true) ∧ J (pre ++ [x]) W' ∧ Kb Bs n₀ W W') ∨ (e = .returned (.bool false) ∧ Jx (pre ++ [x]) W'))
    (W : World) (hBs : W.cell? ⟨Bs, 0, none⟩ = some (.slice A xs.length cap)) (hc : ∀ W', Below n₀ W W' → Ints W' A xs) (h0 : J [] W) :
    CallsIn F n Tryz.prog 218 #[.func (.yield l) #[] #[], .pointer (some ⟨Bs, 0, none⟩)] W fun e W' => (∃ v, e = .returned v) ∧
      ((∃ ys, ys = upto (bk xs hx) xs.length ∧ J ys W') ∨ (∃ pre, (∃ k, k ≤ xs.length ∧ pre = upto (bk xs hx) k) ∧ Jx pre W')) := by
  have hl := hx.1
  refine callsIn_of_wp Tryz.func218 rfl h7 ?_ hro
  simp only [Tryz.ntmps218, List.size_toArray, List.length_cons, List.length_nil, Nat.reduceAdd, Nat.reduceSub, Array.replicate_succ, Array.replicate_zero, List.push_toArray, List.append_toArray, List.nil_append, List.cons_append]
  gi_wp2
  gi_loopw [3] (fun i wr => ∃ k : Nat, k ≤ xs.length ∧ i = .int .i64 ((xs.length : Int) - 1 - k) ∧ J (upto (bk xs hx) k) wr ∧ Kb Bs n₀ W wr)
    (fun i _ => (intOf i + 1).toNat)
  case atStart => exact ⟨0, Nat.zero_le _, by simp, h0, Below.refl _ _, rfl⟩
  case round =>
    obtain ⟨k, hk, rfl, hJs, hnx⟩ := hrel
    have hbs := hnx.2.trans hBs
    by_cases hlt : k < xs.length
    · obtain ⟨fn, tmps, assign, body, hy, hR⟩ := hY _ (bk xs hx k) wr hJs (by rw [upto_length]; exact hlt)
      obtain ⟨b, off, rfl, hb, hcell⟩ := (hc wr hnx.1).at_ (i := xs.length - 1 - k) (by omega)
      obtain ⟨m, hm⟩ : ∃ m : Nat, xs.length - 1 - k = m := ⟨_, rfl⟩
      have hmi : (xs.length : Int) - 1 - k = (m : Int) := by omega
      have hmlt : m < xs.length := by omega
      have e1 : (bk xs hx k).1.1 = (m : Int) := by show ((xs.length - 1 - k : Nat) : Int) = m; rw [hm]
      have e2 : (bk xs hx k).1.2 = gi xs m := by show gi xs (xs.length - 1 - k) = _; rw [hm]
      rw [e1, e2] at hy
      rw [hm] at hcell
      rw [hmi]
      have HM := Lib.hid hmi
      clear hm hmi e1 e2 hc
      gi_wp2
      refine hR.mono ?_
      rintro e W3 (⟨rfl, hJ3, hk3⟩ | ⟨rfl, hJx3⟩)
      · gi_wp2
        go_roundw
        case rel => exact ⟨k + 1, by omega, by have := HM.out; first | rfl | (congr 1; done) | (congr 1; omega), by rw [upto_succ]; exact hJ3, kb_t hnx hk3⟩
        case measure => first | (simp [intOf]; done) | (simp [intOf]; omega)
      · gi_wp2
        refine bodyPost_ret (results_none rfl _ _ _) rfl ?_
        exact ⟨⟨_, rfl⟩, .inr ⟨_, ⟨k + 1, by omega, (upto_succ _ _).symm⟩, hJx3⟩⟩
    · obtain rfl : k = xs.length := by omega
      rw [show (xs.length : Int) - 1 - (xs.length : Int) = -1 by omega]
      gi_wp2
      go_end0
      exact ⟨⟨_, rfl⟩, .inl ⟨_, rfl, hJs⟩⟩

set_option maxHeartbeats 1000000 in
/-- slices.Backward(s): the slice value is boxed; the function value captures the box -/
theorem backward_in (F : Fence) (n : Nat) (h5 : F.fn 201) (hro : F.round = none) (a : Option Addr) (len cap : Nat) (w : World) :
    CallsIn F n Tryz.prog 201 #[.slice a len cap] w fun e w' => e = .returned (.func (.func 218) #[] #[.pointer (some ⟨w.heap.size, 0, none⟩)]) ∧ w' = w.alloc (.cells #[.slice a len cap] 58) := by
  refine callsIn_of_wp Tryz.func201 rfl h5 ?_ hro
  simp only [Tryz.ntmps201, List.size_toArray, List.length_cons, List.length_nil, Nat.reduceAdd, Nat.reduceSub, Array.replicate_succ, Array.replicate_zero, List.push_toArray, List.append_toArray, List.nil_append, List.cons_append]
  gi_wp2
  go_ret
  exact ⟨rfl, rfl⟩

theorem backward_stops (F : Fence) (n : Nat) (h7 : F.fn 218) (hro : F.round = none) (hn : 1 ≤ n) (Bs n₀ cap : Nat) (A : Option Addr) (xs : List Int) (hx : xs.length ≤ 7 ∧ ∀ i, 0 ≤ gi xs i ∧ gi xs i < 257) (w : World) (hBs : Bs < w.heap.size) (hn₀ : n₀ ≤ w.heap.size)
    (hc : w.cell? ⟨Bs, 0, none⟩ = some (.slice A xs.length cap)) (hI : ∀ W', Below n₀ w W' → Ints W' A xs) :
    SeqStopsK F n Tryz.prog 218 #[.pointer (some ⟨Bs, 0, none⟩)] (fun x : IP => #[Value.int .i64 x.1.1, Value.int .i64 x.1.2]) (Kb Bs n₀) (fun ys => ys = upto (bk xs hx) xs.length)
      (fun pre => ∃ k, k ≤ xs.length ∧ pre = upto (bk xs hx) k) xs.length w := fun l J Jx W hW _ _ hY h0 => by
  have hW' := hW.mono hn₀
  exact backward1_in F n h7 hro hn l Bs n₀ cap A xs hx J Jx hY W ((hW.cell (p := ⟨Bs, 0, none⟩) hBs).trans hc) (fun W' h => hI W' (hW'.trans h)) h0

/-- Horner's way over what comes -/
def hf (x : Int) (pre : List IP) : Int := pre.foldl (fun o p => (o * x + p.1.2) % 257) 0
theorem hf_snoc (x : Int) (pre : List IP) (p : IP) : hf x (pre ++ [p]) = (hf x pre * x + p.1.2) % 257 := by simp [hf]
theorem hf_range (x : Int) (pre : List IP) : 0 ≤ hf x pre ∧ hf x pre < 257 := by
  rcases List.eq_nil_or_concat pre with rfl | ⟨l, p, rfl⟩
  · simp [hf]
  · rw [List.concat_eq_append, hf_snoc]; omega
theorem hf_hor (x : Int) (xs : List Int) (hx : xs.length ≤ 7 ∧ ∀ i, 0 ≤ gi xs i ∧ gi xs i < 257) (k : Nat) (hk : k ≤ xs.length) : hf x (upto (bk xs hx) k) = PM.hor (xs.drop (xs.length - k)) x := by
  induction k with
  | zero => simp [upto, hf, PM.hor]
  | succ k ih =>
    rw [upto_succ, hf_snoc, ih (by omega)]
    have h1 : xs.length - (k + 1) < xs.length := by omega
    rw [List.drop_eq_getElem_cons h1, PM.hor, show xs.length - (k + 1) + 1 = xs.length - k by omega]
    have e : (bk xs hx k).1.2 = xs[xs.length - (k + 1)] := by
      show gi xs (xs.length - 1 - k) = _
      rw [gi, List.getD_eq_getElem?_getD, show xs.length - 1 - k = xs.length - (k + 1) by omega, List.getElem?_eq_getElem h1]; rfl
    rw [e]
theorem mulx_bd {o x : Int} (h0 : 0 ≤ o) (h1 : o < 257) (h2 : 0 ≤ x) (h3 : x < 257) : 0 ≤ o * x ∧ o * x ≤ 1000000000000 := mul_bd h0 h1 h2 h3 (by omega)

set_option maxRecDepth 100000 in
set_option maxHeartbeats 2000000 in
theorem is_in (F : Fence) (n : Nat) (h3 : F.fn 174) (h5 : F.fn 201) (h7 : F.fn 218) (hro : F.round = none) (hn : 3 ≤ n) (A : Option Addr) (cap : Nat) (xs : List Int) (x : Int)
    (hx : xs.length ≤ 7 ∧ ∀ i, 0 ≤ gi xs i ∧ gi xs i < 257) (x0 : 0 ≤ x) (x1 : x < 257) (w : World) (hI : Ints w A xs) :
    CallsIn F n Tryz.prog 174 #[.slice A xs.length cap, .int .i64 x] w fun e W' => e = .returned (.int .i64 (PM.hor xs x)) ∧ Below w.heap.size w W' := by
  have h1 : 1 ≤ n := by omega
  refine callsIn_of_wp_marks Tryz.func174 rfl h3 ?_ hro
  simp only [Tryz.ntmps174, List.size_toArray, List.length_cons, List.length_nil, Nat.reduceAdd, Nat.reduceSub, Array.replicate_succ, Array.replicate_zero, List.push_toArray, List.append_toArray, List.nil_append, List.cons_append]
  gi_wp2_with (gi_at_call 201; refine (backward_in F (n - 1) h5 hro _ _ _ _).mono ?_; rintro e w' ⟨rfl, rfl⟩)
  have bX := Boxed.new w 3 (.int .i64 x)
  have bO := Boxed.new (w.alloc (.cells #[.int .i64 x] 3)) 3 (.int .i64 0)
  have bN := Boxed.new ((w.alloc (.cells #[.int .i64 x] 3)).alloc (.cells #[.int .i64 0] 3)) 58 (.slice A xs.length cap)
  simp only [World.size_alloc] at bN bO
  have hB0 : Below w.heap.size w (((w.alloc (.cells #[.int .i64 x] 3)).alloc (.cells #[.int .i64 0] 3)).alloc (.cells #[.slice A xs.length cap] 58)) := bal (bal (bal (Below.refl _ _) _) _) _
  have hI2 : ∀ W', Below w.heap.size (((w.alloc (.cells #[.int .i64 x] 3)).alloc (.cells #[.int .i64 0] 3)).alloc (.cells #[.slice A xs.length cap] 58)) W' → Ints W' A xs := fun W' h => hI.below (hB0.trans h) (Nat.le_refl _)
  refine wpIn_rangeFunc_ownG hro h1 (gf := 218) (lb := #[.pointer (some ⟨w.heap.size + 1 + 1, 0, none⟩)]) rfl h7 (enters_of Tryz.func218 (by kernel_rfl) rfl)
    (backward_stops F (n - 1) h7 hro (by omega) (w.heap.size + 1 + 1) w.heap.size cap A xs hx _ (by simp) (by simp; omega) bN.cell hI2) kb_t (kb_b (by simp; omega) (by simp)) (Below.refl _ _) (fun _ => rfl)
    (fun pre W => ((W.cell? ⟨w.heap.size + 1, 0, none⟩ = some (.int .i64 (hf x pre)) ∧ W.frozen? ⟨w.heap.size + 1, 0, none⟩ = false) ∧ W.cell? ⟨w.heap.size, 0, none⟩ = some (.int .i64 x)) ∧ Below w.heap.size w W)
    (fun _ _ _ => False)
    (OwnFrom.and (Own.from (fun s A B row hs hg hr => ⟨⟨cell_kept hs.1.1 hg hr, (frozen_kept hs.1.1 hg hr).trans hs.1.2⟩, cell_kept hs.2 hg hr⟩) _) (ownFrom_below (Nat.le_refl _) (by simp; omega)))
    (fun _ _ _ _ _ hs _ _ => hs)
    ⟨⟨⟨by simpa [hf] using (bO.alloc _).cell, by simpa using (bO.alloc _).frozen⟩, by simpa using ((bX.alloc _).alloc _).cell⟩, hB0⟩
    (fun p => { tmps := #[.slice A xs.length cap, .int .i64 x, undef, .pointer (some ⟨w.heap.size, 0, none⟩), .int .i64 0, .pointer (some ⟨w.heap.size + 1, 0, none⟩), undef, .int .i64 p.1.2, .slice A xs.length cap, .func (.func 218) #[] #[.pointer (some ⟨w.heap.size + 1 + 1, 0, none⟩)], .int .i64 p.1.1, .int .i64 p.1.2, undef, undef, undef, undef, undef, undef, undef], defers := [] }) ?assign ?body ?done ?stop
  case assign =>
    intro l p W K hK
    gi_wp2
    exact hK
  case body =>
    rintro l pre p W ⟨⟨⟨hc, hf'⟩, hX⟩, hB⟩ _
    have hr := hf_range x pre
    have hp := p.2
    obtain ⟨m0, m1⟩ := mulx_bd hr.1 hr.2 x0 x1
    have hs := hf_snoc x pre p
    have HS := Lib.hid hs; clear hs
    obtain ⟨hp1, hp2, hp3⟩ := hp
    gi_wp2
    exact ⟨(KeepsOthers.setCell _ _ _).from _, ⟨(Below.refl w.heap.size W).setCell (p := ⟨w.heap.size + 1, 0, none⟩) (by simp) _, World.cell?_setCell_other _ _ _ _ (by simp)⟩, ⟨⟨by rw [HS.out]; exact World.cell?_setCell_same' _ _ _ (by rw [hc]; rfl), by rw [World.frozen?_setCell]; exact hf'⟩, by rw [World.cell?_setCell_other _ _ _ _ (by simp)]; exact hX⟩, hB.setCell (p := ⟨w.heap.size + 1, 0, none⟩) (by simp) _⟩
  case done =>
    rintro D ys W hD rfl ⟨⟨⟨hc, _⟩, _⟩, hB⟩ hK
    rw [hf_hor x xs hx _ (Nat.le_refl _), Nat.sub_self, List.drop_zero] at hc
    gi_wp2
    refine ⟨by simp, .inl ⟨_, _, rfl, run_takeDeferred hK, ?_⟩⟩
    exact ⟨_, results_tmp rfl _ _ _, rfl, hB.trans (belowK_b (w := w) (Nat.le_refl _) W D _ _ (by simp at hD; omega) hK rfl rfl)⟩
  case stop =>
    rintro D c pre W _ _ h _
    exact h.elim
/-- WHAT A POLYNOMIAL IS AT A PLACE -/
theorem is_any (A : Option Addr) (cap : Nat) (xs : List Int) (x : Int) (hl : xs.length ≤ 7) (hi : allIn xs xs.length = true) (x0 : 0 ≤ x) (x1 : x < 257) (w : World) (hI : Ints w A xs) :
    Calls Tryz.prog 174 #[.slice A xs.length cap, .int .i64 x] w fun e W' => e = .returned (.int .i64 (PM.hor xs x)) ∧ Below w.heap.size w W' := by
  refine callsIn_wide.1 (is_in Fence.wide 3 trivial trivial trivial rfl (Nat.le_refl _) A cap xs x ⟨hl, fun i => ?_⟩ x0 x1 w hI)
  by_cases h : i < xs.length
  · exact inB_true.1 (allIn_at hi h)
  · simp [gi, List.getD_eq_getElem?_getD, List.getElem?_eq_none (by omega : xs.length ≤ i)]
end Go.Proofs.YtpgemofkolmabaaGreatDoor
