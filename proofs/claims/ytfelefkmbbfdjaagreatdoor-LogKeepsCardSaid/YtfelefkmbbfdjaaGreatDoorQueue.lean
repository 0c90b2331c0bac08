/- Package queue: what each function returns, and what it does to a queue. -/
import Derived.Test.YtfelefkmbbfdjaaGreatDoorRule
import Derived.Test.YtfelefkmbbfdjaaGreatDoorSpc
import Derived.Test.YtfelefkmbbfdjaaGreatDoorChs
import Derived.Test.YtfelefkmbbfdjaaGreatDoorWin
import Derived.Test.YtfelefkmbbfdjaaGreatDoorVMap
import Derived.Deep.RegionLaw
namespace Go.Proofs.YtfelefkmbbfdjaaGreatDoor
open Go.ChangeShapes Go.WideShapes Go.ChangeAt Go.RowKit Go.Maps Go.WideMaps
set_option linter.unusedVariables false

theorem Vin.chs {M : Nat → Prop} {w w' : World} {base : Nat} {A : Option Addr} {a : List Va} (h : Vals w A a) (hI : Inn w base 31 A) (hb : base ≤ w.heap.size) (k : Chs M w w') (hM : ∀ b, M b → base ≤ b ∧ ¬ kin w b 31) :
    Vals w' A a ∧ Inn w' base 31 A := by
  have hs : ∀ x, A = some x → w'.heap[x.block]? = w.heap[x.block]? := fun x hx => k.block _ (hI.lt hb hx) fun h2 => by
    obtain ⟨h3, h4⟩ := hM _ h2
    rcases hI x hx with h5 | h5
    · omega
    · exact h4 h5
  exact ⟨vals_stay _ _ _ _ k.size hs h, hI.stay hs⟩

/-! ### asks that the queue has -/
abbrev Ax := Ak × Option Addr × Nat
def axv (x : Ax) : List Value := [.int .i64 x.1.w, .int .i64 x.1.q, .int .i64 x.1.d, .slice x.2.1 x.1.t.length x.2.2]
def axCells (X : List Ax) : List Value := X.flatMap axv
theorem axCells_append (X Y : List Ax) : axCells (X ++ Y) = axCells X ++ axCells Y := by simp [axCells]
/-- what an ask of the queue's has in memory -/
def Axin (w : World) (base : Nat) (x : Ax) : Prop := Vals w x.2.1 x.1.t ∧ x.1.t.length ≤ x.2.2 ∧ x.2.2 ≤ maxLen ∧ Inn w base 31 x.2.1
theorem infoAsk : (Tryz.prog.info? 38).map (fun i => (i.zero, i.size, i.bytes)) = some (some (.agg #[.int .i64 0, .int .i64 0, .int .i64 0, .slice none 0 0]), 4, 48) := by kernel_rfl
/-- a map of numbers to numbers -/
def IMap (w : World) (B n : Nat) (F : Int → Int) : Prop := ∃ m hs f, VMap w 3 B n m (.int .i64 0) hs f ∧ ∀ a, f (.int .i64 a) = .int .i64 (F a)
theorem lawI : Keyed Tryz.prog 3 := int_keyed Tryz.underlying3
theorem zeroInt (w : World) : (zeroValue 3).run Tryz.prog w = .ok (.int .i64 0) w := by kernel_rfl
theorem IMap.stay {w w' : World} {B n : Nat} {F : Int → Int} (h : IMap w B n F) (hb : w'.heap[B]? = w.heap[B]?) : IMap w' B n F := by
  obtain ⟨m, hs, f, h1, h2⟩ := h; exact ⟨m, hs, f, h1.stay hb, h2⟩
theorem IMap.lt {w : World} {B n : Nat} {F : Int → Int} (h : IMap w B n F) : B < w.heap.size := by obtain ⟨m, hs, f, h1, h2⟩ := h; exact h1.lt
theorem IMap.isMap {w : World} {B n : Nat} {F : Int → Int} (h : IMap w B n F) : ∃ es clock, w.heap[B]? = some (.map es clock) := by obtain ⟨m, hs, f, h1, h2⟩ := h; exact h1.isMap

def QM (p : Nat) (g : Option Nat) (m : Nat) (b : Nat) : Prop := b = p ∨ g = some b ∨ b = m
section
variable {w w' : World} {base p m n : Nat} {g : Option Nat} {L : List Ak} {F : Int → Int}
end
/-- what is wrong with what is asked -/
def qcE (a : Ak) : Int := if (whoB a.w && deedB a.d) = false then 1 else if a.d = 0 then tuE a.t else liE a.t
set_option maxHeartbeats 800000 in
set_option maxRecDepth 100000 in
theorem qcheck_any (a : Ak) (A : Option Addr) (c : Nat) (hm : a.t.length ≤ maxLen) (hok : okL a.t) (w : World) (hA : Vals w A a.t) :
    Calls Tryz.prog 41 #[.agg #[.int .i64 a.w, .int .i64 a.q, .int .i64 a.d, .slice A a.t.length c]] w fun e w' => e = .returned (eV (qcE a)) ∧ Below w.heap.size w w' := by
  obtain ⟨x, q, d, t⟩ := a
  simp only at hm hok hA ⊢
  have cw := fun W => who_any x W
  have cd := fun W => deed_any d W
  have cl := fun W (hb : Below w.heap.size w W) => tlike_any A c t hm hok W (hA.below hb (Nat.le_refl _))
  have ct := fun W (hb : Below w.heap.size w W) => tcheck_any A c t hm hok W (hA.below hb (Nat.le_refl _))
  have hb0 : Below w.heap.size w (w.alloc (.cells #[.int .i64 x, .int .i64 q, .int .i64 d, .slice A t.length c] 38)) := bal1 _ _
  unfold qcE
  simp only
  cases h1 : whoB x with
  | false =>
    rw [Bool.false_and, if_pos rfl, show eV 1 = errV 1 from rfl]
    rw [h1] at cw
    have CW := Lib.hid cw; clear cw cd cl ct h1
    go_enter Tryz.func41, Tryz.ntmps41
    go_wp2_with (go_at_call 60; refine (CW.out _).mono ?_; rintro e w1 ⟨rfl, rfl⟩)
    go_ret
    exact ⟨rfl, hb0⟩
  | true =>
    rw [h1] at cw
    cases h2 : deedB d with
    | false =>
      rw [Bool.and_false, if_pos rfl, show eV 1 = errV 1 from rfl]
      rw [h2] at cd
      have CW := Lib.hid cw; have CD := Lib.hid cd; clear cw cd cl ct h1 h2
      go_enter Tryz.func41, Tryz.ntmps41
      go_wp2_with (first | (go_at_call 60; refine (CW.out _).mono ?_; rintro e w1 ⟨rfl, rfl⟩) | (go_at_call 59; refine (CD.out _).mono ?_; rintro e w1 ⟨rfl, rfl⟩))
      go_ret
      exact ⟨rfl, hb0⟩
    | true =>
      rw [Bool.and_self, if_neg (by decide)]
      rw [h2] at cd
      have CW := Lib.hid cw; have CD := Lib.hid cd; clear cw cd h1 h2
      by_cases h3 : d = 0
      · rw [if_pos h3]
        subst h3
        generalize tuE t = E at *
        have CT := Lib.hid ct; clear ct cl
        go_enter Tryz.func41, Tryz.ntmps41
        go_wp2_with (first | (go_at_call 60; refine (CW.out _).mono ?_; rintro e w1 ⟨rfl, rfl⟩) | (go_at_call 59; refine (CD.out _).mono ?_; rintro e w1 ⟨rfl, rfl⟩) | (go_at_call 62; refine (CT.out _ hb0).mono ?_; rintro e w1 ⟨rfl, hb1⟩))
        go_ret
        exact ⟨rfl, bcl hb0 hb1⟩
      · rw [if_neg h3]
        have hq : (d == 0) = false := beq_eq_false_iff_ne.2 h3
        generalize liE t = E at *
        have CL := Lib.hid cl; clear ct cl h3
        go_enter Tryz.func41, Tryz.ntmps41
        go_wp2_with (first | (go_at_call 60; refine (CW.out _).mono ?_; rintro e w1 ⟨rfl, rfl⟩) | (go_at_call 59; refine (CD.out _).mono ?_; rintro e w1 ⟨rfl, rfl⟩) | (go_at_call 61; refine (CL.out _ hb0).mono ?_; rintro e w1 ⟨rfl, hb1⟩))
        go_ret
        exact ⟨rfl, bcl hb0 hb1⟩
end Go.Proofs.YtfelefkmbbfdjaaGreatDoor
