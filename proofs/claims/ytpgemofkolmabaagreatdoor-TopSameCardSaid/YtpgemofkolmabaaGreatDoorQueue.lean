/- Package queue: what each function returns, and what it does to a queue. -/
import Derived.Test.YtpgemofkolmabaaGreatDoorRule
import Derived.Test.YtpgemofkolmabaaGreatDoorSpc
import Derived.Test.YtpgemofkolmabaaGreatDoorChs
import Derived.Test.YtpgemofkolmabaaGreatDoorWin
import Derived.Test.YtpgemofkolmabaaGreatDoorVMap
import Derived.Deep.RegionLaw
namespace Go.Proofs.YtpgemofkolmabaaGreatDoor
open Go.ChangeShapes Go.WideShapes Go.ChangeAt Go.RowKit Go.Maps Go.WideMaps
set_option linter.unusedVariables false

theorem Vin.chs {M : Nat → Prop} {w w' : World} {base : Nat} {A : Option Addr} {a : List Va} (h : Vals w A a) (hI : Inn w base 30 A) (hb : base ≤ w.heap.size) (k : Chs M w w') (hM : ∀ b, M b → base ≤ b ∧ ¬ kin w b 30) :
    Vals w' A a ∧ Inn w' base 30 A := by
  have hs : ∀ x, A = some x → w'.heap[x.block]? = w.heap[x.block]? := fun x hx => k.block _ (hI.lt hb hx) fun h2 => by
    obtain ⟨h3, h4⟩ := hM _ h2
    rcases hI x hx with h5 | h5
    · omega
    · exact h4 h5
  exact ⟨vals_stay _ _ _ _ k.size hs h, hI.stay hs⟩

/-! ### asks that the queue has -/
abbrev Ax := Ak × Option Addr × Nat
def axv (x : Ax) : List Value := [.int .i64 x.1.w, .int .i64 x.1.q, .int .i64 x.1.d, .slice x.2.1 x.1.t.length x.2.2]
def axCells (X : List Ax) : List Value := X.flatMap axv
theorem axCells_append (X Y : List Ax) : axCells (X ++ Y) = axCells X ++ axCells Y := by simp [axCells]
/-- what an ask of the queue's has in memory -/
def Axin (w : World) (base : Nat) (x : Ax) : Prop := Vals w x.2.1 x.1.t ∧ x.1.t.length ≤ x.2.2 ∧ x.2.2 ≤ maxLen ∧ Inn w base 30 x.2.1
theorem infoAsk : (Tryz.prog.info? 33).map (fun i => (i.zero, i.size, i.bytes)) = some (some (.agg #[.int .i64 0, .int .i64 0, .int .i64 0, .slice none 0 0]), 4, 48) := by kernel_rfl
/-- a map of numbers to numbers -/
def IMap (w : World) (B n : Nat) (F : Int → Int) : Prop := ∃ m hs f, VMap w 3 B n m (.int .i64 0) hs f ∧ ∀ a, f (.int .i64 a) = .int .i64 (F a)
theorem lawI : Keyed Tryz.prog 3 := int_keyed Tryz.underlying3
theorem zeroInt (w : World) : (zeroValue 3).run Tryz.prog w = .ok (.int .i64 0) w := by kernel_rfl
theorem IMap.stay {w w' : World} {B n : Nat} {F : Int → Int} (h : IMap w B n F) (hb : w'.heap[B]? = w.heap[B]?) : IMap w' B n F := by
  obtain ⟨m, hs, f, h1, h2⟩ := h; exact ⟨m, hs, f, h1.stay hb, h2⟩
theorem IMap.lt {w : World} {B n : Nat} {F : Int → Int} (h : IMap w B n F) : B < w.heap.size := by obtain ⟨m, hs, f, h1, h2⟩ := h; exact h1.lt
theorem IMap.isMap {w : World} {B n : Nat} {F : Int → Int} (h : IMap w B n F) : ∃ es clock, w.heap[B]? = some (.map es clock) := by obtain ⟨m, hs, f, h1, h2⟩ := h; exact h1.isMap

/-- a queue at p: its asks L, in a block g, and F: of each who asked the last, in the map m; at most n stores into that -/
structure Que (w : World) (base p : Nat) (g : Option Nat) (m n : Nat) (L : List Ak) (F : Int → Int) : Prop where
  there : ∃ A c X, AtB w p #[.slice A L.length c, .map (some m)] 135 ∧ (Value.slice A L.length c).ownBlock = g ∧ X.map (·.1) = L ∧ Win w base 33 4 (.slice A L.length c) L.length (axCells X) ∧ ∀ x ∈ X, Axin w base x
  map : IMap w m n F
  hp : base ≤ p
  hm : base ≤ m
  hb : base ≤ w.heap.size
  fb : ∀ a, 0 ≤ F a ∧ F a ≤ n
  len : L.length ≤ 30
def QM (p : Nat) (g : Option Nat) (m : Nat) (b : Nat) : Prop := b = p ∨ g = some b ∨ b = m
section
variable {w w' : World} {base p m n : Nat} {g : Option Nat} {L : List Ak} {F : Int → Int}
theorem Que.gkin (h : Que w base p g m n L F) {b : Nat} (hg : g = some b) : base ≤ b ∧ kin w b 33 := by
  obtain ⟨A, c, X, _, h2, _, h4, _⟩ := h.there; exact h4.block (h2.trans hg)
theorem Que.pkin (h : Que w base p g m n L F) : kin w p 135 := by obtain ⟨A, c, X, h1, _⟩ := h.there; exact h1.kin
theorem Que.own (h : Que w base p g m n L F) : ∀ b, QM p g m b → base ≤ b := fun b hb => by
  rcases hb with rfl | hb | rfl
  · exact h.hp
  · exact (h.gkin hb).1
  · exact h.hm
/-- a queue stays where none of its blocks is changed -/
theorem Que.stay (h : Que w base p g m n L F) (hz : w.heap.size ≤ w'.heap.size) (hs : ∀ b, b < w.heap.size → (b < base ∨ kin w b 30 ∨ QM p g m b) → w'.heap[b]? = w.heap[b]?) : Que w' base p g m n L F := by
  obtain ⟨A, c, X, h1, h2, h3, h4, h5⟩ := h.there
  refine ⟨⟨A, c, X, h1.stay (hs p h1.lt (.inr (.inr (.inl rfl)))), h2, h3, h4.stay fun b hb => hs b (h4.block hb).2.lt (.inr (.inr (.inr (.inl (h2.symm.trans hb))))), fun x hx => ?_⟩, h.map.stay (hs m h.map.lt (.inr (.inr (.inr (.inr rfl))))), h.hp, h.hm, Nat.le_trans h.hb hz, h.fb, h.len⟩
  obtain ⟨k1, k2, k3, k4⟩ := h5 x hx
  have hst : ∀ a, x.2.1 = some a → w'.heap[a.block]? = w.heap[a.block]? := fun a ha => hs _ (k4.lt h.hb ha) (by
    rcases k4 a ha with h | h
    · exact .inl h
    · exact .inr (.inl h))
  exact ⟨vals_stay _ _ _ _ hz hst k1, k2, k3, k4.stay hst⟩
theorem Que.keep (h : Que w base p g m n L F) (hb : Below w.heap.size w w') : Que w' base p g m n L F := h.stay hb.size fun b h1 _ => hb.block b h1
theorem Que.far {M : Nat → Prop} (h : Que w base p g m n L F) (k : Chs M w w') (hM : ∀ b, M b → base ≤ b ∧ ¬ kin w b 30 ∧ ¬ QM p g m b) : Que w' base p g m n L F :=
  h.stay k.size fun b h1 h2 => k.block b h1 fun h3 => by
    obtain ⟨q1, q2, q3⟩ := hM b h3
    rcases h2 with h2 | h2 | h2
    · omega
    · exact q2 h2
    · exact q3 h2
end
/-- what is wrong with what is asked -/
def qcE (a : Ak) : Int := if (whoB a.w && deedB a.d) = false then 1 else if a.d = 0 then tuE a.t else liE a.t
set_option maxHeartbeats 800000 in
set_option maxRecDepth 100000 in
theorem qcheck_any (a : Ak) (A : Option Addr) (c : Nat) (hm : a.t.length ≤ maxLen) (hok : okL a.t) (w : World) (hA : Vals w A a.t) :
    Calls Tryz.prog 72 #[.agg #[.int .i64 a.w, .int .i64 a.q, .int .i64 a.d, .slice A a.t.length c]] w fun e w' => e = .returned (eV (qcE a)) ∧ Below w.heap.size w w' := by
  obtain ⟨x, q, d, t⟩ := a
  simp only at hm hok hA ⊢
  have cw := fun W => who_any x W
  have cd := fun W => deed_any d W
  have cl := fun W (hb : Below w.heap.size w W) => tlike_any A c t hm hok W (hA.below hb (Nat.le_refl _))
  have ct := fun W (hb : Below w.heap.size w W) => tcheck_any A c t hm hok W (hA.below hb (Nat.le_refl _))
  have hb0 : Below w.heap.size w (w.alloc (.cells #[.int .i64 x, .int .i64 q, .int .i64 d, .slice A t.length c] 33)) := bal1 _ _
  unfold qcE
  simp only
  cases h1 : whoB x with
  | false =>
    rw [Bool.false_and, if_pos rfl, show eV 1 = errV 1 from rfl]
    rw [h1] at cw
    have CW := Lib.hid cw; clear cw cd cl ct h1
    go_enter Tryz.func72, Tryz.ntmps72
    go_wp2_with (go_at_call 108; refine (CW.out _).mono ?_; rintro e w1 ⟨rfl, rfl⟩)
    go_ret
    exact ⟨rfl, hb0⟩
  | true =>
    rw [h1] at cw
    cases h2 : deedB d with
    | false =>
      rw [Bool.and_false, if_pos rfl, show eV 1 = errV 1 from rfl]
      rw [h2] at cd
      have CW := Lib.hid cw; have CD := Lib.hid cd; clear cw cd cl ct h1 h2
      go_enter Tryz.func72, Tryz.ntmps72
      go_wp2_with (first | (go_at_call 108; refine (CW.out _).mono ?_; rintro e w1 ⟨rfl, rfl⟩) | (go_at_call 107; refine (CD.out _).mono ?_; rintro e w1 ⟨rfl, rfl⟩))
      go_ret
      exact ⟨rfl, hb0⟩
    | true =>
      rw [Bool.and_self, if_neg (by decide)]
      rw [h2] at cd
      have CW := Lib.hid cw; have CD := Lib.hid cd; clear cw cd h1 h2
      by_cases h3 : d = 0
      · rw [if_pos h3]
        subst h3
        generalize tuE t = E at *
        have CT := Lib.hid ct; clear ct cl
        go_enter Tryz.func72, Tryz.ntmps72
        go_wp2_with (first | (go_at_call 108; refine (CW.out _).mono ?_; rintro e w1 ⟨rfl, rfl⟩) | (go_at_call 107; refine (CD.out _).mono ?_; rintro e w1 ⟨rfl, rfl⟩) | (go_at_call 103; refine (CT.out _ hb0).mono ?_; rintro e w1 ⟨rfl, hb1⟩))
        go_ret
        exact ⟨rfl, bcl hb0 hb1⟩
      · rw [if_neg h3]
        have hq : (d == 0) = false := beq_eq_false_iff_ne.2 h3
        generalize liE t = E at *
        have CL := Lib.hid cl; clear ct cl h3
        go_enter Tryz.func72, Tryz.ntmps72
        go_wp2_with (first | (go_at_call 108; refine (CW.out _).mono ?_; rintro e w1 ⟨rfl, rfl⟩) | (go_at_call 107; refine (CD.out _).mono ?_; rintro e w1 ⟨rfl, rfl⟩) | (go_at_call 109; refine (CL.out _ hb0).mono ?_; rintro e w1 ⟨rfl, hb1⟩))
        go_ret
        exact ⟨rfl, bcl hb0 hb1⟩
end Go.Proofs.YtpgemofkolmabaaGreatDoor
