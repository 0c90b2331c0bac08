/- Copies: what one does with what it is asked, in plain Lean. Copies: that what one does keeps it a copy; that what is asked again is answered again; its mark. Copies in memory: what holds of one, and what leaves it as it was. Package mirror: put and get of a copy. Package mirror: what is behind a deed that was done. Package mirror: Do. Package rule: Own; package mirror: New. Package mirror: Mark and Space. Two copies side by side. -/
import Derived.Test.YtfelefkmbbfdjaaGreatDoorLine
import Derived.Test.YtfelefkmbbfdjaaGreatDoorQueue
import Derived.Test.YtfelefkmbbfdjaaGreatDoorSpJoin
import Derived.Test.YtfelefkmbbfdjaaGreatDoorSpKeep
import Derived.Test.YtfelefkmbbfdjaaGreatDoorQueOps
import Derived.Test.YtfelefkmbbfdjaaGreatDoorRuOwn
import Derived.Test.YtfelefkmbbfdjaaGreatDoorOnce
import Derived.Deep.RegionHeld3
import Derived.Test.YtfelefkmbbfdjaaGreatDoorHash
namespace Go.Proofs.YtfelefkmbbfdjaaGreatDoor
open Go.RowKit
set_option linter.unusedVariables false

/-- a copy: its tuples, what it did last for each, how many deeds -/
structure Cs where
  L : List (List Va)
  F : Int → Int × ByteArray
  n : Nat
def Cs.zero : Cs := ⟨[], fun _ => (0, ⟨#[]⟩), 0⟩
def txOk : ByteArray := ⟨#[111, 107]⟩
def txFull : ByteArray := ⟨#[102, 117, 108, 108]⟩
def txNone : ByteArray := ⟨#[110, 111, 110, 101]⟩
/-- was it done last? -/
def agB (s : Cs) (a : Ak) : Bool := decide (a.q = (s.F a.w).1) && decide (0 < (s.F a.w).1)
/-- what is wrong with a new deed -/
def nwE (R : List Ru) (s : Cs) (a : Ak) : Int :=
  if a.d = 0 then (if letR R a.w a.d a.t = true then 0 else 8)
  else if finE a.t s.L ≠ 0 then 0
  else if letR R a.w a.d (rT a.t s.L) = true then 0 else 8
def nwS (s : Cs) (a : Ak) : ByteArray :=
  if a.d = 0 then (if s.L.length = 20 then txFull else txOk) else if finE a.t s.L ≠ 0 then txNone else lin (rT a.t s.L)
def nwL (s : Cs) (a : Ak) : List (List Va) :=
  if a.d = 0 then putL s.L a.t else if a.d = 2 then rL a.t s.L else s.L
def doE (R : List Ru) (s : Cs) (a : Ak) : Int :=
  if qcE a ≠ 0 then qcE a else if agB s a = true then 0 else if a.q ≠ (s.F a.w).1 + 1 then 6 else nwE R s a
def doS (R : List Ru) (s : Cs) (a : Ak) : ByteArray :=
  if doE R s a ≠ 0 then ⟨#[]⟩ else if agB s a = true then (s.F a.w).2 else nwS s a
def doC (R : List Ru) (s : Cs) (a : Ak) : Cs :=
  if doE R s a ≠ 0 ∨ agB s a = true then s else ⟨nwL s a, fun y => if y = a.w then (a.q, nwS s a) else s.F y, s.n + 1⟩
/-- what a copy is -/
structure Cok (s : Cs) : Prop where
  l20 : s.L.length ≤ 20
  ok : ∀ t ∈ s.L, okL t ∧ tuE t = 0
  f0 : ∀ y, 0 ≤ (s.F y).1 ∧ (s.F y).1 ≤ s.n
  fs : ∀ y, (s.F y).2.size ≤ 200
theorem Cok.zero : Cok Cs.zero := ⟨by simp [Cs.zero], fun t h => by simp [Cs.zero] at h, fun y => by simp [Cs.zero], fun y => by simp [Cs.zero, ByteArray.size]⟩
end Go.Proofs.YtfelefkmbbfdjaaGreatDoor
namespace Go.Proofs.YtfelefkmbbfdjaaGreatDoor
open Go.RowKit
set_option linter.unusedVariables false

section
variable {R : List Ru} {s : Cs} {a : Ak}
theorem doE_bad (h : qcE a ≠ 0) : doE R s a = qcE a := if_pos h
theorem doE_ag (h : qcE a = 0) (h2 : agB s a = true) : doE R s a = 0 := by rw [doE, if_neg (by rw [h]; decide), if_pos h2]
theorem doE_seq (h : qcE a = 0) (h2 : agB s a = false) (h3 : a.q ≠ (s.F a.w).1 + 1) : doE R s a = 6 := by rw [doE, if_neg (by rw [h]; decide), if_neg (by rw [h2]; decide), if_pos h3]
theorem doE_new (h : qcE a = 0) (h2 : agB s a = false) (h3 : a.q = (s.F a.w).1 + 1) : doE R s a = nwE R s a := by rw [doE, if_neg (by rw [h]; decide), if_neg (by rw [h2]; decide), if_neg (fun e => e h3)]
theorem doC_no (h : doE R s a ≠ 0) : doC R s a = s := if_pos (.inl h)
theorem doC_ag (h : agB s a = true) : doC R s a = s := if_pos (.inr h)
theorem doC_new (h : doE R s a = 0) (h2 : agB s a = false) : doC R s a = ⟨nwL s a, fun y => if y = a.w then (a.q, nwS s a) else s.F y, s.n + 1⟩ := if_neg (by rw [h, h2]; decide)
theorem doS_no (h : doE R s a ≠ 0) : doS R s a = ⟨#[]⟩ := if_pos h
theorem doS_ag (h : doE R s a = 0) (h2 : agB s a = true) : doS R s a = (s.F a.w).2 := by rw [doS, if_neg (by rw [h]; decide), if_pos h2]
theorem doS_new (h : doE R s a = 0) (h2 : agB s a = false) : doS R s a = nwS s a := by rw [doS, if_neg (by rw [h]; decide), if_neg (by rw [h2]; decide)]
theorem doE_zero (h : doE R s a = 0) : qcE a = 0 ∧ (agB s a = true ∨ (agB s a = false ∧ a.q = (s.F a.w).1 + 1 ∧ nwE R s a = 0)) := by
  by_cases h1 : qcE a = 0
  · refine ⟨h1, ?_⟩
    cases h2 : agB s a with
    | true => exact .inl rfl
    | false =>
      by_cases h3 : a.q = (s.F a.w).1 + 1
      · exact .inr ⟨rfl, h3, (doE_new h1 h2 h3).symm.trans h⟩
      · rw [doE_seq h1 h2 h3] at h; cases h
  · rw [doE_bad h1] at h; exact absurd h h1
theorem rT_mem (hs : Cok s) {t : List Va} (h : finE t s.L = 0) : okL (rT t s.L) ∧ tuE (rT t s.L) = 0 := by
  obtain ⟨k, h1, _, h3, _⟩ := fin_at h
  rw [h3]; exact hs.ok _ (gg_mem h1)
theorem nwL_ok (hs : Cok s) (hok : okL a.t) (hq : qcE a = 0) : (nwL s a).length ≤ 20 ∧ ∀ t ∈ nwL s a, okL t ∧ tuE t = 0 := by
  obtain ⟨_, _, _, _, _, htu⟩ := qcE_zero hq
  have h20 := hs.l20
  unfold nwL
  by_cases h0 : a.d = 0
  · rw [if_pos h0]
    unfold putL
    by_cases h1 : putE s.L a.t = 0
    · rw [if_pos h1]
      have h2 : s.L.length ≠ 20 := fun e => by
        unfold putE at h1
        rw [if_neg (by rw [htu h0]; decide), if_pos e] at h1; cases h1
      refine ⟨by simp; omega, fun t ht => ?_⟩
      rcases List.mem_append.1 ht with ht | ht
      · exact hs.ok t ht
      · rw [List.mem_singleton] at ht; subst ht; exact ⟨hok, htu h0⟩
    · rw [if_neg h1]; exact ⟨h20, hs.ok⟩
  · rw [if_neg h0]
    by_cases h2 : a.d = 2
    · rw [if_pos h2]
      unfold rL
      split
      · exact ⟨Nat.le_trans (by rw [List.length_eraseIdx]; split <;> omega) h20, fun t ht => hs.ok t (List.mem_of_mem_eraseIdx ht)⟩
      · exact ⟨h20, hs.ok⟩
    · rw [if_neg h2]; exact ⟨h20, hs.ok⟩
theorem lin_small {t : List Va} (h : tuE t = 0) : (lin t).size ≤ 110 := by
  obtain ⟨_, h5, hr⟩ := rgt_of (tuE_zero h).1
  have := lin_size hr t.length
  rw [List.take_length] at this
  omega
theorem nwS_size (hs : Cok s) : (nwS s a).size ≤ 200 := by
  unfold nwS
  split
  · split <;> decide
  · split
    · decide
    · rename_i h
      have := lin_small (rT_mem hs (Classical.not_not.1 h)).2
      omega
theorem Cok.step (hs : Cok s) (hok : okL a.t) : Cok (doC R s a) := by
  by_cases h : doE R s a = 0
  · obtain ⟨hq, h2 | ⟨h2, h3, h4⟩⟩ := doE_zero h
    · rw [doC_ag h2]; exact hs
    · rw [doC_new h h2]
      obtain ⟨l1, l2⟩ := nwL_ok hs hok hq
      refine ⟨l1, l2, fun y => ?_, fun y => ?_⟩
      · have h5 := hs.f0 y
        have h6 := hs.f0 a.w
        simp only
        split
        · simp only; omega
        · omega
      · simp only
        split
        · exact nwS_size hs
        · exact hs.fs y
  · rw [doC_no h]; exact hs
/-- what is asked again is answered again, and nothing is done -/
theorem do_again (hs : Cok s) (h : doE R s a = 0) : doE R (doC R s a) a = 0 ∧ doS R (doC R s a) a = doS R s a ∧ doC R (doC R s a) a = doC R s a := by
  obtain ⟨hq, h2 | ⟨h2, h3, h4⟩⟩ := doE_zero h
  · rw [doC_ag h2]; exact ⟨h, rfl, doC_ag h2⟩
  · have h0 := (hs.f0 a.w).1
    have hag : agB (doC R s a) a = true := by
      rw [doC_new h h2, agB]
      simp only [if_pos]
      simp; omega
    have he : doE R (doC R s a) a = 0 := doE_ag hq hag
    refine ⟨he, ?_, doC_ag hag⟩
    rw [doS_ag he hag, doS_new h h2, doC_new h h2]
    simp
theorem doS_size (hs : Cok s) : (doS R s a).size ≤ 200 := by
  by_cases h : doE R s a = 0
  · obtain ⟨hq, h2 | ⟨h2, h3, h4⟩⟩ := doE_zero h
    · rw [doS_ag h h2]; exact hs.fs _
    · rw [doS_new h h2]; exact nwS_size hs
  · rw [doS_no h]; decide
end
/-- all the tuples as text, each in a line -/
def mkL : List (List Va) → ByteArray
  | [] => ⟨#[]⟩
  | t :: L => (lin t ++ ⟨#[10]⟩) ++ mkL L
theorem mkL_snoc (L : List (List Va)) (t : List Va) : mkL (L ++ [t]) = mkL L ++ (lin t ++ ⟨#[10]⟩) := by
  induction L with
  | nil => rw [List.nil_append, mkL, mkL, mkL]; exact bytes_eq (by simp [ByteArray.data_append])
  | cons x L ih => rw [List.cons_append, mkL, ih, mkL]; exact bytes_eq (by simp [ByteArray.data_append])
theorem mkL_take {L : List (List Va)} {k : Nat} (h : k < L.length) : mkL (L.take (k + 1)) = mkL (L.take k) ++ (lin (gg L k) ++ ⟨#[10]⟩) := by
  rw [take_one h, mkL_snoc]
theorem mkL_size {L : List (List Va)} (h : ∀ t ∈ L, tuE t = 0) : (mkL L).size ≤ L.length * 111 := by
  induction L with
  | nil => simp [mkL, ByteArray.size]
  | cons t L ih =>
    have h1 := ih fun x hx => h x (List.mem_cons_of_mem _ hx)
    have h2 := lin_small (h t (List.mem_cons_self ..))
    rw [mkL, List.length_cons]
    simp only [ByteArray.size_append]
    rw [show (ByteArray.mk #[10]).size = 1 from rfl]
    omega
def mkV (s : Cs) : Int := hs (mkL s.L) (mkL s.L).size
end Go.Proofs.YtfelefkmbbfdjaaGreatDoor
namespace Go.Proofs.YtfelefkmbbfdjaaGreatDoor
open Go.ChangeShapes Go.WideShapes Go.ChangeAt Go.RowKit Go.Maps Go.WideMaps
set_option linter.unusedVariables false

/-! ### rules of a copy's own -/
theorem Win.rxs {w : World} {base c : Nat} {A : Option Addr} {X : List Rx} (h : Win w base 34 4 (.slice A X.length c) X.length (rxCells X)) (hx : ∀ x ∈ X, Rxin w base x) : RX w base A X := by
  refine ⟨fun h0 => ?_, hx⟩
  obtain ⟨g, off, c', e, _, hc⟩ := h.at_ h0
  have hb := (h.block (g := g) (by rw [e]; rfl)).2.lt
  injection e with e1
  exact ⟨g, off, e1, hb, hc⟩
def ROwn (w : World) (base : Nat) (A : Option Addr) (c : Nat) (R : List Ru) : Prop :=
  R = [] ∨ ∃ X : List Rx, X.map (·.1) = R ∧ Win w base 34 4 (.slice A X.length c) X.length (rxCells X) ∧ ∀ x ∈ X, Rxin w base x
section
variable {w w' : World} {base c : Nat} {A : Option Addr} {R : List Ru}
theorem ROwn.rls (h : ROwn w base A c R) : Rls w A R := by
  rcases h with rfl | ⟨X, rfl, h1, h2⟩
  · exact Rls.nil
  · exact (h1.rxs h2).rls
theorem ROwn.stay (h : ROwn w base A c R) (hb : base ≤ w.heap.size) (hz : w.heap.size ≤ w'.heap.size) (hs : ∀ b, b < w.heap.size → (b < base ∨ kin w b 31 ∨ kin w b 34) → w'.heap[b]? = w.heap[b]?) : ROwn w' base A c R := by
  rcases h with rfl | ⟨X, rfl, h1, h2⟩
  · exact .inl rfl
  · refine .inr ⟨X, rfl, h1.stay fun g hg => hs g (h1.block hg).2.lt (.inr (.inr (h1.block hg).2)), fun x hx => ?_⟩
    obtain ⟨q1, q2, q3⟩ := h2 x hx
    refine ⟨?_, q2, q3⟩
    rcases Nat.eq_zero_or_pos x.1.a.length with h0 | h0
    · exact ⟨by unfold Vals; rw [h0]; exact Sl.zero, fun h => by omega⟩
    · have hst : ∀ a, x.2.1 = some a → w'.heap[a.block]? = w.heap[a.block]? := fun a ha => hs _ ((q1.2 h0).lt hb ha) (by
        rcases q1.2 h0 a ha with h | h
        · exact .inl h
        · exact .inr (.inl h))
      exact ⟨vals_stay _ _ _ _ hz hst q1.1, fun _ => (q1.2 h0).stay hst⟩
end
/-! ### what was done last, by whom -/
def dnv (x : Int × ByteArray) : Value := .agg #[.int .i64 x.1, .string x.2]
def DMap (w : World) (B n : Nat) (F : Int → Int × ByteArray) : Prop := ∃ m hs f, VMap w 3 B n m (dnv (0, ⟨#[]⟩)) hs f ∧ ∀ a, f (.int .i64 a) = dnv (F a)
theorem zeroDone (w : World) : (zeroValue 93).run Tryz.prog w = .ok (dnv (0, ⟨#[]⟩)) w := by kernel_rfl
section
variable {w w' : World} {B n : Nat} {F : Int → Int × ByteArray}
theorem DMap.stay (h : DMap w B n F) (hb : w'.heap[B]? = w.heap[B]?) : DMap w' B n F := by
  obtain ⟨m, hs, f, h1, h2⟩ := h; exact ⟨m, hs, f, h1.stay hb, h2⟩
theorem DMap.lt (h : DMap w B n F) : B < w.heap.size := by obtain ⟨m, hs, f, h1, h2⟩ := h; exact h1.lt
theorem DMap.isMap (h : DMap w B n F) : ∃ es clock, w.heap[B]? = some (.map es clock) := by obtain ⟨m, hs, f, h1, h2⟩ := h; exact h1.isMap
end
/-- a copy at p: its space at q (whose array is g), its map at m -/
structure Cpy (w : World) (base p q : Nat) (g : Option Nat) (m : Nat) (R : List Ru) (s : Cs) : Prop where
  there : ∃ A c, AtB w p #[.slice A R.length c, .pointer (some ⟨q, 0, none⟩), .map (some m), .int .i64 s.n] 90 ∧ ROwn w base A c R
  spc : Spc w base q g s.L
  map : DMap w m s.n s.F
  hp : base ≤ p
  hm : base ≤ m
  rul : rulE R = 0
  okr : okR R
  ok : Cok s
def CM (p q : Nat) (g : Option Nat) (m : Nat) (b : Nat) : Prop := b = p ∨ b = q ∨ g = some b ∨ b = m
section
variable {w w' : World} {base p q m : Nat} {g : Option Nat} {R : List Ru} {s : Cs}
theorem Cpy.hb (h : Cpy w base p q g m R s) : base ≤ w.heap.size := h.spc.hb
theorem Cpy.pkin (h : Cpy w base p q g m R s) : kin w p 90 := by obtain ⟨A, c, h1, _⟩ := h.there; exact h1.kin
theorem Cpy.own (h : Cpy w base p q g m R s) : ∀ b, CM p q g m b → base ≤ b := fun b hb => by
  rcases hb with rfl | rfl | hb | rfl
  · exact h.hp
  · exact h.spc.hp
  · exact (h.spc.gkin hb).1
  · exact h.hm
/-- none of a copy's own blocks has values or rules -/
theorem Cpy.kinds (h : Cpy w base p q g m R s) : ∀ b, CM p q g m b → ¬ kin w b 31 ∧ ¬ kin w b 34 := fun b hb => by
  rcases hb with rfl | rfl | hb | rfl
  · exact ⟨fun k => absurd (kin.ne k h.pkin) (by decide), fun k => absurd (kin.ne k h.pkin) (by decide)⟩
  · exact ⟨fun k => absurd (kin.ne k h.spc.kin) (by decide), fun k => absurd (kin.ne k h.spc.kin) (by decide)⟩
  · exact ⟨fun k => absurd (kin.ne k (h.spc.gkin hb).2) (by decide), fun k => absurd (kin.ne k (h.spc.gkin hb).2) (by decide)⟩
  · exact ⟨fun k => not_kin_of_map h.map.isMap k, fun k => not_kin_of_map h.map.isMap k⟩
theorem Cpy.lts (h : Cpy w base p q g m R s) : ∀ b, CM p q g m b → b < w.heap.size := fun b hb => by
  rcases hb with rfl | rfl | hb | rfl
  · exact h.pkin.lt
  · exact h.spc.lt
  · exact (h.spc.gkin hb).2.lt
  · exact h.map.lt
/-- a copy stays where none of its blocks is changed -/
theorem Cpy.far {M : Nat → Prop} (h : Cpy w base p q g m R s) (k : Chs M w w') (hM : ∀ b, M b → base ≤ b ∧ ¬ kin w b 31 ∧ ¬ kin w b 34 ∧ ¬ CM p q g m b) : Cpy w' base p q g m R s := by
  obtain ⟨A, c, h1, h2⟩ := h.there
  refine ⟨⟨A, c, h1.chs k fun e => (hM p e).2.2.2 (.inl rfl), h2.stay h.hb k.size fun b hb hx => k.block b hb fun e => ?_⟩, h.spc.farC k fun b hb => ⟨(hM b hb).1, (hM b hb).2.1, fun e => (hM b hb).2.2.2 (.inr (.inl e)), fun e => (hM b hb).2.2.2 (.inr (.inr (.inl e)))⟩,
    h.map.stay (k.block m h.map.lt fun e => (hM m e).2.2.2 (.inr (.inr (.inr rfl)))), h.hp, h.hm, h.rul, h.okr, h.ok⟩
  obtain ⟨q1, q2, q3, _⟩ := hM b e
  rcases hx with hx | hx | hx
  · omega
  · exact q2 hx
  · exact q3 hx
theorem Cpy.keep (h : Cpy w base p q g m R s) (hb : Below w.heap.size w w') : Cpy w' base p q g m R s := h.far (Chs.of_below (fun _ => False) hb) (fun _ h => h.elim)
/-- the space has changed -/
theorem Cpy.space {g' : Option Nat} {L : List (List Va)} (h : Cpy w base p q g m R s) (k : Chg q g w w') (hs : Spc w' base q g' L) : Cpy w' base p q g' m R ⟨L, s.F, s.n⟩ := by
  obtain ⟨A, c, h1, h2⟩ := h.there
  have hk : ∀ b, (b = q ∨ g = some b) → ¬ kin w b 31 ∧ ¬ kin w b 34 ∧ b ≠ p ∧ b ≠ m := fun b hb => by
    rcases hb with rfl | hb
    · refine ⟨(h.kinds _ (.inr (.inl rfl))).1, (h.kinds _ (.inr (.inl rfl))).2, fun e => absurd (kin.ne h.spc.kin (by rw [e]; exact h.pkin)) (by decide), fun e => not_kin_of_map h.map.isMap (by rw [← e]; exact h.spc.kin)⟩
    · have hg := (h.spc.gkin hb).2
      refine ⟨(h.kinds _ (.inr (.inr (.inl hb)))).1, (h.kinds _ (.inr (.inr (.inl hb)))).2, fun e => absurd (kin.ne hg (by rw [e]; exact h.pkin)) (by decide), fun e => not_kin_of_map h.map.isMap (by rw [← e]; exact hg)⟩
  have kc := Chs.of_chg k
  refine ⟨⟨A, c, h1.chs kc fun e => (hk p e).2.2.1 rfl, h2.stay h.hb k.size fun b hb hx => kc.block b hb fun e => ?_⟩, hs, h.map.stay (kc.block m h.map.lt fun e => (hk m e).2.2.2 rfl), h.hp, h.hm, h.rul, h.okr, ⟨hs.len, hs.ok, h.ok.f0, h.ok.fs⟩⟩
  rcases hx with hx | hx | hx
  · have := k.below h.spc.hp (fun b e => (h.spc.gkin e).1) h.spc.hb
    rcases e with rfl | e
    · have := h.spc.hp; omega
    · have := (h.spc.gkin e).1; omega
  · exact (hk b e).1 hx
  · exact (hk b e).2.1 hx
end
end Go.Proofs.YtfelefkmbbfdjaaGreatDoor
namespace Go.Proofs.YtfelefkmbbfdjaaGreatDoor
open Go.ChangeShapes Go.WideShapes Go.ChangeAt Go.RowKit Go.Maps Go.WideMaps
set_option linter.unusedVariables false

def akv (a : Ak) (A : Option Addr) (c : Nat) : Value := .agg #[.int .i64 a.w, .int .i64 a.q, .int .i64 a.d, .slice A a.t.length c]
theorem spread_v {base : Nat} (p : Nat) (g : Option Nat) (L : List (List Va)) (A : Option Addr) (c : Nat) (a : List Va) (hm : a.length ≤ maxLen) (hok : okL a) (w : World) (hS : Spc w base p g L) (hA : Vals w A a) :
    Calls Tryz.prog 63 #[.pointer (some ⟨p, 0, none⟩), .slice A a.length c] w fun e w' => ∃ B C, e = .returned (.tuple #[.slice B (rT a L).length C, eV (finE a L)]) ∧ Vals w' B (rT a L) ∧ Below w.heap.size w w' := by
  obtain ⟨E, n, q1, q2, q3⟩ := hS.there
  have q1 : AtP w p (.slice E L.length n) := q1
  have hl := hS.len
  have c1 := spfind_any p A c a hm hok E n L (by unfold maxLen; omega) w hA q3.many q1.cell
  by_cases h : finE a L = 0
  · obtain ⟨k, hk, hp, h1, h2⟩ := fin_at h
    rw [finV, if_pos h, h, eV_zero, hp] at c1
    rw [h, h1, eV_zero]
    have hmem : gg L k ∈ L := gg_mem hk
    obtain ⟨z0, z5⟩ := tu_len (hS.ok _ hmem).2
    have cc := fun (W : World) (B : Option Addr) (C : Nat) (hW : Vals W B (gg L k)) => clone_any B C (gg L k) z0 (by omega) W hW
    have hb0 := hS.hb
    have C1 := Lib.hid c1; have CC := Lib.hid cc; have HB0 := Lib.hid hb0; clear c1 cc z0 z5 hmem h1 h2 h hp hS hb0 q2 hA hok hm
    go_enter Tryz.func63, Tryz.ntmps63
    go_wp2_with (first | (go_at_call 88; refine C1.out.mono ?_; rintro e w1 ⟨rfl, hb1⟩; have hc1 := (q1.below hb1).cell; have q4 := q3.keep vals_stay HB0.out hb1; obtain ⟨b, B, C, rfl, hcc, hv, hC1, hC2, hin⟩ := q4.vat hk; have HV := Lib.hid hv; clear hv hin q4) | (go_at_call 40; refine (CC.out _ _ _ HV.out).mono ?_; rintro e w2 ⟨A2, c2, rfl, ho2, hb2⟩; have HO2 := Lib.hid ho2; clear ho2))
    go_ret2
    exact ⟨A2, c2, rfl, HO2.out.vals, bcl hb1 hb2⟩
  · rw [finV, if_neg h, eV_of h] at c1
    rw [rT, if_neg h, eV_of h]
    generalize finE a L = X at *
    have C1 := Lib.hid c1; clear c1 h hS q1 q2 q3 hA hok hm
    go_enter Tryz.func63, Tryz.ntmps63
    go_wp2_with (go_at_call 88; refine C1.out.mono ?_; rintro e w1 ⟨rfl, hb1⟩)
    go_ret2
    exact ⟨none, 0, rfl, vals_nil, hb1⟩
section
variable {w : World} {base p q m : Nat} {g : Option Nat} {R : List Ru} {s : Cs}
set_option maxHeartbeats 1600000 in
set_option maxRecDepth 100000 in
theorem cpput_any (hC : Cpy w base p q g m R s) (a : Ak) (A : Option Addr) (c : Nat) (hok : okL a.t) (hq : qcE a = 0) (hd : a.d = 0) (hA : Vals w A a.t) :
    Calls Tryz.prog 43 #[.pointer (some ⟨p, 0, none⟩), akv a A c] w fun e w' => e = .returned (.tuple #[.string (if nwE R s a = 0 then nwS s a else ⟨#[]⟩), eV (nwE R s a)]) ∧
      ∃ g', Cpy w' base p q g' m R ⟨if nwE R s a = 0 then nwL s a else s.L, s.F, s.n⟩ ∧ Chg q g w w' ∧ Nw g g' w.heap.size := by
  obtain ⟨RA, rc, h1, h2⟩ := hC.there
  obtain ⟨_, _, t0, t5, _, htu⟩ := qcE_zero hq
  have hR8 := (rulE_zero hC.rul).1
  have hmx : a.t.length ≤ maxLen := by unfold maxLen; omega
  have cl := fun (W : World) (hb : Below w.heap.size w W) => let_any RA rc R (by unfold maxLen; omega) a.w a.d A c a.t W (h2.stay hC.hb hb.size fun b hb' _ => hb.block b hb').rls (hA.below hb (Nat.le_refl _))
  have cp := fun (W : World) (hb : Below w.heap.size w W) => spput_any base q g s.L A c a.t hmx hok W (hC.spc.keep hb) (hA.below hb (Nat.le_refl _))
  have hpz := hC.pkin.lt
  have hqz := hC.spc.lt
  obtain ⟨W1, hW1⟩ : ∃ W1, W1 = w.alloc (.cells #[.int .i64 a.w, .int .i64 a.q, .int .i64 a.d, .slice A a.t.length c] 38) := ⟨_, rfl⟩
  have hb01 : Below w.heap.size w W1 := by rw [hW1]; exact bal1 _ _
  have P1 := h1.below hb01 h1.lt
  have B1 : AtB W1 w.heap.size #[.int .i64 a.w, .int .i64 a.q, .int .i64 a.d, .slice A a.t.length c] 38 := by rw [hW1]; exact AtB.new _ _ _
  have p0 : W1.cell? ⟨p, 0, none⟩ = some (.slice RA R.length rc) := P1.cell rfl
  have p1 : W1.cell? ⟨p, 1, none⟩ = some (.pointer (some ⟨q, 0, none⟩)) := P1.cell rfl
  have k0 : W1.cell? ⟨w.heap.size, 0, none⟩ = some (.int .i64 a.w) := B1.cell rfl
  have k2 : W1.cell? ⟨w.heap.size, 2, none⟩ = some (.int .i64 a.d) := B1.cell rfl
  have k3 : W1.cell? ⟨w.heap.size, 3, none⟩ = some (.slice A a.t.length c) := B1.cell rfl
  have hz1 : w.heap.size < W1.heap.size := B1.lt
  have hpz1 : p < W1.heap.size := P1.lt
  have HC := Lib.hid hC; have HB := Lib.hid hb01; have HW := Lib.hid hW1
  by_cases e1 : letR R a.w a.d a.t = true
  · have hE : nwE R s a = 0 := by rw [nwE, if_pos hd, if_pos e1]
    rw [hE, if_pos rfl, eV_zero, if_pos rfl]
    rw [e1] at cl
    obtain ⟨E, n, q1, q2, q3⟩ := hC.spc.there
    have q1 : AtP w q (.slice E s.L.length n) := q1
    have hS : nwS s a = if s.L.length = 20 then txFull else txOk := by rw [nwS, if_pos hd]
    have hL : nwL s a = putL s.L a.t := by rw [nwL, if_pos hd]
    have cf := fun (W : World) (hb : Below w.heap.size w W) => spfull_any q s.L.length n E W (q1.below hb).cell
    by_cases e2 : s.L.length = 20
    · have hput : putL s.L a.t = s.L := by rw [putL, if_neg]; rw [putE, if_neg (by rw [htu hd]; decide), if_pos e2]; decide
      rw [hS, if_pos e2, hL, hput]
      rw [show (((s.L.length : Nat) : Int) == 20) = true by simp; omega] at cf
      have CL := Lib.hid cl; have CF := Lib.hid cf
      clear cl cf cp hC h1 h2 hok hA hE e1 e2 hput hS hL htu hq hd q1 q2 q3 hb01 hW1 P1 B1 t0 t5 hR8 hmx
      obtain ⟨x, q', d, t⟩ := a
      simp only [akv] at *
      go_enter Tryz.func43, Tryz.ntmps43
      go_wp2_with fail
      rw [← HW.out]
      go_region_held3 (fun w' => w'.cell? ⟨p, 0, none⟩ = some (.slice RA R.length rc) ∧ w'.cell? ⟨w.heap.size, 0, none⟩ = some (.int .i64 x) ∧ w'.cell? ⟨w.heap.size, 2, none⟩ = some (.int .i64 d) ∧ w'.cell? ⟨w.heap.size, 3, none⟩ = some (.slice A t.length c)) (first | go_keep | exact ⟨(hb1.cell (p := ⟨p, 0, none⟩) hpz1).trans p0, (hb1.cell (p := ⟨w.heap.size, 0, none⟩) hz1).trans k0, (hb1.cell (p := ⟨w.heap.size, 2, none⟩) hz1).trans k2, (hb1.cell (p := ⟨w.heap.size, 3, none⟩) hz1).trans k3⟩) ((go_at_call 64; refine (CL.out _ (bdr HB.out)).mono ?_; rintro e w1 ⟨rfl, hb1⟩))
      have hbx : Below w.heap.size w w1 := bcl (bdr HB.out) hb1
      have HBX := Lib.hid hbx
      have r1 := (hb1.cell (p := ⟨p, 1, none⟩) hpz1).trans p1
      have hpz2 : p < w1.heap.size := Nat.lt_of_lt_of_le hpz1 hb1.size
      clear hb1 hbx
      go_wp2_with (go_at_call 66; refine (CF.out _ HBX.out).mono ?_; rintro e w2 ⟨rfl, rfl⟩)
      go_ret2
      exact ⟨rfl, g, HC.out.keep HBX.out, Chg.of_below HBX.out, Nw.refl _ _⟩
    · have hput : putE s.L a.t = 0 := by rw [putE, if_neg (by rw [htu hd]; decide), if_neg e2]
      rw [hS, if_neg e2, hL]
      rw [hput, eV_zero] at cp
      rw [show (((s.L.length : Nat) : Int) == 20) = false by simp; omega] at cf
      have CL := Lib.hid cl; have CF := Lib.hid cf; have CP := Lib.hid cp
      clear cl cf cp hC h1 h2 hok hA hE e1 e2 hput hS hL htu hq hd q1 q2 q3 hb01 hW1 P1 B1 t0 t5 hR8 hmx
      obtain ⟨x, q', d, t⟩ := a
      simp only [akv] at *
      go_enter Tryz.func43, Tryz.ntmps43
      go_wp2_with fail
      rw [← HW.out]
      go_region_held3 (fun w' => w'.cell? ⟨p, 0, none⟩ = some (.slice RA R.length rc) ∧ w'.cell? ⟨w.heap.size, 0, none⟩ = some (.int .i64 x) ∧ w'.cell? ⟨w.heap.size, 2, none⟩ = some (.int .i64 d) ∧ w'.cell? ⟨w.heap.size, 3, none⟩ = some (.slice A t.length c)) (first | go_keep | exact ⟨(hb1.cell (p := ⟨p, 0, none⟩) hpz1).trans p0, (hb1.cell (p := ⟨w.heap.size, 0, none⟩) hz1).trans k0, (hb1.cell (p := ⟨w.heap.size, 2, none⟩) hz1).trans k2, (hb1.cell (p := ⟨w.heap.size, 3, none⟩) hz1).trans k3⟩) ((go_at_call 64; refine (CL.out _ (bdr HB.out)).mono ?_; rintro e w1 ⟨rfl, hb1⟩))
      have hbx : Below w.heap.size w w1 := bcl (bdr HB.out) hb1
      have HBX := Lib.hid hbx
      have r1 := (hb1.cell (p := ⟨p, 1, none⟩) hpz1).trans p1
      have r3 := (hb1.cell (p := ⟨w.heap.size, 3, none⟩) hz1).trans k3
      have hpz2 : p < w1.heap.size := Nat.lt_of_lt_of_le hpz1 hb1.size
      have hz2 : w.heap.size < w1.heap.size := Nat.lt_of_lt_of_le hz1 hb1.size
      clear hb1 hbx
      go_wp2_with (go_at_call 66; refine (CF.out _ HBX.out).mono ?_; rintro e w2 ⟨rfl, rfl⟩)
      have hs1 := HC.out.spc.keep HBX.out
      have hne : p ≠ q := fun e => absurd (kin.ne HC.out.pkin (by rw [e]; exact HC.out.spc.kin)) (by decide)
      have hng : ∀ b, g = some b → p ≠ b ∧ w.heap.size ≠ b := fun b hb => ⟨fun e => absurd (kin.ne HC.out.pkin (by rw [e]; exact (HC.out.spc.gkin hb).2)) (by decide), fun e => by have := (HC.out.spc.gkin hb).2.lt; omega⟩
      have HNE := Lib.hid (And.intro hne hng)
      clear hs1 hne hng
      go_region_held3 (fun w' => w'.cell? ⟨p, 1, none⟩ = some (.pointer (some ⟨q, 0, none⟩)) ∧ w'.cell? ⟨w.heap.size, 3, none⟩ = some (.slice A t.length c)) (first | go_keep | exact ⟨(World.cell?_of_block (hg3.block p hpz2 HNE.out.1 fun e => (HNE.out.2 p e.symm).1 rfl)).trans r1, (World.cell?_of_block (hg3.block w.heap.size hz2 (by omega) fun e => (HNE.out.2 _ e.symm).2 rfl)).trans r3⟩) ((go_at_call 67; refine (CP.out _ (bdr HBX.out)).mono ?_; rintro e w3 ⟨rfl, g3, hs3, hg3, hn3⟩))
      go_wp2_with fail
      go_ret2
      exact ⟨rfl, g3, (HC.out.keep (bdr HBX.out)).space hg3 hs3, (Chg.of_below (bdr HBX.out)).trans hg3 (Nw.refl _ _), hn3.elim .inl fun ⟨b, e, h⟩ => .inr ⟨b, e, Nat.le_trans (bdr HBX.out).size h⟩⟩
  · have hE : nwE R s a = 8 := by rw [nwE, if_pos hd, if_neg e1]
    rw [hE, if_neg (by decide), if_neg (by decide), show eV 8 = errV 8 from rfl]
    rw [Bool.not_eq_true] at e1
    rw [e1] at cl
    have CL := Lib.hid cl
    clear cl cp hC h1 h2 hok hA hE e1 htu hq hd hb01 hW1 P1 B1 t0 t5 hR8 hmx
    obtain ⟨x, q', d, t⟩ := a
    simp only [akv] at *
    go_enter Tryz.func43, Tryz.ntmps43
    go_wp2_with fail
    rw [← HW.out]
    go_region_held3 (fun w' => w'.cell? ⟨p, 0, none⟩ = some (.slice RA R.length rc) ∧ w'.cell? ⟨w.heap.size, 0, none⟩ = some (.int .i64 x) ∧ w'.cell? ⟨w.heap.size, 2, none⟩ = some (.int .i64 d) ∧ w'.cell? ⟨w.heap.size, 3, none⟩ = some (.slice A t.length c)) (first | go_keep | exact ⟨(hb1.cell (p := ⟨p, 0, none⟩) hpz1).trans p0, (hb1.cell (p := ⟨w.heap.size, 0, none⟩) hz1).trans k0, (hb1.cell (p := ⟨w.heap.size, 2, none⟩) hz1).trans k2, (hb1.cell (p := ⟨w.heap.size, 3, none⟩) hz1).trans k3⟩) ((go_at_call 64; refine (CL.out _ (bdr HB.out)).mono ?_; rintro e w1 ⟨rfl, hb1⟩))
    have hbx : Below w.heap.size w w1 := bcl (bdr HB.out) hb1
    have HBX := Lib.hid hbx
    clear hb1 hbx
    go_wp2_with fail
    go_ret2
    exact ⟨rfl, g, HC.out.keep HBX.out, Chg.of_below HBX.out, Nw.refl _ _⟩
/-- what is had stays had -/
theorem Vin.keepB {w w' w0 : World} {base : Nat} {A : Option Addr} {t : List Va} (h : Vin w base A t) (hb : base ≤ w0.heap.size) (hb0 : Below w0.heap.size w0 w) (k : Below w.heap.size w w') : Vin w' base A t := by
  rcases Nat.eq_zero_or_pos t.length with h0 | h0
  · exact ⟨by unfold Vals; rw [h0]; exact Sl.zero, fun h => by omega⟩
  · have hI := h.2 h0
    have hst : ∀ a, A = some a → w'.heap[a.block]? = w.heap[a.block]? := fun a ha => k.block _ (hI.lt (Nat.le_trans hb hb0.size) ha)
    exact ⟨vals_stay _ _ _ _ k.size hst h.1, fun _ => hI.stay hst⟩
set_option maxHeartbeats 3200000 in
set_option maxRecDepth 100000 in
theorem cpget_any (hC : Cpy w base p q g m R s) (ht : ∀ W, Below base w W → TT W) (a : Ak) (A : Option Addr) (c : Nat) (hok : okL a.t) (hq : qcE a = 0) (hd : a.d ≠ 0) (hA : Vals w A a.t) :
    Calls Tryz.prog 42 #[.pointer (some ⟨p, 0, none⟩), akv a A c] w fun e w' => e = .returned (.tuple #[.string (if nwE R s a = 0 then nwS s a else ⟨#[]⟩), eV (nwE R s a)]) ∧
      ∃ g', Cpy w' base p q g' m R ⟨if nwE R s a = 0 then nwL s a else s.L, s.F, s.n⟩ ∧ Chg q g w w' ∧ Nw g g' w.heap.size := by
  obtain ⟨RA, rc, h1, h2⟩ := hC.there
  obtain ⟨_, _, t0, t5, hli, _⟩ := qcE_zero hq
  have hR8 := (rulE_zero hC.rul).1
  have hmx : a.t.length ≤ maxLen := by unfold maxLen; omega
  have cl := fun (T : Option Addr) (n : Nat) (W : World) (hb : Below w.heap.size w W) (hT : Vals W T (rT a.t s.L)) => let_any RA rc R (by unfold maxLen; omega) a.w a.d T n (rT a.t s.L) W (h2.stay hC.hb hb.size fun b hb' _ => hb.block b hb').rls hT
  have hpz := hC.pkin.lt
  have hqz := hC.spc.lt
  obtain ⟨W1, hW1⟩ : ∃ W1, W1 = w.alloc (.cells #[.int .i64 a.w, .int .i64 a.q, .int .i64 a.d, .slice A a.t.length c] 38) := ⟨_, rfl⟩
  have hb01 : Below w.heap.size w W1 := by rw [hW1]; exact bal1 _ _
  have P1 := h1.below hb01 h1.lt
  have B1 : AtB W1 w.heap.size #[.int .i64 a.w, .int .i64 a.q, .int .i64 a.d, .slice A a.t.length c] 38 := by rw [hW1]; exact AtB.new _ _ _
  have p0 : W1.cell? ⟨p, 0, none⟩ = some (.slice RA R.length rc) := P1.cell rfl
  have p1 : W1.cell? ⟨p, 1, none⟩ = some (.pointer (some ⟨q, 0, none⟩)) := P1.cell rfl
  have k0 : W1.cell? ⟨w.heap.size, 0, none⟩ = some (.int .i64 a.w) := B1.cell rfl
  have k2 : W1.cell? ⟨w.heap.size, 2, none⟩ = some (.int .i64 a.d) := B1.cell rfl
  have k3 : W1.cell? ⟨w.heap.size, 3, none⟩ = some (.slice A a.t.length c) := B1.cell rfl
  have hz1 : w.heap.size < W1.heap.size := B1.lt
  have hpz1 : p < W1.heap.size := P1.lt
  have HC := Lib.hid hC; have HB := Lib.hid hb01; have HW := Lib.hid hW1; have HTT := Lib.hid ht
  clear ht
  by_cases f : finE a.t s.L = 0
  · have hrt := rT_mem hC.ok f
    obtain ⟨_, r5, hrg⟩ := rgt_of (tuE_zero hrt.2).1
    have cr := fun (W : World) (hb : Below w.heap.size w W) => spread_any base q g s.L A c a.t hmx hok W (hC.spc.keep hb) (hA.below hb (Nat.le_refl _)) f
    have cw := fun (T : Option Addr) (n : Nat) (W : World) (hT : Vals W T (rT a.t s.L)) (hW : TT W) => tword_any T n (rT a.t s.L) (by omega) hrg W hT hW
    have CR := Lib.hid cr; have CW := Lib.hid cw
    clear cr cw
    by_cases e1 : letR R a.w a.d (rT a.t s.L) = true
    · have hE : nwE R s a = 0 := by rw [nwE, if_neg hd, if_neg (fun h => h f), if_pos e1]
      have hS : nwS s a = lin (rT a.t s.L) := by rw [nwS, if_neg hd, if_neg (fun h => h f)]
      have hL : nwL s a = if a.d = 2 then rL a.t s.L else s.L := by rw [nwL, if_neg hd]
      rw [hE, if_pos rfl, eV_zero, if_pos rfl, hS, hL]
      rw [e1] at cl
      by_cases d2 : a.d = 2
      · rw [if_pos d2]
        have ctk := fun (W : World) (hb : Below w.heap.size w W) => sptake_ok base q g s.L A c a.t hmx hok W (hC.spc.keep hb) (hA.below hb (Nat.le_refl _)) f
        have hrl : ∀ k : Nat, plc a.t s.L = (k : Int) → s.L.eraseIdx k = rL a.t s.L := fun k hk => by rw [rL, if_pos f, hk]; rfl
        have CT := Lib.hid (fun (W : World) (hb : Below w.heap.size w W) => (show Calls Tryz.prog 65 #[.pointer (some ⟨q, 0, none⟩), .slice A a.t.length c] W fun e w' => (∃ B n C, e = .returned (.tuple #[.slice B n C, .nilIface])) ∧ Spc w' base q g (rL a.t s.L) ∧ Chg q g W w' from by
          obtain ⟨k, _, hk, _, _, hcall⟩ := ctk W hb
          refine hcall.mono fun e w' ⟨B, C, h1, _, _, _, _, h2, h3⟩ => ⟨⟨B, _, C, h1⟩, hrl k hk ▸ h2, h3⟩))
        have d2' : (a.d == 2) = true := by simp [d2]
        have CL := Lib.hid cl
        clear cl e1 hE hS hL d2 ctk hrl f
        have HT0 := Lib.hid (tu_len hrt.2).1
        clear hC h1 h2 hok hA hq hb01 hW1 P1 B1 t0 t5 hR8 hmx hd hrt r5 hrg hli
        generalize rT a.t s.L = T at *
        obtain ⟨x, q', d, t⟩ := a
        simp only [akv] at *
        go_enter Tryz.func42, Tryz.ntmps42
        go_wp2_with fail
        rw [← HW.out]
        go_region_held3 (fun w' => w'.cell? ⟨p, 1, none⟩ = some (.pointer (some ⟨q, 0, none⟩)) ∧ w'.cell? ⟨w.heap.size, 3, none⟩ = some (.slice A t.length c)) (first | go_keep | exact ⟨(hb1.cell (p := ⟨p, 1, none⟩) hpz1).trans p1, (hb1.cell (p := ⟨w.heap.size, 3, none⟩) hz1).trans k3⟩) ((go_at_call 63; refine (CR.out _ (bdr HB.out)).mono ?_; rintro e w1 ⟨B, n, rfl, hv1, hb1⟩; have HV1 := Lib.hid hv1; clear hv1))
        have hbx : Below w.heap.size w w1 := bcl (bdr HB.out) hb1
        have HB1 := Lib.hid hbx
        have r0 := (hb1.cell (p := ⟨p, 0, none⟩) hpz1).trans p0
        have r1 := (hb1.cell (p := ⟨p, 1, none⟩) hpz1).trans p1
        have l0 := (hb1.cell (p := ⟨w.heap.size, 0, none⟩) hz1).trans k0
        have l2 := (hb1.cell (p := ⟨w.heap.size, 2, none⟩) hz1).trans k2
        have l3 := (hb1.cell (p := ⟨w.heap.size, 3, none⟩) hz1).trans k3
        have hpz2 : p < w1.heap.size := Nat.lt_of_lt_of_le hpz1 hb1.size
        have hz2 : w.heap.size < w1.heap.size := Nat.lt_of_lt_of_le hz1 hb1.size
        clear hb1 hbx
        go_wp2_with fail
        go_region_held3 (fun w' => w'.cell? ⟨p, 0, none⟩ = some (.slice RA R.length rc) ∧ w'.cell? ⟨w.heap.size, 0, none⟩ = some (.int .i64 x) ∧ w'.cell? ⟨w.heap.size, 2, none⟩ = some (.int .i64 d)) (first | go_keep | exact ⟨(hb2.cell (p := ⟨p, 0, none⟩) hpz2).trans r0, (hb2.cell (p := ⟨w.heap.size, 0, none⟩) hz2).trans l0, (hb2.cell (p := ⟨w.heap.size, 2, none⟩) hz2).trans l2⟩) ((go_at_call 64; refine (CL.out B n _ (bdr HB1.out) HV1.out.1.drew).mono ?_; rintro e w2 ⟨rfl, hb2⟩))
        have hbx : Below w.heap.size w w2 := bcl (bdr HB1.out) hb2
        have HB2 := Lib.hid hbx
        have t1 := (hb2.cell (p := ⟨p, 1, none⟩) hpz2).trans r1
        have m2 := (hb2.cell (p := ⟨w.heap.size, 2, none⟩) hz2).trans l2
        have m3 := (hb2.cell (p := ⟨w.heap.size, 3, none⟩) hz2).trans l3
        have hpz3 : p < w2.heap.size := Nat.lt_of_lt_of_le hpz2 hb2.size
        have hz3 : w.heap.size < w2.heap.size := Nat.lt_of_lt_of_le hz2 hb2.size
        have HV2 := Lib.hid (Vin.keepB HV1.out HC.out.hb HB1.out (bcl (bdr (Below.refl _ _)) hb2))
        clear hb2 hbx
        go_wp2_with fail
        have hne : p ≠ q := fun e => absurd (kin.ne HC.out.pkin (by rw [e]; exact HC.out.spc.kin)) (by decide)
        have hng : ∀ b, g = some b → p ≠ b ∧ w.heap.size ≠ b := fun b hb => ⟨fun e => absurd (kin.ne HC.out.pkin (by rw [e]; exact (HC.out.spc.gkin hb).2)) (by decide), fun e => by have := (HC.out.spc.gkin hb).2.lt; omega⟩
        have HNE := Lib.hid (And.intro hne hng)
        clear hne hng
        go_region_held3 (fun w' => w'.cell? ⟨p, 1, none⟩ = some (.pointer (some ⟨q, 0, none⟩)) ∧ w'.cell? ⟨w.heap.size, 3, none⟩ = some (.slice A t.length c)) (first | go_keep | exact ⟨(World.cell?_of_block (hg3.block p hpz3 HNE.out.1 fun e => (HNE.out.2 p e.symm).1 rfl)).trans t1, (World.cell?_of_block (hg3.block w.heap.size hz3 (by omega) fun e => (HNE.out.2 _ e.symm).2 rfl)).trans m3⟩) ((go_at_call 65; refine (CT.out _ (bdr HB2.out)).mono ?_; rintro e w3 ⟨⟨B3, n3, C3, rfl⟩, hs3, hg3⟩))
        have hv3 : Vals w3 B T := vals_stay _ _ _ _ hg3.size ((HC.out.spc.keep (bdr HB2.out)).inn hg3 ((HV2.out.2 HT0.out).stay fun _ _ => rfl)) HV2.out.1.drew
        have hc3 := (HC.out.keep (bdr HB2.out)).space hg3 hs3
        have hg03 := (Chg.of_below (p := q) (g := g) (bdr HB2.out)).trans hg3 (Nw.refl _ _)
        have htt := HTT.out w3 (hg03.below HC.out.spc.hp (fun b e => (HC.out.spc.gkin e).1) HC.out.hb)
        have HG3 := Lib.hid hg03; have HC3 := Lib.hid hc3; have HV3 := Lib.hid hv3; have HTT3 := Lib.hid htt
        clear hg3 hs3 hv3 hc3 hg03 htt
        go_wp2_with (go_at_call 45; refine (CW.out B n _ HV3.out HTT3.out).mono ?_; rintro e w4 ⟨rfl, hb4⟩)
        go_ret2
        exact ⟨rfl, g, HC3.out.keep hb4, HG3.out.then_below hb4, Nw.refl _ _⟩
      · rw [if_neg d2]
        have d2' : (a.d == 2) = false := by simp [d2]
        have CL := Lib.hid cl
        clear cl e1 hE hS hL d2 f
        have HT0 := Lib.hid (tu_len hrt.2).1
        clear hC h1 h2 hok hA hq hb01 hW1 P1 B1 t0 t5 hR8 hmx hd hrt r5 hrg hli
        generalize rT a.t s.L = T at *
        obtain ⟨x, q', d, t⟩ := a
        simp only [akv] at *
        go_enter Tryz.func42, Tryz.ntmps42
        go_wp2_with fail
        rw [← HW.out]
        go_region_held3 (fun w' => w'.cell? ⟨p, 1, none⟩ = some (.pointer (some ⟨q, 0, none⟩)) ∧ w'.cell? ⟨w.heap.size, 3, none⟩ = some (.slice A t.length c)) (first | go_keep | exact ⟨(hb1.cell (p := ⟨p, 1, none⟩) hpz1).trans p1, (hb1.cell (p := ⟨w.heap.size, 3, none⟩) hz1).trans k3⟩) ((go_at_call 63; refine (CR.out _ (bdr HB.out)).mono ?_; rintro e w1 ⟨B, n, rfl, hv1, hb1⟩; have HV1 := Lib.hid hv1; clear hv1))
        have hbx : Below w.heap.size w w1 := bcl (bdr HB.out) hb1
        have HB1 := Lib.hid hbx
        have r0 := (hb1.cell (p := ⟨p, 0, none⟩) hpz1).trans p0
        have r1 := (hb1.cell (p := ⟨p, 1, none⟩) hpz1).trans p1
        have l0 := (hb1.cell (p := ⟨w.heap.size, 0, none⟩) hz1).trans k0
        have l2 := (hb1.cell (p := ⟨w.heap.size, 2, none⟩) hz1).trans k2
        have l3 := (hb1.cell (p := ⟨w.heap.size, 3, none⟩) hz1).trans k3
        have hpz2 : p < w1.heap.size := Nat.lt_of_lt_of_le hpz1 hb1.size
        have hz2 : w.heap.size < w1.heap.size := Nat.lt_of_lt_of_le hz1 hb1.size
        clear hb1 hbx
        go_wp2_with fail
        go_region_held3 (fun w' => w'.cell? ⟨p, 0, none⟩ = some (.slice RA R.length rc) ∧ w'.cell? ⟨w.heap.size, 0, none⟩ = some (.int .i64 x) ∧ w'.cell? ⟨w.heap.size, 2, none⟩ = some (.int .i64 d)) (first | go_keep | exact ⟨(hb2.cell (p := ⟨p, 0, none⟩) hpz2).trans r0, (hb2.cell (p := ⟨w.heap.size, 0, none⟩) hz2).trans l0, (hb2.cell (p := ⟨w.heap.size, 2, none⟩) hz2).trans l2⟩) ((go_at_call 64; refine (CL.out B n _ (bdr HB1.out) HV1.out.1.drew).mono ?_; rintro e w2 ⟨rfl, hb2⟩))
        have hbx : Below w.heap.size w w2 := bcl (bdr HB1.out) hb2
        have HB2 := Lib.hid hbx
        have t1 := (hb2.cell (p := ⟨p, 1, none⟩) hpz2).trans r1
        have m2 := (hb2.cell (p := ⟨w.heap.size, 2, none⟩) hz2).trans l2
        have m3 := (hb2.cell (p := ⟨w.heap.size, 3, none⟩) hz2).trans l3
        have hpz3 : p < w2.heap.size := Nat.lt_of_lt_of_le hpz2 hb2.size
        have hz3 : w.heap.size < w2.heap.size := Nat.lt_of_lt_of_le hz2 hb2.size
        have HV2 := Lib.hid (Vin.keepB HV1.out HC.out.hb HB1.out (bcl (bdr (Below.refl _ _)) hb2))
        clear hb2 hbx
        go_wp2_with fail
        have htt := HTT.out w2 (HB2.out.mono HC.out.hb)
        have HTT3 := Lib.hid htt
        clear htt
        go_wp2_with (go_at_call 45; refine (CW.out B n _ HV2.out.1 HTT3.out).mono ?_; rintro e w4 ⟨rfl, hb4⟩)
        go_ret2
        exact ⟨rfl, g, HC.out.keep (bcl HB2.out hb4), Chg.of_below (bcl HB2.out hb4), Nw.refl _ _⟩
    · have hE : nwE R s a = 8 := by rw [nwE, if_neg hd, if_neg (fun h => h f), if_neg e1]
      rw [hE, if_neg (by decide), if_neg (by decide), show eV 8 = errV 8 from rfl]
      rw [Bool.not_eq_true] at e1
      rw [e1] at cl
      have CL := Lib.hid cl
      clear cl e1 hE f
      have HT0 := Lib.hid (tu_len hrt.2).1
      clear hC h1 h2 hok hA hq hb01 hW1 P1 B1 t0 t5 hR8 hmx hd hrt r5 hrg hli
      generalize rT a.t s.L = T at *
      obtain ⟨x, q', d, t⟩ := a
      simp only [akv] at *
      go_enter Tryz.func42, Tryz.ntmps42
      go_wp2_with fail
      rw [← HW.out]
      go_region_held3 (fun w' => w'.cell? ⟨p, 1, none⟩ = some (.pointer (some ⟨q, 0, none⟩)) ∧ w'.cell? ⟨w.heap.size, 3, none⟩ = some (.slice A t.length c)) (first | go_keep | exact ⟨(hb1.cell (p := ⟨p, 1, none⟩) hpz1).trans p1, (hb1.cell (p := ⟨w.heap.size, 3, none⟩) hz1).trans k3⟩) ((go_at_call 63; refine (CR.out _ (bdr HB.out)).mono ?_; rintro e w1 ⟨B, n, rfl, hv1, hb1⟩; have HV1 := Lib.hid hv1; clear hv1))
      have hbx : Below w.heap.size w w1 := bcl (bdr HB.out) hb1
      have HB1 := Lib.hid hbx
      have r0 := (hb1.cell (p := ⟨p, 0, none⟩) hpz1).trans p0
      have r1 := (hb1.cell (p := ⟨p, 1, none⟩) hpz1).trans p1
      have l0 := (hb1.cell (p := ⟨w.heap.size, 0, none⟩) hz1).trans k0
      have l2 := (hb1.cell (p := ⟨w.heap.size, 2, none⟩) hz1).trans k2
      have l3 := (hb1.cell (p := ⟨w.heap.size, 3, none⟩) hz1).trans k3
      have hpz2 : p < w1.heap.size := Nat.lt_of_lt_of_le hpz1 hb1.size
      have hz2 : w.heap.size < w1.heap.size := Nat.lt_of_lt_of_le hz1 hb1.size
      clear hb1 hbx
      go_wp2_with fail
      go_region_held3 (fun w' => w'.cell? ⟨p, 0, none⟩ = some (.slice RA R.length rc) ∧ w'.cell? ⟨w.heap.size, 0, none⟩ = some (.int .i64 x) ∧ w'.cell? ⟨w.heap.size, 2, none⟩ = some (.int .i64 d)) (first | go_keep | exact ⟨(hb2.cell (p := ⟨p, 0, none⟩) hpz2).trans r0, (hb2.cell (p := ⟨w.heap.size, 0, none⟩) hz2).trans l0, (hb2.cell (p := ⟨w.heap.size, 2, none⟩) hz2).trans l2⟩) ((go_at_call 64; refine (CL.out B n _ (bdr HB1.out) HV1.out.1.drew).mono ?_; rintro e w2 ⟨rfl, hb2⟩))
      have hbx : Below w.heap.size w w2 := bcl (bdr HB1.out) hb2
      have HB2 := Lib.hid hbx
      have t1 := (hb2.cell (p := ⟨p, 1, none⟩) hpz2).trans r1
      have m2 := (hb2.cell (p := ⟨w.heap.size, 2, none⟩) hz2).trans l2
      have m3 := (hb2.cell (p := ⟨w.heap.size, 3, none⟩) hz2).trans l3
      have hpz3 : p < w2.heap.size := Nat.lt_of_lt_of_le hpz2 hb2.size
      have hz3 : w.heap.size < w2.heap.size := Nat.lt_of_lt_of_le hz2 hb2.size
      have HV2 := Lib.hid (Vin.keepB HV1.out HC.out.hb HB1.out (bcl (bdr (Below.refl _ _)) hb2))
      clear hb2 hbx
      go_wp2_with fail
      go_ret2
      exact ⟨rfl, g, HC.out.keep HB2.out, Chg.of_below HB2.out, Nw.refl _ _⟩
  · have hE : nwE R s a = 0 := by rw [nwE, if_neg hd, if_pos f]
    have hS : nwS s a = txNone := by rw [nwS, if_neg hd, if_pos f]
    have hrl : rL a.t s.L = s.L := by rw [rL, if_neg f]
    have hL : nwL s a = s.L := by rw [nwL, if_neg hd, hrl, ite_self]
    clear hrl
    have hrT : rT a.t s.L = [] := by rw [rT, if_neg f]
    rw [hE, if_pos rfl, eV_zero, if_pos rfl, hS, hL]
    have cr := fun (W : World) (hb : Below w.heap.size w W) => spread_v q g s.L A c a.t hmx hok W (hC.spc.keep hb) (hA.below hb (Nat.le_refl _))
    rw [eV_of f, hrT] at cr
    have CR := Lib.hid cr
    clear cr cl hE hS hL hrT f
    clear hC h1 h2 hok hA hq hb01 hW1 P1 B1 t0 t5 hR8 hmx hd hli
    generalize finE a.t s.L = X at *
    obtain ⟨x, q', d, t⟩ := a
    simp only [akv] at *
    go_enter Tryz.func42, Tryz.ntmps42
    go_wp2_with fail
    rw [← HW.out]
    go_region_held3 (fun w' => w'.cell? ⟨p, 1, none⟩ = some (.pointer (some ⟨q, 0, none⟩)) ∧ w'.cell? ⟨w.heap.size, 3, none⟩ = some (.slice A t.length c)) (first | go_keep | exact ⟨(hb1.cell (p := ⟨p, 1, none⟩) hpz1).trans p1, (hb1.cell (p := ⟨w.heap.size, 3, none⟩) hz1).trans k3⟩) ((go_at_call 63; refine (CR.out _ (bdr HB.out)).mono ?_; rintro e w1 ⟨B, n, rfl, _, hb1⟩))
    have hbx : Below w.heap.size w w1 := bcl (bdr HB.out) hb1
    go_wp2_with fail
    go_ret2
    exact ⟨rfl, g, HC.out.keep hbx, Chg.of_below hbx, Nw.refl _ _⟩
end
end Go.Proofs.YtfelefkmbbfdjaaGreatDoor
namespace Go.Proofs.YtfelefkmbbfdjaaGreatDoor
open Go.ChangeShapes Go.WideShapes Go.ChangeAt Go.RowKit Go.Maps Go.WideMaps
set_option linter.unusedVariables false

open Classical in
theorem Cpy.done {w3 w4 w6 : World} {base p q m mm : Nat} {g : Option Nat} {R : List Ru} {s : Cs} {x q' : Int} {ans : ByteArray} {f : Lit → Value} {hs' : Lit → Bool}
    (h : Cpy w3 base p q g m R s) (hw4 : w4 = w3.setCell ⟨p, 3, none⟩ (.int .i64 ((s.n : Int) + 1))) (hf : ∀ a, f (.int .i64 a) = dnv (s.F a))
    (hv6 : VMap w6 3 m (s.n + 1) mm (dnv (0, ⟨#[]⟩)) hs' (fun l => if l = .int .i64 x then dnv (q', ans) else f l)) (hg6 : w4.drew.grownBy w6 (some m))
    (hok : Cok ⟨s.L, fun y => if y = x then (q', ans) else s.F y, s.n + 1⟩) :
    Cpy w6 base p q g m R ⟨s.L, fun y => if y = x then (q', ans) else s.F y, s.n + 1⟩ ∧ Chs (CM p q g m) w3 w6 := by
  obtain ⟨A, c, h1, h2⟩ := h.there
  have hmp : p ≠ m := fun e => not_kin_of_map h.map.isMap (by rw [← e]; exact h.pkin)
  have c34 : Chs (fun b => b = p) w3 w4 := by rw [hw4]; exact Chs.set w3 ⟨p, 3, none⟩ _
  have P4 : AtB w4 p #[.slice A R.length c, .pointer (some ⟨q, 0, none⟩), .map (some m), .int .i64 ((s.n : Int) + 1)] 90 := by rw [hw4]; exact h1.set 3 _
  have c46 : Chs (fun b => b = m) w4 w6 := (Chs.of_below (fun b => b = m) (bdr (Below.refl w4.heap.size w4))).trans (Chs.grown hg6) (fun b hb => .inl (Option.some.inj hb).symm)
  have c36 : Chs (fun b => b = p ∨ b = m) w3 w6 := (c34.mono fun b hb => .inl hb).trans c46 (fun b hb => .inl (.inr hb))
  have P6 := P4.chs c46 hmp
  have hk : ∀ b, (b = p ∨ b = m) → CM p q g m b := fun b hb => hb.elim .inl fun e => .inr (.inr (.inr e))
  have hqm : ∀ b, (b = p ∨ b = m) → b ≠ q ∧ g ≠ some b := fun b hb => by
    rcases hb with rfl | rfl
    · exact ⟨fun e => absurd (kin.ne h.pkin (by rw [e]; exact h.spc.kin)) (by decide), fun e => absurd (kin.ne h.pkin (h.spc.gkin e).2) (by decide)⟩
    · exact ⟨fun e => not_kin_of_map h.map.isMap (by rw [e]; exact h.spc.kin), fun e => not_kin_of_map h.map.isMap (h.spc.gkin e).2⟩
  refine ⟨⟨⟨A, c, ?_, h2.stay h.hb c36.size fun b hb hx => c36.block b hb fun e => ?_⟩, h.spc.farC c36 fun b hb => ⟨h.own b (hk b hb), (h.kinds b (hk b hb)).1, (hqm b hb).1, (hqm b hb).2⟩, ⟨_, _, _, hv6, fun a => ?_⟩, h.hp, h.hm, h.rul, h.okr, hok⟩, c36.mono hk⟩
  · have : (((s.n + 1 : Nat)) : Int) = (s.n : Int) + 1 := by omega
    rw [this]; exact P6
  · rcases hx with hx | hx | hx
    · have := h.own b (hk b e); omega
    · exact (h.kinds b (hk b e)).1 hx
    · exact (h.kinds b (hk b e)).2 hx
  · by_cases e : a = x
    · subst e; simp
    · have : ¬ (Lit.int .i64 a = Lit.int .i64 x) := fun h => e (by injection h)
      simp only [if_neg this, if_neg e]; exact hf a
end Go.Proofs.YtfelefkmbbfdjaaGreatDoor
namespace Go.Proofs.YtfelefkmbbfdjaaGreatDoor
open Go.ChangeShapes Go.WideShapes Go.ChangeAt Go.RowKit Go.Maps Go.WideMaps
set_option linter.unusedVariables false

theorem nw_le {g g' : Option Nat} {n n' : Nat} (h : Nw g g' n') (hn : n ≤ n') : Nw g g' n := h.elim .inl fun ⟨b, e, k⟩ => .inr ⟨b, e, Nat.le_trans hn k⟩
theorem nw_cm {g g' : Option Nat} {n n' p q m b : Nat} (h : Nw g g' n') (hn : n ≤ n') (hb : CM p q g' m b) : CM p q g m b ∨ n' ≤ b := by
  rcases hb with h1 | h1 | h1 | h1
  · exact .inl (.inl h1)
  · exact .inl (.inr (.inl h1))
  · rcases h with rfl | ⟨c, rfl, k⟩
    · exact .inl (.inr (.inr (.inl h1)))
    · exact .inr (by injection h1 with h1; omega)
  · exact .inl (.inr (.inr (.inr h1)))
section
variable {w : World} {base p q m : Nat} {g : Option Nat} {R : List Ru} {s : Cs}
set_option maxHeartbeats 3200000 in
set_option maxRecDepth 100000 in
theorem cpdo_any (hC : Cpy w base p q g m R s) (ht : ∀ W, Below base w W → TT W) (hn : s.n ≤ 1000000) (a : Ak) (A : Option Addr) (c : Nat) (hm : a.t.length ≤ maxLen) (hok : okL a.t) (hq64 : I64 a.q) (hA : Vals w A a.t) :
    Calls Tryz.prog 21 #[.pointer (some ⟨p, 0, none⟩), akv a A c] w fun e w' => e = .returned (.tuple #[.string (doS R s a), eV (doE R s a)]) ∧
      ∃ g', Cpy w' base p q g' m R (doC R s a) ∧ Chs (CM p q g m) w w' ∧ Nw g g' w.heap.size := by
  have cc := fun W (hW : Below w.heap.size w W) => qcheck_any a A c hm hok W (hA.below hW (Nat.le_refl _))
  obtain ⟨RA, rc, h1, h2⟩ := hC.there
  have hpz := hC.pkin.lt
  obtain ⟨W1, hW1⟩ : ∃ W1, W1 = w.alloc (.cells #[.int .i64 a.w, .int .i64 a.q, .int .i64 a.d, .slice A a.t.length c] 38) := ⟨_, rfl⟩
  have hb01 : Below w.heap.size w W1 := by rw [hW1]; exact bal1 _ _
  have B1 : AtB W1 w.heap.size #[.int .i64 a.w, .int .i64 a.q, .int .i64 a.d, .slice A a.t.length c] 38 := by rw [hW1]; exact AtB.new _ _ _
  have k0 : W1.cell? ⟨w.heap.size, 0, none⟩ = some (.int .i64 a.w) := B1.cell rfl
  have k1 : W1.cell? ⟨w.heap.size, 1, none⟩ = some (.int .i64 a.q) := B1.cell rfl
  have k2 : W1.cell? ⟨w.heap.size, 2, none⟩ = some (.int .i64 a.d) := B1.cell rfl
  have k3 : W1.cell? ⟨w.heap.size, 3, none⟩ = some (.slice A a.t.length c) := B1.cell rfl
  have HC := Lib.hid hC; have HB := Lib.hid hb01; have HW := Lib.hid hW1; have HTT := Lib.hid ht
  clear ht
  by_cases e0 : qcE a = 0
  · obtain ⟨hw, hd, t0, t5, hli, htu⟩ := qcE_zero e0
    rw [e0, eV_zero] at cc
    have CC := Lib.hid cc; clear cc
    obtain ⟨mm, hs, f, hv, hf⟩ := hC.map
    have HWF := Lib.hid (wf_who hw)
    obtain ⟨b0, b1⟩ := hC.ok.f0 a.w
    have HF := Lib.hid (hf a.w); have HFA := Lib.hid hf; have HV := Lib.hid hv
    have H1 := Lib.hid h1; have HB1 := Lib.hid B1
    obtain ⟨Y, hY⟩ : ∃ Y, Y = s.F a.w := ⟨_, rfl⟩
    rw [← hY] at b0 b1 HF
    obtain ⟨y1, y2⟩ := Y
    simp only at b0 b1
    by_cases ag : agB s a = true
    · have hE := doE_ag (R := R) e0 ag
      rw [hE, eV_zero, doS_ag hE ag, doC_ag ag, ← hY]
      have d12 : (a.q == y1) = true ∧ decide (0 < y1) = true := by
        rw [agB, ← hY, Bool.and_eq_true] at ag
        exact ⟨by simpa using ag.1, ag.2⟩
      obtain ⟨d1, d2⟩ := d12
      clear hE ag
      clear hC h1 h2 hv hf hW1 hb01 B1 hw hd t0 t5 hli htu e0 hA hok hm hq64 hY
      obtain ⟨x, q', d, t⟩ := a
      simp only [akv] at *
      go_enter Tryz.func21, Tryz.ntmps21
      go_wp2_with fail
      rw [← HW.out]
      go_wp2_with (go_at_call 41; refine (CC.out _ HB.out).mono ?_; rintro e w1 ⟨rfl, hb1⟩; have hbw := bcl HB.out hb1; have P1 := H1.out.below hbw hpz; have B2 := HB1.out.below hb1 HB1.out.lt; have p2 : w1.cell? ⟨p, 2, none⟩ = some (.map (some m)) := P1.cell rfl; have l0 : w1.cell? ⟨w.heap.size, 0, none⟩ = some (.int .i64 x) := B2.cell rfl; have l1 : w1.cell? ⟨w.heap.size, 1, none⟩ = some (.int .i64 q') := B2.cell rfl; have hp1 : p < w1.heap.size := P1.lt; have hz1 : w.heap.size < w1.heap.size := B2.lt; have hlk := run_lookup_v (w := (w1.alloc (.cells #[.int .i64 0, .string ⟨#[]⟩] 93)).drew) 88 3 93 lawI Tryz.underlying88 m _ mm _ hs f (zeroDone _) (((HV.out.keep hbw).keep (bal1 _ _)).stay rfl) _ _ (keyOf_int_mk Tryz.underlying3 HWF.out); rw [HF.out] at hlk; have hlj := run_lookup_v (w := w1.drew) 88 3 93 lawI Tryz.underlying88 m _ mm _ hs f (zeroDone _) ((HV.out.keep hbw).stay rfl) _ _ (keyOf_int_mk Tryz.underlying3 HWF.out); rw [HF.out] at hlj)
      have hlk2 : (Instr.lookup 88 (.map (some m)) (.int .i64 x) false).run Tryz.prog (w1.alloc (.cells #[.int .i64 0, .string ⟨#[]⟩] 93)).drew = .ok (.agg #[.int .i64 y1, .string y2]) (w1.alloc (.cells #[.int .i64 0, .string ⟨#[]⟩] 93)).drew := hlk
      have hlj2 : (Instr.lookup 88 (.map (some m)) (.int .i64 x) false).run Tryz.prog w1.drew = .ok (.agg #[.int .i64 y1, .string y2]) w1.drew := hlj
      clear hlk hlj
      go_region
      all_goals
        obtain ⟨W2, hW2⟩ : ∃ W2, W2 = (w1.alloc (.cells #[.int .i64 y1, .string y2] 93)).drew := ⟨_, rfl⟩
        first | rw [← hW2] | (rw [show (w1.drew.alloc (.cells #[.int .i64 y1, .string y2] 93)) = (w1.alloc (.cells #[.int .i64 y1, .string y2] 93)).drew from rfl]; rw [← hW2])
        have hb12 : Below w1.heap.size w1 W2 := by rw [hW2]; exact bdr (bal1 _ _)
        have B3 := B2.below hb12 hz1
        have D3 : AtB W2 w1.heap.size #[.int .i64 y1, .string y2] 93 := by rw [hW2]; exact AtB.new _ _ _
        have m0 : W2.cell? ⟨w.heap.size, 0, none⟩ = some (.int .i64 x) := B3.cell rfl
        have m1 : W2.cell? ⟨w.heap.size, 1, none⟩ = some (.int .i64 q') := B3.cell rfl
        have m2 : W2.cell? ⟨w.heap.size, 2, none⟩ = some (.int .i64 d) := B3.cell rfl
        have m3 : W2.cell? ⟨w.heap.size, 3, none⟩ = some (.slice A t.length c) := B3.cell rfl
        have n0 : W2.cell? ⟨w1.heap.size, 0, none⟩ = some (.int .i64 y1) := D3.cell rfl
        have n1 : W2.cell? ⟨w1.heap.size, 1, none⟩ = some (.string y2) := D3.cell rfl
        have hbz := bcl hbw hb12
        clear hlk2 hlj2 hW2 B3 D3 P1 B2 p2 l0 l1 hb1 hbw hb12
        go_wp2_with fail
        go_ret2
        exact ⟨rfl, g, HC.out.keep hbz, Chs.of_below _ hbz, Nw.refl _ _⟩
    · rw [Bool.not_eq_true] at ag
      have hdx : (a.q == y1) = false ∨ ((a.q == y1) = true ∧ decide (0 < y1) = false) := by
        rw [agB, ← hY, Bool.and_eq_false_iff] at ag
        cases h : (a.q == y1) with
        | false => exact .inl rfl
        | true =>
          refine .inr ⟨rfl, ?_⟩
          rcases ag with ag | ag
          · rw [beq_iff_eq] at h; simp [h] at ag
          · exact ag
      by_cases e3 : a.q = y1 + 1
      · have d1 : (a.q == y1) = false := beq_eq_false_iff_ne.2 (by omega)
        have d3 : (a.q != y1 + 1) = false := by simp [e3]
        have hEn := doE_new (R := R) e0 ag (by rw [← hY]; exact e3)
        clear e3 hdx
        by_cases d0 : a.d = 0
        · have cp := fun (W : World) (hb : Below w.heap.size w W) => cpput_any (hC.keep hb) a A c hok e0 d0 (hA.below hb (Nat.le_refl _))
          by_cases e4 : nwE R s a = 0
          · have hE : doE R s a = 0 := hEn.trans e4
            have hok2 : Cok ⟨nwL s a, fun y => if y = a.w then (a.q, nwS s a) else s.F y, s.n + 1⟩ := by
              have h := hC.ok.step (R := R) (a := a) hok
              rwa [doC_new hE ag] at h
            rw [hE, eV_zero, doS_new hE ag, doC_new hE ag]
            rw [e4, if_pos rfl, eV_zero, if_pos rfl] at cp
            have CP := Lib.hid cp
            have HOK2 := Lib.hid hok2
            have hne : w.heap.size ≠ q ∧ ∀ b, g = some b → w.heap.size ≠ b := ⟨fun e => by have := hC.spc.lt; omega, fun b hb e => by have := (hC.spc.gkin hb).2.lt; omega⟩
            have HNEX := Lib.hid hne
            clear cp hok2 hne hE hEn e4 ag
            generalize nwS s a = ans at *
            generalize nwL s a = Lx at *
            clear hC h1 h2 hv hf hW1 hb01 B1 hw hd t0 t5 hli htu e0 hA hok hm hq64 hY
            obtain ⟨x, q', d, t⟩ := a
            simp only [akv] at *
            obtain rfl : d = 0 := d0
            go_enter Tryz.func21, Tryz.ntmps21
            go_wp2_with fail
            rw [← HW.out]
            go_wp2_with (go_at_call 41; refine (CC.out _ HB.out).mono ?_; rintro e w1 ⟨rfl, hb1⟩; have hbw := bcl HB.out hb1; have P1 := H1.out.below hbw hpz; have B2 := HB1.out.below hb1 HB1.out.lt; have p2 : w1.cell? ⟨p, 2, none⟩ = some (.map (some m)) := P1.cell rfl; have l0 : w1.cell? ⟨w.heap.size, 0, none⟩ = some (.int .i64 x) := B2.cell rfl; have l1 : w1.cell? ⟨w.heap.size, 1, none⟩ = some (.int .i64 q') := B2.cell rfl; have hp1 : p < w1.heap.size := P1.lt; have hz1 : w.heap.size < w1.heap.size := B2.lt; have hlk := run_lookup_v (w := (w1.alloc (.cells #[.int .i64 0, .string ⟨#[]⟩] 93)).drew) 88 3 93 lawI Tryz.underlying88 m _ mm _ hs f (zeroDone _) (((HV.out.keep hbw).keep (bal1 _ _)).stay rfl) _ _ (keyOf_int_mk Tryz.underlying3 HWF.out); rw [HF.out] at hlk; have hlj := run_lookup_v (w := w1.drew) 88 3 93 lawI Tryz.underlying88 m _ mm _ hs f (zeroDone _) ((HV.out.keep hbw).stay rfl) _ _ (keyOf_int_mk Tryz.underlying3 HWF.out); rw [HF.out] at hlj)
            have hlk2 : (Instr.lookup 88 (.map (some m)) (.int .i64 x) false).run Tryz.prog (w1.alloc (.cells #[.int .i64 0, .string ⟨#[]⟩] 93)).drew = .ok (.agg #[.int .i64 y1, .string y2]) (w1.alloc (.cells #[.int .i64 0, .string ⟨#[]⟩] 93)).drew := hlk
            have hlj2 : (Instr.lookup 88 (.map (some m)) (.int .i64 x) false).run Tryz.prog w1.drew = .ok (.agg #[.int .i64 y1, .string y2]) w1.drew := hlj
            clear hlk hlj
            go_region
            all_goals
              obtain ⟨W2, hW2⟩ : ∃ W2, W2 = (w1.alloc (.cells #[.int .i64 y1, .string y2] 93)).drew := ⟨_, rfl⟩
              first | rw [← hW2] | (rw [show (w1.drew.alloc (.cells #[.int .i64 y1, .string y2] 93)) = (w1.alloc (.cells #[.int .i64 y1, .string y2] 93)).drew from rfl]; rw [← hW2])
              have hb12 : Below w1.heap.size w1 W2 := by rw [hW2]; exact bdr (bal1 _ _)
              have B3 := B2.below hb12 hz1
              have D3 : AtB W2 w1.heap.size #[.int .i64 y1, .string y2] 93 := by rw [hW2]; exact AtB.new _ _ _
              have m0 : W2.cell? ⟨w.heap.size, 0, none⟩ = some (.int .i64 x) := B3.cell rfl
              have m1 : W2.cell? ⟨w.heap.size, 1, none⟩ = some (.int .i64 q') := B3.cell rfl
              have m2 : W2.cell? ⟨w.heap.size, 2, none⟩ = some (.int .i64 0) := B3.cell rfl
              have m3 : W2.cell? ⟨w.heap.size, 3, none⟩ = some (.slice A t.length c) := B3.cell rfl
              have n0 : W2.cell? ⟨w1.heap.size, 0, none⟩ = some (.int .i64 y1) := D3.cell rfl
              have n1 : W2.cell? ⟨w1.heap.size, 1, none⟩ = some (.string y2) := D3.cell rfl
              have hbz := bcl hbw hb12
              have BX2 := Lib.hid B3
              have HNE := HNEX
              clear hlk2 hlj2 hW2 B3 D3 P1 B2 p2 l0 l1 hb1 hbw
              have HBZ := Lib.hid hbz
              clear hbz hb12
              go_wp2_with (go_at_call 43; refine (CP.out _ HBZ.out).mono ?_; rintro e w3 ⟨rfl, g3, hc3, hg3, hn3⟩; obtain ⟨RA3, rc3, hp3, _⟩ := hc3.there; have p33 : w3.cell? ⟨p, 3, none⟩ = some (.int .i64 s.n) := hp3.cell rfl; have f33 := hp3.frozen 3; have HBX3 := Lib.hid (BX2.out.stay (hg3.block w.heap.size BX2.out.lt HNE.out.1 (fun e => HNE.out.2 _ e.symm rfl))); have HP3 := Lib.hid hp3; have HC3 := Lib.hid hc3; have HG3 := Lib.hid (And.intro hg3 hn3); clear hc3 hg3 hn3 hp3 m0 m1 m2 m3 n0 n1)
              obtain ⟨w4, hw4⟩ : ∃ w4, w4 = w3.setCell ⟨p, 3, none⟩ (.int .i64 ((s.n : Int) + 1)) := ⟨_, rfl⟩
              rw [← hw4]
              obtain ⟨m5, hs5, f5, hv5, hf5⟩ := HC3.out.map
              have hmp : m ≠ p := fun e => not_kin_of_map HC3.out.map.isMap (by rw [e]; exact HC3.out.pkin)
              have c34 : Chs (fun b => b = p) w3 w4 := by rw [hw4]; exact Chs.set w3 ⟨p, 3, none⟩ _
              have P4 : AtB w4 p #[.slice RA3 R.length rc3, .pointer (some ⟨q, 0, none⟩), .map (some m), .int .i64 ((s.n : Int) + 1)] 90 := by rw [hw4]; exact HP3.out.set 3 _
              have B4 := HBX3.out.chs c34 (by omega)
              have V4 := hv5.stay (c34.block m HC3.out.map.lt hmp)
              obtain ⟨w6, hup, hv6, hg6⟩ := run_update_v (w := w4.drew) 88 3 93 lawI Tryz.underlying88 m _ m5 _ hs5 f5 (V4.stay rfl) (show s.n < maxLen by unfold maxLen; omega) (.int .i64 x) (.int .i64 x) (keyOf_int_mk Tryz.underlying3 HWF.out) key_int (.agg #[.int .i64 q', .string ans])
              have p4 : w4.cell? ⟨p, 2, none⟩ = some (.map (some m)) := P4.cell rfl
              have k4 : w4.cell? ⟨w.heap.size, 0, none⟩ = some (.int .i64 x) := B4.cell rfl
              have k5 : w4.cell? ⟨w.heap.size, 1, none⟩ = some (.int .i64 q') := B4.cell rfl
              have hfin := HC3.out.done (x := x) (q' := q') (ans := ans) hw4 hf5 hv6 hg6 HOK2.out
              have HFIN := Lib.hid hfin
              clear hfin P4 B4 V4 hv6 hg6 hw4 c34 hv5 hf5 p33 f33 hmp
              go_region
              clear hup
              go_wp2_with fail
              go_ret2
              exact ⟨rfl, g3, HFIN.out.1, (Chs.of_below (CM p q g m) HBZ.out).trans (((Chs.of_chg HG3.out.1).mono (fun b hb => hb.elim (fun e => .inr (.inl e)) (fun e => .inr (.inr (.inl e)))) : Chs (CM p q g m) _ w3).trans HFIN.out.2 (fun b hb => nw_cm HG3.out.2 (HBZ.out.size) hb)) (fun b hb => .inl hb), nw_le HG3.out.2 HBZ.out.size⟩
          · have hE : doE R s a ≠ 0 := by rw [hEn]; exact e4
            rw [doS_no hE, doC_no hE, hEn, eV_of e4]
            rw [if_neg e4, eV_of e4, if_neg e4] at cp
            have CP := Lib.hid cp
            clear cp hE hEn ag
            generalize nwE R s a = X at *
            clear hC h1 h2 hv hf hW1 hb01 B1 hw hd t0 t5 hli htu e0 hA hok hm hq64 hY
            obtain ⟨x, q', d, t⟩ := a
            simp only [akv] at *
            obtain rfl : d = 0 := d0
            go_enter Tryz.func21, Tryz.ntmps21
            go_wp2_with fail
            rw [← HW.out]
            go_wp2_with (go_at_call 41; refine (CC.out _ HB.out).mono ?_; rintro e w1 ⟨rfl, hb1⟩; have hbw := bcl HB.out hb1; have P1 := H1.out.below hbw hpz; have B2 := HB1.out.below hb1 HB1.out.lt; have p2 : w1.cell? ⟨p, 2, none⟩ = some (.map (some m)) := P1.cell rfl; have l0 : w1.cell? ⟨w.heap.size, 0, none⟩ = some (.int .i64 x) := B2.cell rfl; have l1 : w1.cell? ⟨w.heap.size, 1, none⟩ = some (.int .i64 q') := B2.cell rfl; have hp1 : p < w1.heap.size := P1.lt; have hz1 : w.heap.size < w1.heap.size := B2.lt; have hlk := run_lookup_v (w := (w1.alloc (.cells #[.int .i64 0, .string ⟨#[]⟩] 93)).drew) 88 3 93 lawI Tryz.underlying88 m _ mm _ hs f (zeroDone _) (((HV.out.keep hbw).keep (bal1 _ _)).stay rfl) _ _ (keyOf_int_mk Tryz.underlying3 HWF.out); rw [HF.out] at hlk; have hlj := run_lookup_v (w := w1.drew) 88 3 93 lawI Tryz.underlying88 m _ mm _ hs f (zeroDone _) ((HV.out.keep hbw).stay rfl) _ _ (keyOf_int_mk Tryz.underlying3 HWF.out); rw [HF.out] at hlj)
            have hlk2 : (Instr.lookup 88 (.map (some m)) (.int .i64 x) false).run Tryz.prog (w1.alloc (.cells #[.int .i64 0, .string ⟨#[]⟩] 93)).drew = .ok (.agg #[.int .i64 y1, .string y2]) (w1.alloc (.cells #[.int .i64 0, .string ⟨#[]⟩] 93)).drew := hlk
            have hlj2 : (Instr.lookup 88 (.map (some m)) (.int .i64 x) false).run Tryz.prog w1.drew = .ok (.agg #[.int .i64 y1, .string y2]) w1.drew := hlj
            clear hlk hlj
            go_region
            all_goals
              obtain ⟨W2, hW2⟩ : ∃ W2, W2 = (w1.alloc (.cells #[.int .i64 y1, .string y2] 93)).drew := ⟨_, rfl⟩
              first | rw [← hW2] | (rw [show (w1.drew.alloc (.cells #[.int .i64 y1, .string y2] 93)) = (w1.alloc (.cells #[.int .i64 y1, .string y2] 93)).drew from rfl]; rw [← hW2])
              have hb12 : Below w1.heap.size w1 W2 := by rw [hW2]; exact bdr (bal1 _ _)
              have B3 := B2.below hb12 hz1
              have D3 : AtB W2 w1.heap.size #[.int .i64 y1, .string y2] 93 := by rw [hW2]; exact AtB.new _ _ _
              have m0 : W2.cell? ⟨w.heap.size, 0, none⟩ = some (.int .i64 x) := B3.cell rfl
              have m1 : W2.cell? ⟨w.heap.size, 1, none⟩ = some (.int .i64 q') := B3.cell rfl
              have m2 : W2.cell? ⟨w.heap.size, 2, none⟩ = some (.int .i64 0) := B3.cell rfl
              have m3 : W2.cell? ⟨w.heap.size, 3, none⟩ = some (.slice A t.length c) := B3.cell rfl
              have n0 : W2.cell? ⟨w1.heap.size, 0, none⟩ = some (.int .i64 y1) := D3.cell rfl
              have n1 : W2.cell? ⟨w1.heap.size, 1, none⟩ = some (.string y2) := D3.cell rfl
              have hbz := bcl hbw hb12
              clear hlk2 hlj2 hW2 B3 D3 P1 B2 p2 l0 l1 hb1 hbw
              have HBZ := Lib.hid hbz
              clear hbz hb12
              go_wp2_with (go_at_call 43; refine (CP.out _ HBZ.out).mono ?_; rintro e w3 ⟨rfl, g3, hc3, hg3, hn3⟩)
              go_ret2
              exact ⟨rfl, g3, hc3, (Chs.of_below (CM p q g m) HBZ.out).trans ((Chs.of_chg hg3).mono (fun b hb => hb.elim (fun e => .inr (.inl e)) (fun e => .inr (.inr (.inl e))))) (fun b hb => .inl hb), nw_le hn3 HBZ.out.size⟩
        · have cp := fun (W : World) (hb : Below w.heap.size w W) => cpget_any (hC.keep hb) (fun W' hb' => HTT.out W' ((hb.mono hC.hb).trans hb')) a A c hok e0 d0 (hA.below hb (Nat.le_refl _))
          have d0' : (a.d == 0) = false := beq_eq_false_iff_ne.2 d0
          have D0 := Lib.hid d0
          clear d0
          by_cases e4 : nwE R s a = 0
          · have hE : doE R s a = 0 := hEn.trans e4
            have hok2 : Cok ⟨nwL s a, fun y => if y = a.w then (a.q, nwS s a) else s.F y, s.n + 1⟩ := by
              have h := hC.ok.step (R := R) (a := a) hok
              rwa [doC_new hE ag] at h
            rw [hE, eV_zero, doS_new hE ag, doC_new hE ag]
            rw [e4, if_pos rfl, eV_zero, if_pos rfl] at cp
            have CP := Lib.hid cp
            have HOK2 := Lib.hid hok2
            have hne : w.heap.size ≠ q ∧ ∀ b, g = some b → w.heap.size ≠ b := ⟨fun e => by have := hC.spc.lt; omega, fun b hb e => by have := (hC.spc.gkin hb).2.lt; omega⟩
            have HNEX := Lib.hid hne
            clear cp hok2 hne hE hEn e4 ag
            generalize nwS s a = ans at *
            generalize nwL s a = Lx at *
            clear hC h1 h2 hv hf hW1 hb01 B1 hw hd t0 t5 hli htu e0 hA hok hm hq64 hY
            obtain ⟨x, q', d, t⟩ := a
            simp only [akv] at *
            go_enter Tryz.func21, Tryz.ntmps21
            go_wp2_with fail
            rw [← HW.out]
            go_wp2_with (go_at_call 41; refine (CC.out _ HB.out).mono ?_; rintro e w1 ⟨rfl, hb1⟩; have hbw := bcl HB.out hb1; have P1 := H1.out.below hbw hpz; have B2 := HB1.out.below hb1 HB1.out.lt; have p2 : w1.cell? ⟨p, 2, none⟩ = some (.map (some m)) := P1.cell rfl; have l0 : w1.cell? ⟨w.heap.size, 0, none⟩ = some (.int .i64 x) := B2.cell rfl; have l1 : w1.cell? ⟨w.heap.size, 1, none⟩ = some (.int .i64 q') := B2.cell rfl; have hp1 : p < w1.heap.size := P1.lt; have hz1 : w.heap.size < w1.heap.size := B2.lt; have hlk := run_lookup_v (w := (w1.alloc (.cells #[.int .i64 0, .string ⟨#[]⟩] 93)).drew) 88 3 93 lawI Tryz.underlying88 m _ mm _ hs f (zeroDone _) (((HV.out.keep hbw).keep (bal1 _ _)).stay rfl) _ _ (keyOf_int_mk Tryz.underlying3 HWF.out); rw [HF.out] at hlk; have hlj := run_lookup_v (w := w1.drew) 88 3 93 lawI Tryz.underlying88 m _ mm _ hs f (zeroDone _) ((HV.out.keep hbw).stay rfl) _ _ (keyOf_int_mk Tryz.underlying3 HWF.out); rw [HF.out] at hlj)
            have hlk2 : (Instr.lookup 88 (.map (some m)) (.int .i64 x) false).run Tryz.prog (w1.alloc (.cells #[.int .i64 0, .string ⟨#[]⟩] 93)).drew = .ok (.agg #[.int .i64 y1, .string y2]) (w1.alloc (.cells #[.int .i64 0, .string ⟨#[]⟩] 93)).drew := hlk
            have hlj2 : (Instr.lookup 88 (.map (some m)) (.int .i64 x) false).run Tryz.prog w1.drew = .ok (.agg #[.int .i64 y1, .string y2]) w1.drew := hlj
            clear hlk hlj
            go_region
            all_goals
              obtain ⟨W2, hW2⟩ : ∃ W2, W2 = (w1.alloc (.cells #[.int .i64 y1, .string y2] 93)).drew := ⟨_, rfl⟩
              first | rw [← hW2] | (rw [show (w1.drew.alloc (.cells #[.int .i64 y1, .string y2] 93)) = (w1.alloc (.cells #[.int .i64 y1, .string y2] 93)).drew from rfl]; rw [← hW2])
              have hb12 : Below w1.heap.size w1 W2 := by rw [hW2]; exact bdr (bal1 _ _)
              have B3 := B2.below hb12 hz1
              have D3 : AtB W2 w1.heap.size #[.int .i64 y1, .string y2] 93 := by rw [hW2]; exact AtB.new _ _ _
              have m0 : W2.cell? ⟨w.heap.size, 0, none⟩ = some (.int .i64 x) := B3.cell rfl
              have m1 : W2.cell? ⟨w.heap.size, 1, none⟩ = some (.int .i64 q') := B3.cell rfl
              have m2 : W2.cell? ⟨w.heap.size, 2, none⟩ = some (.int .i64 d) := B3.cell rfl
              have m3 : W2.cell? ⟨w.heap.size, 3, none⟩ = some (.slice A t.length c) := B3.cell rfl
              have n0 : W2.cell? ⟨w1.heap.size, 0, none⟩ = some (.int .i64 y1) := D3.cell rfl
              have n1 : W2.cell? ⟨w1.heap.size, 1, none⟩ = some (.string y2) := D3.cell rfl
              have hbz := bcl hbw hb12
              have BX2 := Lib.hid B3
              have HNE := HNEX
              clear hlk2 hlj2 hW2 B3 D3 P1 B2 p2 l0 l1 hb1 hbw
              have HBZ := Lib.hid hbz
              clear hbz hb12
              go_wp2_with (go_at_call 42; refine (CP.out _ HBZ.out).mono ?_; rintro e w3 ⟨rfl, g3, hc3, hg3, hn3⟩; obtain ⟨RA3, rc3, hp3, _⟩ := hc3.there; have p33 : w3.cell? ⟨p, 3, none⟩ = some (.int .i64 s.n) := hp3.cell rfl; have f33 := hp3.frozen 3; have HBX3 := Lib.hid (BX2.out.stay (hg3.block w.heap.size BX2.out.lt HNE.out.1 (fun e => HNE.out.2 _ e.symm rfl))); have HP3 := Lib.hid hp3; have HC3 := Lib.hid hc3; have HG3 := Lib.hid (And.intro hg3 hn3); clear hc3 hg3 hn3 hp3 m0 m1 m2 m3 n0 n1)
              obtain ⟨w4, hw4⟩ : ∃ w4, w4 = w3.setCell ⟨p, 3, none⟩ (.int .i64 ((s.n : Int) + 1)) := ⟨_, rfl⟩
              rw [← hw4]
              obtain ⟨m5, hs5, f5, hv5, hf5⟩ := HC3.out.map
              have hmp : m ≠ p := fun e => not_kin_of_map HC3.out.map.isMap (by rw [e]; exact HC3.out.pkin)
              have c34 : Chs (fun b => b = p) w3 w4 := by rw [hw4]; exact Chs.set w3 ⟨p, 3, none⟩ _
              have P4 : AtB w4 p #[.slice RA3 R.length rc3, .pointer (some ⟨q, 0, none⟩), .map (some m), .int .i64 ((s.n : Int) + 1)] 90 := by rw [hw4]; exact HP3.out.set 3 _
              have B4 := HBX3.out.chs c34 (by omega)
              have V4 := hv5.stay (c34.block m HC3.out.map.lt hmp)
              obtain ⟨w6, hup, hv6, hg6⟩ := run_update_v (w := w4.drew) 88 3 93 lawI Tryz.underlying88 m _ m5 _ hs5 f5 (V4.stay rfl) (show s.n < maxLen by unfold maxLen; omega) (.int .i64 x) (.int .i64 x) (keyOf_int_mk Tryz.underlying3 HWF.out) key_int (.agg #[.int .i64 q', .string ans])
              have p4 : w4.cell? ⟨p, 2, none⟩ = some (.map (some m)) := P4.cell rfl
              have k4 : w4.cell? ⟨w.heap.size, 0, none⟩ = some (.int .i64 x) := B4.cell rfl
              have k5 : w4.cell? ⟨w.heap.size, 1, none⟩ = some (.int .i64 q') := B4.cell rfl
              have hfin := HC3.out.done (x := x) (q' := q') (ans := ans) hw4 hf5 hv6 hg6 HOK2.out
              have HFIN := Lib.hid hfin
              clear hfin P4 B4 V4 hv6 hg6 hw4 c34 hv5 hf5 p33 f33 hmp
              go_region
              clear hup
              go_wp2_with fail
              go_ret2
              exact ⟨rfl, g3, HFIN.out.1, (Chs.of_below (CM p q g m) HBZ.out).trans (((Chs.of_chg HG3.out.1).mono (fun b hb => hb.elim (fun e => .inr (.inl e)) (fun e => .inr (.inr (.inl e)))) : Chs (CM p q g m) _ w3).trans HFIN.out.2 (fun b hb => nw_cm HG3.out.2 (HBZ.out.size) hb)) (fun b hb => .inl hb), nw_le HG3.out.2 HBZ.out.size⟩
          · have hE : doE R s a ≠ 0 := by rw [hEn]; exact e4
            rw [doS_no hE, doC_no hE, hEn, eV_of e4]
            rw [if_neg e4, eV_of e4, if_neg e4] at cp
            have CP := Lib.hid cp
            clear cp hE hEn ag
            generalize nwE R s a = X at *
            clear hC h1 h2 hv hf hW1 hb01 B1 hw hd t0 t5 hli htu e0 hA hok hm hq64 hY
            obtain ⟨x, q', d, t⟩ := a
            simp only [akv] at *
            go_enter Tryz.func21, Tryz.ntmps21
            go_wp2_with fail
            rw [← HW.out]
            go_wp2_with (go_at_call 41; refine (CC.out _ HB.out).mono ?_; rintro e w1 ⟨rfl, hb1⟩; have hbw := bcl HB.out hb1; have P1 := H1.out.below hbw hpz; have B2 := HB1.out.below hb1 HB1.out.lt; have p2 : w1.cell? ⟨p, 2, none⟩ = some (.map (some m)) := P1.cell rfl; have l0 : w1.cell? ⟨w.heap.size, 0, none⟩ = some (.int .i64 x) := B2.cell rfl; have l1 : w1.cell? ⟨w.heap.size, 1, none⟩ = some (.int .i64 q') := B2.cell rfl; have hp1 : p < w1.heap.size := P1.lt; have hz1 : w.heap.size < w1.heap.size := B2.lt; have hlk := run_lookup_v (w := (w1.alloc (.cells #[.int .i64 0, .string ⟨#[]⟩] 93)).drew) 88 3 93 lawI Tryz.underlying88 m _ mm _ hs f (zeroDone _) (((HV.out.keep hbw).keep (bal1 _ _)).stay rfl) _ _ (keyOf_int_mk Tryz.underlying3 HWF.out); rw [HF.out] at hlk; have hlj := run_lookup_v (w := w1.drew) 88 3 93 lawI Tryz.underlying88 m _ mm _ hs f (zeroDone _) ((HV.out.keep hbw).stay rfl) _ _ (keyOf_int_mk Tryz.underlying3 HWF.out); rw [HF.out] at hlj)
            have hlk2 : (Instr.lookup 88 (.map (some m)) (.int .i64 x) false).run Tryz.prog (w1.alloc (.cells #[.int .i64 0, .string ⟨#[]⟩] 93)).drew = .ok (.agg #[.int .i64 y1, .string y2]) (w1.alloc (.cells #[.int .i64 0, .string ⟨#[]⟩] 93)).drew := hlk
            have hlj2 : (Instr.lookup 88 (.map (some m)) (.int .i64 x) false).run Tryz.prog w1.drew = .ok (.agg #[.int .i64 y1, .string y2]) w1.drew := hlj
            clear hlk hlj
            go_region
            all_goals
              obtain ⟨W2, hW2⟩ : ∃ W2, W2 = (w1.alloc (.cells #[.int .i64 y1, .string y2] 93)).drew := ⟨_, rfl⟩
              first | rw [← hW2] | (rw [show (w1.drew.alloc (.cells #[.int .i64 y1, .string y2] 93)) = (w1.alloc (.cells #[.int .i64 y1, .string y2] 93)).drew from rfl]; rw [← hW2])
              have hb12 : Below w1.heap.size w1 W2 := by rw [hW2]; exact bdr (bal1 _ _)
              have B3 := B2.below hb12 hz1
              have D3 : AtB W2 w1.heap.size #[.int .i64 y1, .string y2] 93 := by rw [hW2]; exact AtB.new _ _ _
              have m0 : W2.cell? ⟨w.heap.size, 0, none⟩ = some (.int .i64 x) := B3.cell rfl
              have m1 : W2.cell? ⟨w.heap.size, 1, none⟩ = some (.int .i64 q') := B3.cell rfl
              have m2 : W2.cell? ⟨w.heap.size, 2, none⟩ = some (.int .i64 d) := B3.cell rfl
              have m3 : W2.cell? ⟨w.heap.size, 3, none⟩ = some (.slice A t.length c) := B3.cell rfl
              have n0 : W2.cell? ⟨w1.heap.size, 0, none⟩ = some (.int .i64 y1) := D3.cell rfl
              have n1 : W2.cell? ⟨w1.heap.size, 1, none⟩ = some (.string y2) := D3.cell rfl
              have hbz := bcl hbw hb12
              clear hlk2 hlj2 hW2 B3 D3 P1 B2 p2 l0 l1 hb1 hbw
              have HBZ := Lib.hid hbz
              clear hbz hb12
              go_wp2_with (go_at_call 42; refine (CP.out _ HBZ.out).mono ?_; rintro e w3 ⟨rfl, g3, hc3, hg3, hn3⟩)
              go_ret2
              exact ⟨rfl, g3, hc3, (Chs.of_below (CM p q g m) HBZ.out).trans ((Chs.of_chg hg3).mono (fun b hb => hb.elim (fun e => .inr (.inl e)) (fun e => .inr (.inr (.inl e))))) (fun b hb => .inl hb), nw_le hn3 HBZ.out.size⟩
      · have hE := doE_seq (R := R) e0 ag (by rw [← hY]; exact e3)
        rw [doS_no (by rw [hE]; decide), doC_no (by rw [hE]; decide), hE, show eV 6 = errV 6 from rfl]
        have d3 : (a.q != y1 + 1) = true := bne_iff_ne.2 e3
        clear hE ag e3
        clear hC h1 h2 hv hf hW1 hb01 B1 hw hd t0 t5 hli htu e0 hA hok hm hq64 hY
        rcases hdx with d1 | ⟨d1, d2⟩
        · obtain ⟨x, q', d, t⟩ := a
          simp only [akv] at *
          go_enter Tryz.func21, Tryz.ntmps21
          go_wp2_with fail
          rw [← HW.out]
          go_wp2_with (go_at_call 41; refine (CC.out _ HB.out).mono ?_; rintro e w1 ⟨rfl, hb1⟩; have hbw := bcl HB.out hb1; have P1 := H1.out.below hbw hpz; have B2 := HB1.out.below hb1 HB1.out.lt; have p2 : w1.cell? ⟨p, 2, none⟩ = some (.map (some m)) := P1.cell rfl; have l0 : w1.cell? ⟨w.heap.size, 0, none⟩ = some (.int .i64 x) := B2.cell rfl; have l1 : w1.cell? ⟨w.heap.size, 1, none⟩ = some (.int .i64 q') := B2.cell rfl; have hp1 : p < w1.heap.size := P1.lt; have hz1 : w.heap.size < w1.heap.size := B2.lt; have hlk := run_lookup_v (w := (w1.alloc (.cells #[.int .i64 0, .string ⟨#[]⟩] 93)).drew) 88 3 93 lawI Tryz.underlying88 m _ mm _ hs f (zeroDone _) (((HV.out.keep hbw).keep (bal1 _ _)).stay rfl) _ _ (keyOf_int_mk Tryz.underlying3 HWF.out); rw [HF.out] at hlk; have hlj := run_lookup_v (w := w1.drew) 88 3 93 lawI Tryz.underlying88 m _ mm _ hs f (zeroDone _) ((HV.out.keep hbw).stay rfl) _ _ (keyOf_int_mk Tryz.underlying3 HWF.out); rw [HF.out] at hlj)
          have hlk2 : (Instr.lookup 88 (.map (some m)) (.int .i64 x) false).run Tryz.prog (w1.alloc (.cells #[.int .i64 0, .string ⟨#[]⟩] 93)).drew = .ok (.agg #[.int .i64 y1, .string y2]) (w1.alloc (.cells #[.int .i64 0, .string ⟨#[]⟩] 93)).drew := hlk
          have hlj2 : (Instr.lookup 88 (.map (some m)) (.int .i64 x) false).run Tryz.prog w1.drew = .ok (.agg #[.int .i64 y1, .string y2]) w1.drew := hlj
          clear hlk hlj
          go_region
          all_goals
            obtain ⟨W2, hW2⟩ : ∃ W2, W2 = (w1.alloc (.cells #[.int .i64 y1, .string y2] 93)).drew := ⟨_, rfl⟩
            first | rw [← hW2] | (rw [show (w1.drew.alloc (.cells #[.int .i64 y1, .string y2] 93)) = (w1.alloc (.cells #[.int .i64 y1, .string y2] 93)).drew from rfl]; rw [← hW2])
            have hb12 : Below w1.heap.size w1 W2 := by rw [hW2]; exact bdr (bal1 _ _)
            have B3 := B2.below hb12 hz1
            have D3 : AtB W2 w1.heap.size #[.int .i64 y1, .string y2] 93 := by rw [hW2]; exact AtB.new _ _ _
            have m0 : W2.cell? ⟨w.heap.size, 0, none⟩ = some (.int .i64 x) := B3.cell rfl
            have m1 : W2.cell? ⟨w.heap.size, 1, none⟩ = some (.int .i64 q') := B3.cell rfl
            have m2 : W2.cell? ⟨w.heap.size, 2, none⟩ = some (.int .i64 d) := B3.cell rfl
            have m3 : W2.cell? ⟨w.heap.size, 3, none⟩ = some (.slice A t.length c) := B3.cell rfl
            have n0 : W2.cell? ⟨w1.heap.size, 0, none⟩ = some (.int .i64 y1) := D3.cell rfl
            have n1 : W2.cell? ⟨w1.heap.size, 1, none⟩ = some (.string y2) := D3.cell rfl
            have hbz := bcl hbw hb12
            clear hlk2 hlj2 hW2 B3 D3 P1 B2 p2 l0 l1 hb1 hbw hb12
            go_wp2_with fail
            go_ret2
            exact ⟨rfl, g, HC.out.keep hbz, Chs.of_below _ hbz, Nw.refl _ _⟩
        · obtain ⟨x, q', d, t⟩ := a
          simp only [akv] at *
          go_enter Tryz.func21, Tryz.ntmps21
          go_wp2_with fail
          rw [← HW.out]
          go_wp2_with (go_at_call 41; refine (CC.out _ HB.out).mono ?_; rintro e w1 ⟨rfl, hb1⟩; have hbw := bcl HB.out hb1; have P1 := H1.out.below hbw hpz; have B2 := HB1.out.below hb1 HB1.out.lt; have p2 : w1.cell? ⟨p, 2, none⟩ = some (.map (some m)) := P1.cell rfl; have l0 : w1.cell? ⟨w.heap.size, 0, none⟩ = some (.int .i64 x) := B2.cell rfl; have l1 : w1.cell? ⟨w.heap.size, 1, none⟩ = some (.int .i64 q') := B2.cell rfl; have hp1 : p < w1.heap.size := P1.lt; have hz1 : w.heap.size < w1.heap.size := B2.lt; have hlk := run_lookup_v (w := (w1.alloc (.cells #[.int .i64 0, .string ⟨#[]⟩] 93)).drew) 88 3 93 lawI Tryz.underlying88 m _ mm _ hs f (zeroDone _) (((HV.out.keep hbw).keep (bal1 _ _)).stay rfl) _ _ (keyOf_int_mk Tryz.underlying3 HWF.out); rw [HF.out] at hlk; have hlj := run_lookup_v (w := w1.drew) 88 3 93 lawI Tryz.underlying88 m _ mm _ hs f (zeroDone _) ((HV.out.keep hbw).stay rfl) _ _ (keyOf_int_mk Tryz.underlying3 HWF.out); rw [HF.out] at hlj)
          have hlk2 : (Instr.lookup 88 (.map (some m)) (.int .i64 x) false).run Tryz.prog (w1.alloc (.cells #[.int .i64 0, .string ⟨#[]⟩] 93)).drew = .ok (.agg #[.int .i64 y1, .string y2]) (w1.alloc (.cells #[.int .i64 0, .string ⟨#[]⟩] 93)).drew := hlk
          have hlj2 : (Instr.lookup 88 (.map (some m)) (.int .i64 x) false).run Tryz.prog w1.drew = .ok (.agg #[.int .i64 y1, .string y2]) w1.drew := hlj
          clear hlk hlj
          go_region
          all_goals
            obtain ⟨W2, hW2⟩ : ∃ W2, W2 = (w1.alloc (.cells #[.int .i64 y1, .string y2] 93)).drew := ⟨_, rfl⟩
            first | rw [← hW2] | (rw [show (w1.drew.alloc (.cells #[.int .i64 y1, .string y2] 93)) = (w1.alloc (.cells #[.int .i64 y1, .string y2] 93)).drew from rfl]; rw [← hW2])
            have hb12 : Below w1.heap.size w1 W2 := by rw [hW2]; exact bdr (bal1 _ _)
            have B3 := B2.below hb12 hz1
            have D3 : AtB W2 w1.heap.size #[.int .i64 y1, .string y2] 93 := by rw [hW2]; exact AtB.new _ _ _
            have m0 : W2.cell? ⟨w.heap.size, 0, none⟩ = some (.int .i64 x) := B3.cell rfl
            have m1 : W2.cell? ⟨w.heap.size, 1, none⟩ = some (.int .i64 q') := B3.cell rfl
            have m2 : W2.cell? ⟨w.heap.size, 2, none⟩ = some (.int .i64 d) := B3.cell rfl
            have m3 : W2.cell? ⟨w.heap.size, 3, none⟩ = some (.slice A t.length c) := B3.cell rfl
            have n0 : W2.cell? ⟨w1.heap.size, 0, none⟩ = some (.int .i64 y1) := D3.cell rfl
            have n1 : W2.cell? ⟨w1.heap.size, 1, none⟩ = some (.string y2) := D3.cell rfl
            have hbz := bcl hbw hb12
            clear hlk2 hlj2 hW2 B3 D3 P1 B2 p2 l0 l1 hb1 hbw hb12
            go_wp2_with fail
            go_ret2
            exact ⟨rfl, g, HC.out.keep hbz, Chs.of_below _ hbz, Nw.refl _ _⟩
  · have hE := doE_bad (R := R) (s := s) e0
    rw [doS_no (by rw [hE]; exact e0), doC_no (by rw [hE]; exact e0), hE, eV_of e0]
    rw [eV_of e0] at cc
    have CC := Lib.hid cc
    clear cc hE e0 hC h1 h2 hW1 hb01 B1 hA hok hm hq64
    generalize qcE a = X at *
    obtain ⟨x, q', d, t⟩ := a
    simp only [akv] at *
    go_enter Tryz.func21, Tryz.ntmps21
    go_wp2_with fail
    rw [← HW.out]
    go_wp2_with (go_at_call 41; refine (CC.out _ HB.out).mono ?_; rintro e w1 ⟨rfl, hb1⟩; have hbw := bcl HB.out hb1)
    go_ret2
    exact ⟨rfl, g, HC.out.keep hbw, Chs.of_below _ hbw, Nw.refl _ _⟩
end
end Go.Proofs.YtfelefkmbbfdjaaGreatDoor
namespace Go.Proofs.YtfelefkmbbfdjaaGreatDoor
open Go.ChangeShapes Go.WideShapes Go.ChangeAt Go.RowKit Go.Maps Go.WideMaps
set_option linter.unusedVariables false

/-- a cell of a window is stored to -/
theorem Win.setW {w : World} {base k n c : Nat} {e : TypeId} {xs : List Value} {A : Option Addr} {g off : Nat} (h : Win w base e k (.slice A n c) n xs) (hA : A = some ⟨g, off, none⟩) {j : Nat} (hj : j < xs.length) (u : Value) :
    Win (w.setCell ⟨g, off + j, none⟩ u) base e k (.slice A n c) n (xs.set j u) := by
  refine ⟨by rw [List.length_set]; exact h.1, ?_⟩
  rcases h.2 with ⟨h1, _⟩ | ⟨g', off', c', h1, h2, ⟨cur, h3⟩, h4, h5, h6, h7⟩
  · injection h1 with h1; rw [hA] at h1; cases h1
  · injection h1 with h1 _ hc
    rw [hA] at h1
    injection h1 with h1; injection h1 with e1 e2
    subst e1; subst e2; subst hc
    have hs := h7 j (by have := h.1; have := Nat.mul_le_mul_right k h4; omega)
    have hcell : ∀ i, (w.setCell ⟨g, off + j, none⟩ u).cell? ⟨g, off + i, none⟩ = if i = j then some u else w.cell? ⟨g, off + i, none⟩ := fun i => by
      have hB : AtB w g cur e := h3
      have h8 : (w.setCell ⟨g, off + j, none⟩ u).cell? ⟨g, off + i, none⟩ = (cur.setIfInBounds (off + j) u)[off + i]? := cell_of_row _ g (off + i) _ e (0, 0) (hB.set (off + j) u)
      have h9 : ∀ q, w.cell? ⟨g, q, none⟩ = cur[q]? := fun q => cell_of_row w g q cur e (0, 0) h3
      rw [h8, h9]
      rw [h9] at hs
      have hlt : off + j < cur.size := by
        rcases Nat.lt_or_ge (off + j) cur.size with h | h
        · exact h
        · rw [Array.getElem?_eq_none h] at hs; cases hs
      rw [Array.getElem?_setIfInBounds]
      by_cases hij : i = j
      · subst hij; rw [if_pos rfl, if_pos rfl, if_pos hlt]
      · rw [if_neg (by omega), if_neg hij]
    refine .inr ⟨g, off, c, by rw [hA], h2, ⟨_, (show AtB w g cur e from h3).set (off + j) u⟩, h4, h5, fun i v hi => ?_, fun i hi => ?_⟩
    · rw [hcell]
      rw [List.getElem?_set] at hi
      by_cases hij : j = i
      · subst hij; rw [if_pos rfl, if_pos hj] at hi; rw [if_pos rfl]; exact hi
      · rw [if_neg hij] at hi; rw [if_neg (Ne.symm hij)]; exact h6 i v hi
    · rw [hcell]
      split
      · rfl
      · exact h7 i hi
theorem rxCells_like : ∀ (X : List Rx) (i : Nat) (A : Option Addr) (c : Nat), i < X.length → rxCells (X.set i ((rx X i).1, A, c)) = (rxCells X).set (i * 4 + 2) (.slice A (rx X i).1.a.length c)
  | x :: X, 0, A, c, _ => by simp [rxCells, rx, rxv]
  | x :: X, i + 1, A, c, h => by
    have := rxCells_like X i A c (by simpa using h)
    have e1 : rx (x :: X) (i + 1) = rx X i := by simp [rx]
    rw [e1, List.set_cons_succ]
    simp only [rxCells, List.flatMap_cons] at this ⊢
    rw [this, List.set_append_right _ _ (by simp [rxv]; omega)]
    congr 2
    simp [rxv]; omega
theorem rx_like_map (X : List Rx) (i : Nat) (A : Option Addr) (c : Nat) : (X.set i ((rx X i).1, A, c)).map (·.1) = X.map (·.1) := by
  rw [List.map_set]
  refine List.ext_getElem? fun j => ?_
  rw [List.getElem?_set]
  split
  · rename_i h; subst h
    split
    · rename_i h; simp at h; simp [rx, h]
    · rename_i h; simp at h; simp [h]
  · rfl
theorem ORX.empty (w : World) {g : Nat} (hg : g = w.heap.size) {base : Nat} (hb : base ≤ w.heap.size) : ORX (w.alloc (.cells #[] 34)) base (some ⟨g, 0, none⟩) 0 [] := by
  subst hg
  exact ⟨⟨rfl, .inr ⟨w.heap.size, 0, #[], rfl, hb, heap_alloc_new w _, Nat.le_refl _, by decide, rfl, rfl⟩⟩, fun x h => by simp at h⟩
theorem Vin.up {w : World} {base b2 : Nat} {A : Option Addr} {t : List Va} (h : Vin w base A t) (hb : base ≤ b2) : Vin w b2 A t :=
  ⟨h.1, fun h0 a ha => (h.2 h0 a ha).elim (fun k => .inl (by omega)) .inr⟩
/-- a slice of rules of the call's own, at g -/
structure RW (w : World) (base b2 : Nat) (A : Option Addr) (c : Nat) (X : List Rx) : Prop where
  win : ∃ g, A = some ⟨g, 0, none⟩ ∧ Win w b2 34 4 (.slice A X.length c) X.length (rxCells X)
  el : ∀ x ∈ X, Rxin w base x
theorem RW.keep {w w' : World} {base b2 c : Nat} {A : Option Addr} {X : List Rx} (h : RW w base b2 A c X) (hb : base ≤ w.heap.size) (k : Below w.heap.size w w') : RW w' base b2 A c X := by
  obtain ⟨g, e, h1⟩ := h.win
  exact ⟨⟨g, e, h1.keep k⟩, fun x hx => (h.el x hx).below hb k⟩
theorem RW.own {w : World} {base b2 c : Nat} {A : Option Addr} {X : List Rx} (h : RW w base b2 A c X) (hb : base ≤ b2) : ROwn w base A c (X.map (·.1)) := by
  obtain ⟨g, e, h1⟩ := h.win
  refine .inr ⟨X, rfl, ⟨h1.1, ?_⟩, h.el⟩
  rcases h1.2 with h2 | ⟨g', off', c', q1, q2, q3⟩
  · exact .inl h2
  · exact .inr ⟨g', off', c', q1, Nat.le_trans hb q2, q3⟩
/-- the rule at a place is given another list -/
theorem RW.set {w : World} {base b2 g c : Nat} {X : List Rx} (h : RW w base b2 (some ⟨g, 0, none⟩) c X) (hb : base ≤ b2) (hbs : b2 ≤ w.heap.size) {i : Nat} (hi : i < X.length) {B : Option Addr} {C : Nat} (hv : Rxin w base ((rx X i).1, B, C)) :
    RW (w.setCell ⟨g, i * 4 + 2, none⟩ (.slice B (rx X i).1.a.length C)) base b2 (some ⟨g, 0, none⟩) c (X.set i ((rx X i).1, B, C)) := by
  obtain ⟨g', e, h1⟩ := h.win
  obtain rfl : g = g' := by injection e with e; injection e
  have hk := h1.block (g := g) rfl
  have hc : Chs (fun b => b = g) w (w.setCell ⟨g, i * 4 + 2, none⟩ (.slice B (rx X i).1.a.length C)) := Chs.set w ⟨g, i * 4 + 2, none⟩ _
  have hM : ∀ b, b = g → base ≤ b ∧ ¬ kin w b 31 := fun b hb' => by subst hb'; exact ⟨Nat.le_trans hb hk.1, fun k => absurd (kin.ne k hk.2) (by decide)⟩
  refine ⟨⟨g, rfl, ?_⟩, fun x hx => ?_⟩
  · have h2 := h1.setW (j := i * 4 + 2) rfl (by rw [rxCells_length]; omega) (.slice B (rx X i).1.a.length C)
    rw [show (0 : Nat) + (i * 4 + 2) = i * 4 + 2 by omega] at h2
    rw [List.length_set, rxCells_like X i B C hi]; exact h2
  · rcases List.mem_or_eq_of_mem_set hx with hx | rfl
    · exact (h.el x hx).chs (Nat.le_trans hb hbs) hc hM
    · exact hv.chs (Nat.le_trans hb hbs) hc hM
set_option maxHeartbeats 800000 in
set_option maxRecDepth 100000 in
theorem ruclone_any {w : World} {base : Nat} (hb : base ≤ w.heap.size) (A : Option Addr) (c : Nat) (X : List Rx) (hX : RX w base A X) (h8 : X.length ≤ 1000000) :
    Calls Tryz.prog 39 #[.slice A X.length c] w fun e w' => ∃ A' c', e = .returned (.slice A' X.length c') ∧ (X = [] ∨ RW w' base w.heap.size A' c' X) ∧ Below w.heap.size w w' := by
  have hnil := fun w a => Lib.run_eql_slice_nil (P := Tryz.prog) w 22 34 a X.length c 0 0 Tryz.underlying22
  cases A with
  | none =>
    have h0 : X = [] := by
      rcases Nat.eq_zero_or_pos X.length with h | h
      · exact List.eq_nil_of_length_eq_zero h
      · obtain ⟨b, off, e, _⟩ := hX.1 h; cases e
    have hn : ∀ W, (binOp .eql 22 (.slice none X.length c) (.slice none 0 0)).run Tryz.prog W = .ok (.bool true) W := fun W => hnil W none
    have H0 := Lib.hid h0
    clear hnil h0 hX
    go_enter Tryz.func39, Tryz.ntmps39
    go_wp2_with fail
    go_ret
    exact ⟨none, 0, by rw [H0.out]; rfl, .inl H0.out, (by repeat (first | exact Below.refl _ _ | assumption | refine bal ?_ _ | refine bdn ?_ _ | refine bdr ?_ | refine bcl ?_ (by assumption)))⟩
  | some a =>
    have hn : ∀ W, (binOp .eql 22 (.slice (some a) X.length c) (.slice none 0 0)).run Tryz.prog W = .ok (.bool false) W := fun W => hnil W (some a)
    clear hnil
    have hX2 : RX (w.alloc (.cells #[] 34)) w.heap.size (some a) X := by
      have h1 : RX w w.heap.size (some a) X := ⟨hX.1, fun x hx => ⟨(hX.2 x hx).1.up hb, (hX.2 x hx).2⟩⟩
      exact h1.below (Nat.le_refl _) (bal1 _ _)
    have HX := Lib.hid hX; have HX2 := Lib.hid hX2
    clear hX hX2
    go_enter Tryz.func39, Tryz.ntmps39
    go_wp2_with (at_builtin; refine wpList_append_rules rfl _ _ rfl w.heap.size (some ⟨w.heap.size, 0, none⟩) 0 [] rfl (ORX.empty w rfl (Nat.le_refl _)) (some a) c X rfl HX2.out (by simp; omega) (by simp) ?_; intro A1 c1 w1 ho1 hb1)
    go_wp2_with fail
    go_ret
    have hbw := (bal1 w (.cells #[] 34)).trans hb1
    refine ⟨A1, c1, by simp, ?_, hbw⟩
    rcases Nat.eq_zero_or_pos X.length with h | h
    · exact .inl (List.eq_nil_of_length_eq_zero h)
    · simp only [List.nil_append] at ho1
      obtain ⟨g, cap, e, hg, _⟩ := ho1.1.form h
      have hA : A1 = some ⟨g, 0, none⟩ := by injection e
      exact .inr ⟨⟨g, hA, Win.own ho1.1 (Nat.le_refl _)⟩, fun x hx => (HX.out.2 x hx).below hb hbw⟩
set_option maxHeartbeats 1600000 in
set_option maxRecDepth 100000 in
theorem ruown_any {w : World} {base : Nat} (hb : base ≤ w.heap.size) (A : Option Addr) (c : Nat) (X : List Rx) (hX : RX w base A X) (h8 : X.length ≤ 8) (h5 : ∀ x ∈ X, 0 < x.1.a.length ∧ x.1.a.length ≤ 5) :
    Calls Tryz.prog 19 #[.slice A X.length c] w fun e w' => ∃ A' c', e = .returned (.slice A' X.length c') ∧ ROwn w' base A' c' (X.map (·.1)) ∧ Below w.heap.size w w' := by
  have cc := ruclone_any hb A c X hX (by omega)
  have CC := Lib.hid cc; have H5 := Lib.hid h5
  clear cc hX h5
  go_enter Tryz.func19, Tryz.ntmps19
  go_wp2_with (go_at_call 39; refine CC.out.mono ?_; rintro e w1 ⟨A1, c1, rfl, hr1, hb1⟩; have HR1 := Lib.hid hr1; have HB1 := Lib.hid hb1; clear hr1 hb1)
  go_loopw [4, 5, 10] (fun _ _ s10 wr => ∃ (k : Nat) (Y : List Rx), k ≤ X.length ∧ s10 = .int .i64 k ∧ Y.length = X.length ∧ Y.map (·.1) = X.map (·.1) ∧ Hid (Y = [] ∨ RW wr base w.heap.size A1 c1 Y) ∧ Hid (Below w.heap.size w wr)) (fun _ _ s10 _ => X.length - (intOf s10).toNat)
  case atStart => exact ⟨0, X, Nat.zero_le _, rfl, rfl, rfl, HR1, HB1⟩
  case round =>
    obtain ⟨k, Y, hk, rfl, hYl, hYm, HR, HBL⟩ := hrel
    by_cases hlt : k < X.length
    · have hY0 : Y ≠ [] := fun e => by rw [e] at hYl; simp at hYl; omega
      have hw := HR.out.resolve_left hY0
      obtain ⟨g, rfl, hwin⟩ := hw.win
      have hYk : k < Y.length := by omega
      obtain ⟨b', o', e', hbg, hcs⟩ := (hwin.rxs fun x hx => ⟨(hw.el x hx).1.up hb, (hw.el x hx).2⟩).1 (by omega)
      obtain ⟨rfl, rfl⟩ : g = b' ∧ 0 = o' := by injection e' with e'; injection e' with e1 e2; exact ⟨e1, e2⟩
      have hru := ru_map hYk
      have d0 := hcs _ _ (rxCells_at Y k 0 hYk (by omega))
      have d1 := hcs _ _ (rxCells_at Y k 1 hYk (by omega))
      have d2 := hcs _ _ (rxCells_at Y k 2 hYk (by omega))
      have d3 := hcs _ _ (rxCells_at Y k 3 hYk (by omega))
      simp [ruc, hru] at d0 d1 d2 d3
      have hmem := rx_mem hYk
      have hin := hw.el _ hmem
      have hx5 := H5.out
      have hal : 0 < (rx Y k).1.a.length ∧ (rx Y k).1.a.length ≤ 5 := by
        have h1 : (rx Y k).1 ∈ Y.map (·.1) := List.mem_map.2 ⟨_, hmem, rfl⟩
        rw [hYm] at h1
        obtain ⟨z, hz, e⟩ := List.mem_map.1 h1
        rw [← e]; exact hx5 z hz
      have cl := fun (W : World) (hW : Below wr.heap.size wr W) => clone_any (rx Y k).2.1 (rx Y k).2.2 (rx Y k).1.a hal.1 (by omega) W (hin.1.1.below hW (Nat.le_refl _))
      have i0 : (0 : Int) ≤ (k : Int) := by omega
      have i1 : (k : Int) < (X.length : Nat) := by omega
      have hgz : g < wr.heap.size := hbg
      have CL := Lib.hid cl; have HW := Lib.hid hw; have HAL := Lib.hid hal
      have HYM := Lib.hid hYm
      clear cl hw hal hin hx5 hmem hru hwin hcs hYm e'
      go_wp2_with (go_at_call 40; refine (CL.out _ (bal1 _ _)).mono ?_; rintro e w2 ⟨A2, c2, rfl, ho2, hb2⟩; have hbx := bcl (bal1 wr (.cells #[.int .i64 (rx Y k).1.d, .int .i64 (rx Y k).1.o, .slice (rx Y k).2.1 (rx Y k).1.a.length (rx Y k).2.2, .bool (rx Y k).1.m] 34)) hb2; have e2 := (hbx.cell (p := ⟨g, k * 4 + 2, none⟩) hgz).trans d2; have f2 : w2.frozen? ⟨g, k * 4 + 2, none⟩ = false := by obtain ⟨g', e', hw2⟩ := (HW.out.keep (Nat.le_trans hb HBL.out.size) hbx).win; obtain ⟨cur, hk2⟩ := (hw2.block (g := g) rfl).2; simp [World.frozen?, hk2])
      go_roundw
      case rel =>
        have hw2 := HW.out.keep (Nat.le_trans hb HBL.out.size) hbx
        have hgb : w.heap.size ≤ g := by obtain ⟨g', e', hw3⟩ := hw2.win; exact (hw3.block (g := g) rfl).1
        have hz2 : w.heap.size ≤ w2.heap.size := Nat.le_trans HBL.out.size hbx.size
        have hset := hw2.set hb hz2 hYk (B := A2) (C := c2) ⟨⟨ho2.vals, fun _ => Inn.own (b2 := base) ho2⟩, ho2.cap⟩
        exact ⟨k + 1, Y.set k ((rx Y k).1, A2, c2), by omega, by go_num, by rw [List.length_set]; exact hYl, by rw [rx_like_map]; exact HYM.out, Lib.hid (.inr hset), Lib.hid (bset (bcl HBL.out hbx) hgb _)⟩
      case measure => simp [intOf]; omega
    · obtain rfl : k = X.length := by omega
      go_wp2_with fail
      go_ret
      refine ⟨A1, c1, rfl, ?_, HBL.out⟩
      rw [← hYm]
      rcases HR.out with h | h
      · exact .inl (by rw [h]; rfl)
      · exact h.own hb
theorem ROwn.keep {w w' : World} {base c : Nat} {A : Option Addr} {R : List Ru} (h : ROwn w base A c R) (hb : base ≤ w.heap.size) (k : Below w.heap.size w w') : ROwn w' base A c R := h.stay hb k.size fun b hb' _ => k.block b hb'
theorem ru_lens {X : List Rx} (h : rulE (X.map (·.1)) = 0) : X.length ≤ 8 ∧ ∀ x ∈ X, 0 < x.1.a.length ∧ x.1.a.length ≤ 5 := by
  obtain ⟨h8, h1⟩ := rulE_zero h
  rw [List.length_map] at h8 h1
  refine ⟨h8, fun x hx => ?_⟩
  obtain ⟨i, hi, rfl⟩ := List.mem_iff_getElem.1 hx
  have h2 := (oneE_zero (h1 i hi)).2.2
  have h3 := ru_map hi
  have h4 : rx X i = X[i] := by simp [rx, hi]
  rw [h3, h4] at h2
  exact ⟨(liE_zero h2).1, (liE_zero h2).2.1⟩
set_option maxHeartbeats 1600000 in
set_option maxRecDepth 100000 in
theorem cpnew_ok {w : World} {base : Nat} (hb : base ≤ w.heap.size) (A : Option Addr) (c : Nat) (X : List Rx) (hX : RX w base A X) (hr : rulE (X.map (·.1)) = 0) (ho : okR (X.map (·.1))) :
    Calls Tryz.prog 18 #[.slice A X.length c] w fun e w' => ∃ p q m, e = .returned (.tuple #[.pointer (some ⟨p, 0, none⟩), .nilIface]) ∧ Cpy w' base p q none m (X.map (·.1)) Cs.zero ∧ Below w.heap.size w w' ∧ w.heap.size ≤ p ∧ w.heap.size ≤ q ∧ w.heap.size ≤ m := by
  obtain ⟨h8, h5⟩ := ru_lens hr
  have hl : (X.map (·.1)).length = X.length := by simp
  have cr := rucheck_any A c (X.map (·.1)) (by unfold maxLen; omega) ho w hX.rls
  rw [hr, eV_zero, hl] at cr
  have co := fun (W : World) (hW : Below w.heap.size w W) => ruown_any (w := W) (base := base) (Nat.le_trans hb hW.size) A c X (hX.below hb hW) h8 h5
  have CR := Lib.hid cr; have CO := Lib.hid co; have HR := Lib.hid hr; have HO := Lib.hid ho; have HL := Lib.hid hl
  clear cr co hX hr ho h5 hl
  have hmm := @run_makeMap Tryz.prog
  go_enter Tryz.func18, Tryz.ntmps18
  go_wp2_with (first
    | (go_at_call 37; refine CR.out.mono ?_; rintro e w1 ⟨rfl, hb1⟩; have HB1 := Lib.hid hb1; clear hb1)
    | (go_at_call 19; refine (CO.out _ HB1.out).mono ?_; rintro e w2 ⟨A2, c2, rfl, ho2, hb2⟩; have HB2 := Lib.hid (bcl HB1.out hb2); have HO2 := Lib.hid ho2; clear hb2 ho2)
    | (go_at_call 38; refine (spnew w2).mono ?_; rintro e w3 ⟨rfl, hw3⟩; have HW3 := Lib.hid hw3; clear hw3))
  go_ret2
  have hb23 : Below w2.heap.size w2 w3 := by rw [HW3.out]; exact bal1 _ _
  have hbz : base ≤ w2.heap.size := Nat.le_trans hb HB2.out.size
  have hz23 : w3.heap.size = w2.heap.size + 1 := by rw [HW3.out]; simp
  have hs3 : Spc w3 base w2.heap.size none [] := by rw [HW3.out]; exact Spc.new w2 hbz
  have hb34 : Below w3.heap.size w3 (w3.alloc (.map #[] 0)) := bal1 _ _
  have hm4 := VMap.made w3 3 (dnv (0, ⟨#[]⟩))
  have hs4 := hs3.keep hb34
  have ho4 := (HO2.out.keep hbz hb23).keep (Nat.le_trans hbz hb23.size) hb34
  have hb45 : Below (w3.alloc (.map #[] 0)).heap.size (w3.alloc (.map #[] 0)) ((w3.alloc (.map #[] 0)).alloc (.cells #[.slice A2 X.length c2, .pointer (some ⟨w2.heap.size, 0, none⟩), .map (some w3.heap.size), .int .i64 0] 90)) := bal1 _ _
  have hp := AtB.new (w3.alloc (.map #[] 0)) #[.slice A2 X.length c2, .pointer (some ⟨w2.heap.size, 0, none⟩), .map (some w3.heap.size), .int .i64 0] 90
  have hz4 : (w3.alloc (.map #[] 0)).heap.size = w3.heap.size + 1 := by simp
  have hfin := bcl (bcl (bcl HB2.out hb23) hb34) hb45
  have hsz := HB2.out.size
  refine ⟨(w3.alloc (.map #[] 0)).heap.size, w2.heap.size, w3.heap.size, by simp, ⟨⟨A2, c2, by rw [HL.out]; exact hp, ho4.keep (by omega) hb45⟩, hs4.keep hb45, ⟨_, _, _, hm4.keep hb45, fun a => rfl⟩, by omega, by omega, HR.out, HO.out, Cok.zero⟩, hfin, by omega, by omega, by omega⟩
set_option maxHeartbeats 800000 in
theorem cpnew_no {w : World} (A : Option Addr) (c : Nat) (l : List Ru) (hm : l.length ≤ maxLen) (hA : Rls w A l) (hr : rulE l ≠ 0) (ho : okR l) :
    Calls Tryz.prog 18 #[.slice A l.length c] w fun e w' => e = .returned (.tuple #[.pointer none, errV (rulE l)]) ∧ Below w.heap.size w w' := by
  have cr := rucheck_any A c l hm ho w hA
  rw [eV_of hr] at cr
  have CR := Lib.hid cr
  clear cr hA ho hr hm
  generalize rulE l = E at *
  go_enter Tryz.func18, Tryz.ntmps18
  go_wp2_with (go_at_call 37; refine CR.out.mono ?_; rintro e w1 ⟨rfl, hb1⟩)
  go_ret2
  exact ⟨rfl, hb1⟩
end Go.Proofs.YtfelefkmbbfdjaaGreatDoor
namespace Go.Proofs.YtfelefkmbbfdjaaGreatDoor
open Go.ChangeShapes Go.WideShapes Go.ChangeAt Go.RowKit Go.Maps Go.WideMaps
set_option linter.unusedVariables false

section
variable {w : World} {base p q m : Nat} {g : Option Nat} {R : List Ru} {s : Cs}
set_option maxHeartbeats 1600000 in
set_option maxRecDepth 100000 in
theorem cpmark_any (hC : Cpy w base p q g m R s) (ht : ∀ W, Below base w W → TT W) :
    Calls Tryz.prog 27 #[.pointer (some ⟨p, 0, none⟩)] w fun e w' => e = .returned (.tuple #[.int .i64 s.n, .int .i64 (mkV s)]) ∧ Below w.heap.size w w' := by
  obtain ⟨A, c, h1, _⟩ := hC.there
  have hpz := h1.lt
  have p1 : w.cell? ⟨p, 1, none⟩ = some (.pointer (some ⟨q, 0, none⟩)) := h1.cell rfl
  have p3 : w.cell? ⟨p, 3, none⟩ = some (.int .i64 s.n) := h1.cell rfl
  have ca := spall_any base q g s.L w hC.spc
  have hl20 := hC.ok.l20
  have hall : ∀ t ∈ s.L, tuE t = 0 := fun t ht => (hC.ok.ok t ht).2
  have hms := mkL_size hall
  have CA := Lib.hid ca; have HT := Lib.hid ht; have HALL := Lib.hid hall; have HB0 := Lib.hid hC.hb; have HMS := Lib.hid hms
  clear ca hC h1 ht hall hms
  go_enter Tryz.func27, Tryz.ntmps27
  go_wp2_with (go_at_call 51; refine CA.out.mono ?_; rintro e w1 ⟨A1, c1, rfl, ho1, hb1⟩; have HO1 := Lib.hid ho1; have HB1 := Lib.hid hb1; clear ho1 hb1)
  go_loopw [4, 6, 13] (fun s4 _ s13 wr => ∃ k : Nat, k ≤ s.L.length ∧ s13 = .int .i64 k ∧ s4 = .string (mkL (s.L.take k)) ∧ Hid (Below w1.heap.size w1 wr)) (fun _ _ s13 _ => s.L.length - (intOf s13).toNat)
  case atStart => exact ⟨0, Nat.zero_le _, rfl, rfl, (by repeat (first | exact Below.refl _ _ | assumption | refine bal ?_ _ | refine bdn ?_ _ | refine bdr ?_ | refine bcl ?_ (by assumption)))⟩
  case round =>
    obtain ⟨k, hk, rfl, rfl, HB⟩ := hrel
    by_cases hlt : k < s.L.length
    · obtain ⟨b, B, C, rfl, hcc, hv, hC1, hC2, _⟩ := (HO1.out.keep vals_stay HB1.out.size HB.out).vat hlt
      have htu := HALL.out _ (gg_mem hlt)
      obtain ⟨_, h5, hrg⟩ := rgt_of (tuE_zero htu).1
      have cw := tword_any B C (gg s.L k) (by omega) hrg wr hv (HT.out wr ((HB1.out.mono HB0.out).trans (HB.out.mono (Nat.le_trans HB0.out HB1.out.size))))
      have i0 : (0 : Int) ≤ (k : Int) := by omega
      have i1 : (k : Int) < (s.L.length : Nat) := by omega
      have hn := mkL_take hlt
      have hs1 : (mkL (s.L.take k)).size ≤ 3000 := by
        have h1 := mkL_size (L := s.L.take k) fun t ht => HALL.out t (List.mem_of_mem_take ht)
        have h2 : (s.L.take k).length ≤ 20 := by rw [List.length_take]; omega
        omega
      have hs2 := lin_small htu
      have CW := Lib.hid cw; have HN := Lib.hid hn; have HS1 := Lib.hid hs1; have HS2 := Lib.hid hs2
      generalize lin (gg s.L k) = tx at *
      generalize mkL (s.L.take k) = ty at *
      clear cw hv htu h5 hrg hn hs1 hs2
      go_wp2_with (go_at_call 45; refine CW.out.mono ?_; rintro e w3 ⟨rfl, hb3⟩)
      all_goals first
        | (exfalso; have := HS1.out; have := HS2.out; simp at *; omega)
        | (go_wp2_with fail
           go_roundw
           case rel => exact ⟨k + 1, by omega, by go_num, by rw [HN.out], Lib.hid (bcl HB.out hb3)⟩
           case measure => simp [intOf]; omega)
    · obtain rfl : k = s.L.length := by omega
      rw [List.take_length]
      have cd := fun W => digof_any (mkL s.L) (by have := HMS.out; unfold maxLen; omega) W
      have CD := Lib.hid cd
      clear cd
      have hbw := bcl HB1.out HB.out
      have r3 := (hbw.cell (p := ⟨p, 3, none⟩) hpz).trans p3
      have hpr : p < wr.heap.size := Nat.lt_of_lt_of_le hpz hbw.size
      have HBW := Lib.hid hbw
      clear hbw
      go_wp2_with fail
      go_region_held3 (fun w' => w'.cell? ⟨p, 3, none⟩ = some (.int .i64 s.n)) (first | go_keep | exact (hb4.cell (p := ⟨p, 3, none⟩) hpr).trans r3) ((go_at_call 52; refine (CD.out _).mono ?_; rintro e w4 ⟨rfl, hb4⟩))
      go_wp2_with fail
      go_ret2
      exact ⟨rfl, bcl (bdr HBW.out) hb4⟩
end
end Go.Proofs.YtfelefkmbbfdjaaGreatDoor
namespace Go.Proofs.YtfelefkmbbfdjaaGreatDoor
open Go.ChangeShapes Go.WideShapes Go.ChangeAt Go.RowKit Go.Maps Go.WideMaps
set_option linter.unusedVariables false

/-- none of what is changed is one of this copy's -/
theorem Cpy.apart {w w' : World} {base p q m : Nat} {g : Option Nat} {R : List Ru} {s : Cs} {M : Nat → Prop} (h : Cpy w base p q g m R s) (k : Chs M w w') (hM : ∀ b, M b → base ≤ b ∧ ¬ kin w b 31 ∧ ¬ kin w b 34) (hd : ∀ b, M b → ¬ CM p q g m b) : Cpy w' base p q g m R s :=
  h.far k fun b hb => ⟨(hM b hb).1, (hM b hb).2.1, (hM b hb).2.2, hd b hb⟩
theorem Cpy.mine {w : World} {base p q m : Nat} {g : Option Nat} {R : List Ru} {s : Cs} (h : Cpy w base p q g m R s) : ∀ b, CM p q g m b → base ≤ b ∧ ¬ kin w b 31 ∧ ¬ kin w b 34 := fun b hb => ⟨h.own b hb, (h.kinds b hb).1, (h.kinds b hb).2⟩
structure C2 (w0 w : World) (p q : Nat) (g : Option Nat) (m : Nat) (R : List Ru) (s : Cs) (p2 q2 : Nat) (g2 : Option Nat) (m2 : Nat) (R2 : List Ru) (s2 : Cs) : Prop where
  b : Below w0.heap.size w0 w
  c : Cpy w w0.heap.size p q g m R s
  c2 : Cpy w w0.heap.size p2 q2 g2 m2 R2 s2
  d : ∀ b, CM p q g m b → ¬ CM p2 q2 g2 m2 b
section
variable {w0 w w' : World} {p q m p2 q2 m2 : Nat} {g g' g2 : Option Nat} {R R2 : List Ru} {s s' s2 : Cs}
theorem C2.keep (j : C2 w0 w p q g m R s p2 q2 g2 m2 R2 s2) (k : Below w.heap.size w w') : C2 w0 w' p q g m R s p2 q2 g2 m2 R2 s2 :=
  ⟨bcl j.b k, j.c.keep k, j.c2.keep k, j.d⟩
theorem C2.swap (j : C2 w0 w p q g m R s p2 q2 g2 m2 R2 s2) : C2 w0 w p2 q2 g2 m2 R2 s2 p q g m R s :=
  ⟨j.b, j.c2, j.c, fun b h k => j.d b k h⟩
/-- the first one has done something -/
theorem C2.step (j : C2 w0 w p q g m R s p2 q2 g2 m2 R2 s2) (hc : Cpy w' w0.heap.size p q g' m R s') (k : Chs (CM p q g m) w w') (n : Nw g g' w.heap.size) : C2 w0 w' p q g' m R s' p2 q2 g2 m2 R2 s2 := by
  refine ⟨j.b.trans (k.below j.c.own j.c.hb), hc, j.c2.apart k j.c.mine j.d, fun b hb h2 => ?_⟩
  rcases nw_cm n (Nat.le_refl _) hb with h | h
  · exact j.d b h h2
  · have := j.c2.lts b h2; omega
/-- a new one beside an elder one -/
theorem C2.make (hb : Below w0.heap.size w0 w) (h : Cpy w w0.heap.size p q g m R s) (hc : Cpy w' w0.heap.size p2 q2 none m2 R2 s2) (k : Below w.heap.size w w') (h1 : w.heap.size ≤ p2) (h2 : w.heap.size ≤ q2) (h3 : w.heap.size ≤ m2) : C2 w0 w' p q g m R s p2 q2 none m2 R2 s2 := by
  refine ⟨bcl hb k, h.keep k, hc, fun b hb h4 => ?_⟩
  have := h.lts b hb
  rcases h4 with h4 | h4 | h4 | h4
  · omega
  · omega
  · cases h4
  · omega
end
end Go.Proofs.YtfelefkmbbfdjaaGreatDoor
