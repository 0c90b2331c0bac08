/- Logs: a record's text; what a log is in memory. -/
import Derived.Test.YtpgemofkolmabaaGreatDoorCpAll
import Derived.Test.YtpgemofkolmabaaGreatDoorWord
namespace Go.Proofs.YtpgemofkolmabaaGreatDoor
open Go.ChangeShapes Go.WideShapes Go.ChangeAt Go.RowKit Go.Joins
set_option linter.unusedVariables false

/-- a number as text -/
def itB (n : Int) : ByteArray := ⟨(Lib.itoa n).toArray⟩
/-- a record without its end, and whole -/
def rcB (a : Ak) : ByteArray := jn [itB a.w, itB a.q, itB a.d, lin a.t] ⟨#[32]⟩
def recB (a : Ak) : ByteArray := rcB a ++ ⟨#[10]⟩
theorem itB_size {n : Int} (h0 : -9223372036854775808 ≤ n) (h1 : n ≤ 9223372036854775807) : (itB n).size ≤ 21 := by
  have h := Lib.itoa_length_le n h0 h1
  show (Lib.itoa n).toArray.size ≤ 21
  rw [List.size_toArray]; exact h
/-- what may be recorded -/
structure Rcd (a : Ak) : Prop where
  w0 : 0 ≤ a.w
  w1 : a.w ≤ 1000000
  q0 : 0 < a.q
  q1 : a.q ≤ 1000000
  d0 : 0 ≤ a.d
  d1 : a.d ≤ 2
  li : liE a.t = 0
theorem rcB_size {a : Ak} (h : Rcd a) : (rcB a).size ≤ 444 := by
  obtain ⟨_, h5, hr⟩ := rgt_of h.li
  have hl := lin_size hr a.t.length
  rw [List.take_length] at hl
  have := h.w0; have := h.w1; have := h.q0; have := h.q1; have := h.d0; have := h.d1
  refine Nat.le_trans (jn_size _ _ 110 fun x hx => ?_) (show 4 * (110 + 1) ≤ 444 by decide)
  simp only [List.mem_cons, List.not_mem_nil, or_false] at hx
  rcases hx with rfl | rfl | rfl | rfl
  · exact Nat.le_trans (itB_size (by omega) (by omega)) (by decide)
  · exact Nat.le_trans (itB_size (by omega) (by omega)) (by decide)
  · exact Nat.le_trans (itB_size (by omega) (by omega)) (by decide)
  · omega
theorem size_app (a b : ByteArray) : (a ++ b).size = a.size + b.size := ByteArray.size_append
theorem recB_size {a : Ak} (h : Rcd a) : (recB a).size ≤ 445 := by
  have := rcB_size h
  rw [recB, size_app]
  show (rcB a).size + 1 ≤ 445
  omega
theorem rcB_three (a : Ak) : 3 ≤ (rcB a).size := by
  have h3 : (rcB a).size = (Lib.join ([itB a.w, itB a.q, itB a.d, lin a.t].map (·.data.toList)) [32]).length := by simp [rcB, jn, ByteArray.size]
  rw [h3]
  simp only [List.map_cons, List.map_nil, Lib.join_cons, List.length_append, Lib.joinTail_length, List.length_cons, List.length_nil]
  omega
theorem recB_four (a : Ak) : 4 ≤ (recB a).size := by
  have := rcB_three a
  rw [recB, size_app]
  show 4 ≤ (rcB a).size + 1
  omega
/-- what a copy has done may be recorded -/
theorem rcd_of {R : List Ru} {s : Cs} {a : Ak} (hs : Cok s) (hn : s.n ≤ 999999) (h : doE R s a = 0) (hg : agB s a = false) : Rcd a := by
  obtain ⟨hq, h2 | ⟨_, h3, _⟩⟩ := doE_zero h
  · rw [hg] at h2; cases h2
  · obtain ⟨hw, hd, _, _, hli, _⟩ := qcE_zero hq
    have := whoB_true.1 hw
    have hd2 : 0 ≤ a.d ∧ a.d ≤ 2 := by
      simp only [deedB, Bool.and_eq_true, decide_eq_true_eq] at hd; exact hd
    have := hs.f0 a.w
    exact ⟨by omega, by omega, by omega, by omega, hd2.1, hd2.2, hli⟩

/-! ### in memory -/
structure Lg (w : World) (base P p q : Nat) (g : Option Nat) (m : Nat) (R : List Ru) (s : Cs) (b : ByteArray) (sf mn : Nat) (lf : Int) (st : Bool) : Prop where
  there : ∃ A c, AtB w P #[.slice A R.length c, .pointer (some ⟨p, 0, none⟩), .string b, .int .i64 sf, .int .i64 mn, .int .i64 lf, .bool st] 88 ∧ ROwn w base A c R
  cpy : Cpy w base p q g m R s
  hp : base ≤ P
def LM (P p q : Nat) (g : Option Nat) (m : Nat) (b : Nat) : Prop := b = P ∨ CM p q g m b
section
variable {w w' : World} {base P p q m : Nat} {g : Option Nat} {R : List Ru} {s : Cs} {b : ByteArray} {sf mn : Nat} {lf : Int} {st : Bool}
theorem Lg.hb (h : Lg w base P p q g m R s b sf mn lf st) : base ≤ w.heap.size := h.cpy.hb
theorem Lg.pkin (h : Lg w base P p q g m R s b sf mn lf st) : kin w P 88 := by obtain ⟨A, c, h1, _⟩ := h.there; exact h1.kin
/-- the log's own block is none of its copy's -/
theorem Lg.nocm (h : Lg w base P p q g m R s b sf mn lf st) : ¬ CM p q g m P := fun hb => by
  rcases hb with e | e | e | e
  · exact absurd (kin.ne h.pkin (e ▸ h.cpy.pkin)) (by decide)
  · exact absurd (kin.ne h.pkin (e ▸ h.cpy.spc.kin)) (by decide)
  · exact absurd (kin.ne h.pkin (h.cpy.spc.gkin e).2) (by decide)
  · exact not_kin_of_map h.cpy.map.isMap (e ▸ h.pkin)
theorem Lg.mine (h : Lg w base P p q g m R s b sf mn lf st) : ∀ x, LM P p q g m x → base ≤ x ∧ ¬ kin w x 30 ∧ ¬ kin w x 50 := fun x hx => by
  rcases hx with rfl | hx
  · exact ⟨h.hp, fun k => absurd (kin.ne k h.pkin) (by decide), fun k => absurd (kin.ne k h.pkin) (by decide)⟩
  · exact h.cpy.mine x hx
theorem Lg.keep (h : Lg w base P p q g m R s b sf mn lf st) (hb : Below w.heap.size w w') : Lg w' base P p q g m R s b sf mn lf st := by
  obtain ⟨A, c, h1, h2⟩ := h.there
  exact ⟨⟨A, c, h1.below hb h1.lt, h2.keep h.hb hb⟩, h.cpy.keep hb, h.hp⟩
/-- its copy has moved on -/
theorem Lg.copied {g' : Option Nat} {s' : Cs} (h : Lg w base P p q g m R s b sf mn lf st) (hc : Cpy w' base p q g' m R s') (k : Chs (CM p q g m) w w') : Lg w' base P p q g' m R s' b sf mn lf st := by
  obtain ⟨A, c, h1, h2⟩ := h.there
  refine ⟨⟨A, c, h1.chs k h.nocm, h2.stay h.hb k.size fun x hx hk => k.block x hx fun e => ?_⟩, hc, h.hp⟩
  obtain ⟨q1, q2, q3⟩ := h.cpy.mine x e
  rcases hk with hk | hk | hk
  · omega
  · exact q2 hk
  · exact q3 hk
/-- its own block is written anew -/
theorem Lg.wrote {b' : ByteArray} {sf' mn' : Nat} {lf' : Int} {st' : Bool} (h : Lg w base P p q g m R s b sf mn lf st) (k : Chs (fun x => x = P) w w')
    (hw : ∀ A c, AtB w P #[.slice A R.length c, .pointer (some ⟨p, 0, none⟩), .string b, .int .i64 sf, .int .i64 mn, .int .i64 lf, .bool st] 88 → AtB w' P #[.slice A R.length c, .pointer (some ⟨p, 0, none⟩), .string b', .int .i64 sf', .int .i64 mn', .int .i64 lf', .bool st'] 88) :
    Lg w' base P p q g m R s b' sf' mn' lf' st' := by
  obtain ⟨A, c, h1, h2⟩ := h.there
  have hm := h.mine P (.inl rfl)
  refine ⟨⟨A, c, hw A c h1, h2.stay h.hb k.size fun x hx hk => k.block x hx fun e => ?_⟩, h.cpy.apart k (fun x e => e ▸ hm) (fun x e => e ▸ h.nocm), h.hp⟩
  subst e
  rcases hk with hk | hk | hk
  · omega
  · exact hm.2.1 hk
  · exact hm.2.2 hk
end
end Go.Proofs.YtpgemofkolmabaaGreatDoor
