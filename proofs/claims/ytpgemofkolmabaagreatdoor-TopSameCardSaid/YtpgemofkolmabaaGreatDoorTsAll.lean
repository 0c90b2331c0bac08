/- A queue, a copy, a crowd and a log side by side. What is done to one of the four; the others stay. TopSame: the start, the crash, and what stands between the rounds. TopSame: the walk. -/
import Derived.Test.YtpgemofkolmabaaGreatDoorLsLog
import Derived.Test.YtpgemofkolmabaaGreatDoorCrAll
import Derived.Test.YtpgemofkolmabaaGreatDoorQuePop
import Derived.Test.YtpgemofkolmabaaGreatDoorTopOne
import Derived.WalkKit
import Derived.WalkLawsBesides
import Derived.WalkSpells
import Derived.RegionTactic
import Derived.Deep.QuietTactic
import Derived.BigQuiet
import Derived.BigRegion
import Derived.Outline
namespace Go.Proofs.YtpgemofkolmabaaGreatDoor
open Go.ChangeShapes Go.WideShapes Go.ChangeAt Go.RowKit Go.Joins Go.Deep
set_option linter.unusedVariables false

/-- nothing is both -/
def Dj (M N : Nat → Prop) : Prop := ∀ b, M b → ¬ N b
theorem Dj.symm {M N : Nat → Prop} (h : Dj M N) : Dj N M := fun b h1 h2 => h b h2 h1
theorem Dj.grow {M M' N : Nat → Prop} {z : Nat} (h : Dj M N) (hM : ∀ b, M' b → M b ∨ z ≤ b) (hN : ∀ b, N b → b < z) : Dj M' N := fun b h1 h2 => by
  rcases hM b h1 with h3 | h3
  · exact h b h3 h2
  · have := hN b h2; omega
/-- where the four lie -/
structure Fr where
  qp : Nat
  qg : Option Nat
  qm : Nat
  p : Nat
  q : Nat
  g : Option Nat
  m : Nat
  cp : Nat
  cA : Option Addr
  cc : Nat
  cD : Nat → Dq
  P : Nat
  p4 : Nat
  q4 : Nat
  g4 : Option Nat
  m4 : Nat
def Fr.M1 (f : Fr) : Nat → Prop := QM f.qp f.qg f.qm
def Fr.M2 (f : Fr) : Nat → Prop := CM f.p f.q f.g f.m
def Fr.M3 (f : Fr) : Nat → Prop := CrM f.cD 4
def Fr.M4 (f : Fr) : Nat → Prop := LM f.P f.p4 f.q4 f.g4 f.m4
structure TS (w0 w : World) (f : Fr) (n : Nat) (QL : List Ak) (QF : Int → Int) (R : List Ru) (s2 s3 s4 : Cs) (b : ByteArray) (sf mn : Nat) : Prop where
  b0 : Below w0.heap.size w0 w
  qu : Que w w0.heap.size f.qp f.qg f.qm n QL QF
  cpy : Cpy w w0.heap.size f.p f.q f.g f.m R s2
  crw : Crw w w0.heap.size f.cp f.cA f.cc 4 f.cD R (fun _ => s3)
  lg : Lg w w0.heap.size f.P f.p4 f.q4 f.g4 f.m4 R s4 b sf mn (-1) false
  d12 : Dj f.M1 f.M2
  d13 : Dj f.M1 f.M3
  d14 : Dj f.M1 f.M4
  d23 : Dj f.M2 f.M3
  d24 : Dj f.M2 f.M4
  d34 : Dj f.M3 f.M4
section
variable {w0 w w' : World} {f : Fr} {n : Nat} {QL : List Ak} {QF : Int → Int} {R : List Ru} {s2 s3 s4 : Cs} {b : ByteArray} {sf mn : Nat}
theorem TS.hb (h : TS w0 w f n QL QF R s2 s3 s4 b sf mn) : w0.heap.size ≤ w.heap.size := h.b0.size
theorem que_lts {base p m n : Nat} {g : Option Nat} {L : List Ak} {F : Int → Int} (h : Que w base p g m n L F) : ∀ b, QM p g m b → b < w.heap.size := fun b hb => by
  rcases hb with rfl | hb | rfl
  · exact h.pkin.lt
  · exact (h.gkin hb).2.lt
  · exact h.map.lt
theorem que_nk {base p m n : Nat} {g : Option Nat} {L : List Ak} {F : Int → Int} (h : Que w base p g m n L F) {t : TypeId} (h1 : t ≠ 135) (h2 : t ≠ 33) : ∀ b, QM p g m b → ¬ kin w b t := fun b hb => by
  rcases hb with rfl | hb | rfl
  · exact fun k => h1 (kin.ne k h.pkin)
  · exact fun k => h2 (kin.ne k (h.gkin hb).2)
  · exact fun k => not_kin_of_map h.map.isMap k
theorem lg_lts {base P p q m sf mn : Nat} {g : Option Nat} {s : Cs} {b : ByteArray} {lf : Int} {st : Bool} (h : Lg w base P p q g m R s b sf mn lf st) : ∀ x, LM P p q g m x → x < w.heap.size := fun x hx => by
  rcases hx with rfl | hx
  · exact h.pkin.lt
  · exact h.cpy.lts x hx
theorem lg_nk {base P p q m sf mn : Nat} {g : Option Nat} {s : Cs} {b : ByteArray} {lf : Int} {st : Bool} (h : Lg w base P p q g m R s b sf mn lf st) {t : TypeId} (h0 : t ≠ 88) (h1 : t ≠ 139) (h2 : t ≠ 151) (h3 : t ≠ 31) : ∀ x, LM P p q g m x → ¬ kin w x t := fun x hx => by
  rcases hx with rfl | hx
  · exact fun k => h0 (kin.ne k h.pkin)
  · exact h.cpy.nk h1 h2 h3 x hx
/-- a log stays where none of its blocks is changed -/
theorem lg_far {base P p q m sf mn : Nat} {g : Option Nat} {s : Cs} {b : ByteArray} {lf : Int} {st : Bool} {M : Nat → Prop} (h : Lg w base P p q g m R s b sf mn lf st) (k : Chs M w w') (hM : ∀ x, M x → base ≤ x ∧ ¬ kin w x 30 ∧ ¬ kin w x 50) (hd : Dj M (LM P p q g m)) : Lg w' base P p q g m R s b sf mn lf st := by
  obtain ⟨A, c, h1, h2⟩ := h.there
  refine ⟨⟨A, c, h1.chs k fun e => hd P e (.inl rfl), h2.stay h.hb k.size fun x hx hk => k.block x hx fun e => ?_⟩, h.cpy.apart k hM fun x hx e => hd x hx (.inr e), h.hp⟩
  obtain ⟨q1, q2, q3⟩ := hM x e
  rcases hk with hk | hk | hk
  · omega
  · exact q2 hk
  · exact q3 hk
theorem crw_far {base p c n : Nat} {A : Option Addr} {D : Nat → Dq} {S : Nat → Cs} {M : Nat → Prop} (h : Crw w base p A c n D R S) (k : Chs M w w') (hM : ∀ x, M x → base ≤ x ∧ ¬ kin w x 30 ∧ ¬ kin w x 50) (hd : Dj M (CrM D n)) (hk : ∀ x, M x → ¬ kin w x 143 ∧ ¬ kin w x 73) : Crw w' base p A c n D R S :=
  h.far k hM hd fun x hx => ⟨fun e => (hk x hx).1 (by rw [e]; exact h.there.kin), fun e => (hk x hx).2 (own_block_of h.arr e).2⟩
theorem TS.keep (h : TS w0 w f n QL QF R s2 s3 s4 b sf mn) (k : Below w.heap.size w w') : TS w0 w' f n QL QF R s2 s3 s4 b sf mn :=
  ⟨bcl h.b0 k, h.qu.keep k, h.cpy.keep k, h.crw.keep k, h.lg.keep k, h.d12, h.d13, h.d14, h.d23, h.d24, h.d34⟩
/-- the queue has moved on -/
theorem TS.ofQ (h : TS w0 w f n QL QF R s2 s3 s4 b sf mn) {g' : Option Nat} {n' : Nat} {QL' : List Ak} {QF' : Int → Int} (hq : Que w' w0.heap.size f.qp g' f.qm n' QL' QF') (k : Chs f.M1 w w') (hn : ∀ x, QM f.qp g' f.qm x → f.M1 x ∨ w.heap.size ≤ x) :
    TS w0 w' { f with qg := g' } n' QL' QF' R s2 s3 s4 b sf mn := by
  have hM : ∀ x, f.M1 x → w0.heap.size ≤ x ∧ ¬ kin w x 30 ∧ ¬ kin w x 50 := fun x hx => ⟨h.qu.own x hx, que_nk h.qu (by decide) (by decide) x hx, que_nk h.qu (by decide) (by decide) x hx⟩
  exact ⟨h.b0.trans (k.below (fun x hx => h.qu.own x hx) h.hb), hq, h.cpy.apart k hM h.d12, crw_far h.crw k hM h.d13 (fun x hx => ⟨que_nk h.qu (by decide) (by decide) x hx, que_nk h.qu (by decide) (by decide) x hx⟩), lg_far h.lg k hM h.d14,
    h.d12.grow hn h.cpy.lts, h.d13.grow hn h.crw.lts, h.d14.grow hn (lg_lts h.lg), h.d23, h.d24, h.d34⟩
/-- the copy has moved on -/
theorem TS.ofC (h : TS w0 w f n QL QF R s2 s3 s4 b sf mn) {g' : Option Nat} {s' : Cs} (hc : Cpy w' w0.heap.size f.p f.q g' f.m R s') (k : Chs f.M2 w w') (hn : ∀ x, CM f.p f.q g' f.m x → f.M2 x ∨ w.heap.size ≤ x) :
    TS w0 w' { f with g := g' } n QL QF R s' s3 s4 b sf mn := by
  have hM : ∀ x, f.M2 x → w0.heap.size ≤ x ∧ ¬ kin w x 30 ∧ ¬ kin w x 50 := h.cpy.mine
  exact ⟨h.b0.trans (k.below (fun x hx => (hM x hx).1) h.hb), h.qu.far k (fun x hx => ⟨(hM x hx).1, (hM x hx).2.1, h.d12.symm x hx⟩), hc, crw_far h.crw k hM h.d23 (fun x hx => ⟨h.cpy.nk (by decide) (by decide) (by decide) x hx, h.cpy.nk (by decide) (by decide) (by decide) x hx⟩), lg_far h.lg k hM h.d24,
    (h.d12.symm.grow hn (que_lts h.qu)).symm, h.d13, h.d14, h.d23.grow hn h.crw.lts, h.d24.grow hn (lg_lts h.lg), h.d34⟩
/-- the crowd has moved on -/
theorem TS.ofR (h : TS w0 w f n QL QF R s2 s3 s4 b sf mn) {D' : Nat → Dq} {s' : Cs} (hc : Crw w' w0.heap.size f.cp f.cA f.cc 4 D' R (fun _ => s')) (k : Chs f.M3 w w') (hn : ∀ x, CrM D' 4 x → f.M3 x ∨ w.heap.size ≤ x) :
    TS w0 w' { f with cD := D' } n QL QF R s2 s' s4 b sf mn := by
  have hM : ∀ x, f.M3 x → w0.heap.size ≤ x ∧ ¬ kin w x 30 ∧ ¬ kin w x 50 := h.crw.mine
  exact ⟨h.b0.trans (k.below (fun x hx => (hM x hx).1) h.hb), h.qu.far k (fun x hx => ⟨(hM x hx).1, (hM x hx).2.1, h.d13.symm x hx⟩), h.cpy.apart k hM h.d23.symm, hc, lg_far h.lg k hM h.d34,
    h.d12, (h.d13.symm.grow hn (que_lts h.qu)).symm, h.d14, (h.d23.symm.grow hn h.cpy.lts).symm, h.d24, h.d34.grow hn (lg_lts h.lg)⟩
/-- the log has moved on -/
theorem TS.ofL (h : TS w0 w f n QL QF R s2 s3 s4 b sf mn) {p4 q4 m4 : Nat} {g4 : Option Nat} {s' : Cs} {b' : ByteArray} {sf' mn' : Nat} (hl : Lg w' w0.heap.size f.P p4 q4 g4 m4 R s' b' sf' mn' (-1) false) (k : Chs f.M4 w w') (hn : ∀ x, LM f.P p4 q4 g4 m4 x → f.M4 x ∨ w.heap.size ≤ x) :
    TS w0 w' { f with p4 := p4, q4 := q4, g4 := g4, m4 := m4 } n QL QF R s2 s3 s' b' sf' mn' := by
  have hM : ∀ x, f.M4 x → w0.heap.size ≤ x ∧ ¬ kin w x 30 ∧ ¬ kin w x 50 := h.lg.mine
  exact ⟨h.b0.trans (k.below (fun x hx => (hM x hx).1) h.hb), h.qu.far k (fun x hx => ⟨(hM x hx).1, (hM x hx).2.1, h.d14.symm x hx⟩), h.cpy.apart k hM h.d24.symm, crw_far h.crw k hM h.d34.symm (fun x hx => ⟨lg_nk h.lg (by decide) (by decide) (by decide) (by decide) x hx, lg_nk h.lg (by decide) (by decide) (by decide) (by decide) x hx⟩), hl,
    h.d12, h.d13, (h.d14.symm.grow hn (que_lts h.qu)).symm, h.d23, (h.d24.symm.grow hn h.cpy.lts).symm, (h.d34.symm.grow hn h.crw.lts).symm⟩
end
end Go.Proofs.YtpgemofkolmabaaGreatDoor
namespace Go.Proofs.YtpgemofkolmabaaGreatDoor
open Go.ChangeShapes Go.WideShapes Go.ChangeAt Go.RowKit Go.Joins Go.Deep
set_option linter.unusedVariables false
theorem nw_imp {g g' : Option Nat} {z x : Nat} (h : Nw g g' z) (hx : g' = some x) : g = some x ∨ z ≤ x := by
  rcases h with h | ⟨b, h, hz⟩
  · exact .inl (h ▸ hx)
  · rw [hx] at h
    injection h with h
    exact .inr (by omega)
/-- a box of an ask stays -/
def BxS (w w' : World) : Prop := ∀ bx cs, AtB w bx cs 33 → AtB w' bx cs 33
theorem BxS.of {M : Nat → Prop} {w w' : World} (k : Chs M w w') (hM : ∀ x, M x → ¬ kin w x 33) : BxS w w' := fun bx cs h => h.chs k fun e => hM bx e h.kin
theorem BxS.below {w w' : World} (k : Below w.heap.size w w') : BxS w w' := fun bx cs h => h.below k h.lt
section
variable {w0 w : World} {f : Fr} {n : Nat} {QL : List Ak} {QF : Int → Int} {R : List Ru} {s2 s3 s4 : Cs} {b : ByteArray} {sf mn : Nat}
theorem ts_push (h : TS w0 w f n QL QF R s2 s3 s4 b sf mn) (hn : n ≤ 1000000) (a : Ak) (A : Option Addr) (c : Nat) (hm : a.t.length ≤ maxLen) (hok : okL a.t) (hq64 : I64 a.q) (hA : Vals w A a.t) :
    Calls Tryz.prog 33 #[.pointer (some ⟨f.qp, 0, none⟩), akv a A c] w fun e w' => e = .returned (eV (puE QL QF a)) ∧
      ∃ g', TS w0 w' { f with qg := g' } (if puE QL QF a = 0 then n + 1 else n) (if puE QL QF a = 0 then QL ++ [a] else QL) (if puE QL QF a = 0 then (fun y => if y = a.w then a.q else QF y) else QF) R s2 s3 s4 b sf mn := by
  refine (qpush_any _ f.qp f.qm n f.qg QL QF a hq64 A c hm hok hn w h.qu hA).mono ?_
  rintro e w' ⟨he, g', hq, hc, hnw⟩
  exact ⟨he, g', h.ofQ hq hc fun x hx => by
    rcases hx with rfl | hx | rfl
    · exact .inl (.inl rfl)
    · exact (nw_imp hnw hx).imp (fun e => .inr (.inl e)) id
    · exact .inl (.inr (.inr rfl))⟩
theorem ts_pop {a : Ak} (h : TS w0 w f n (a :: QL) QF R s2 s3 s4 b sf mn) :
    Calls Tryz.prog 34 #[.pointer (some ⟨f.qp, 0, none⟩)] w fun e w' => ∃ B C, e = .returned (.tuple #[akv a B C, .nilIface]) ∧ Vin w' w0.heap.size B a.t ∧ TS w0 w' f n QL QF R s2 s3 s4 b sf mn := by
  refine (qpop_ok _ f.qp f.qm n f.qg a QL QF w h.qu).mono ?_
  rintro e w' ⟨B, C, he, hv, _, _, hi, hq, hc⟩
  exact ⟨B, C, he, ⟨hv, fun _ => hi⟩, h.ofQ hq (hc.mono fun x e => .inl e) fun x hx => .inl hx⟩
theorem ts_cdo (h : TS w0 w f n QL QF R s2 s3 s4 b sf mn) (ht : ∀ W, Below w0.heap.size w0 W → LT W) (hn : s2.n ≤ 1000000) (a : Ak) (A : Option Addr) (c : Nat) (hm : a.t.length ≤ maxLen) (hok : okL a.t) (hq64 : I64 a.q) (hV : Vin w w0.heap.size A a.t) :
    Calls Tryz.prog 35 #[.pointer (some ⟨f.p, 0, none⟩), akv a A c] w fun e w' => e = .returned (.tuple #[.string (doS R s2 a), eV (doE R s2 a)]) ∧ Vin w' w0.heap.size A a.t ∧ BxS w w' ∧ ∃ g', TS w0 w' { f with g := g' } n QL QF R (doC R s2 a) s3 s4 b sf mn := by
  refine (cpdo_any h.cpy (fun W hW => (ht W (h.b0.trans hW)).1) hn a A c hm hok hq64 hV.1).mono ?_
  rintro e w' ⟨he, g', hq, hc, hnw⟩
  exact ⟨he, hV.chsV h.hb hc fun x hx => ⟨(h.cpy.mine x hx).1, (h.cpy.mine x hx).2.1⟩, BxS.of hc (fun x hx => h.cpy.nk (by decide) (by decide) (by decide) x hx), g', h.ofC hq hc fun x hx => by
    rcases hx with rfl | rfl | hx | rfl
    · exact .inl (.inl rfl)
    · exact .inl (.inr (.inl rfl))
    · exact (nw_imp hnw hx).imp (fun e => .inr (.inr (.inl e))) id
    · exact .inl (.inr (.inr (.inr rfl)))⟩
theorem ts_rdo (h : TS w0 w f n QL QF R s2 s3 s4 b sf mn) (ht : ∀ W, Below w0.heap.size w0 W → LT W) (hn : s3.n ≤ 1000000) (a : Ak) (A : Option Addr) (c : Nat) (hm : a.t.length ≤ maxLen) (hok : okL a.t) (hq64 : I64 a.q) (hV : Vin w w0.heap.size A a.t)
    (LA : Option Addr) (lc : Nat) (lies : List ByteArray) (hl : lies.length ≤ 4) (hL : ∀ W, Chs (CrM f.cD 4) w W → Strs W LA lies) (hls : ∀ i, i < lies.length → (gs lies i).size ≤ maxLen) :
    Calls Tryz.prog 36 #[.pointer (some ⟨f.cp, 0, none⟩), akv a A c, .slice LA lies.length lc] w fun e w' => e = .returned (if doE R s3 a = 0 then winV (sayL lies (doS R s3 a) 4) ((((4 : Nat) : Int) - 1) / 3 + 1) else .tuple #[.string ⟨#[]⟩, errV (doE R s3 a)]) ∧ Vin w' w0.heap.size A a.t ∧ BxS w w' ∧ ∃ D', TS w0 w' { f with cD := D' } n QL QF R s2 (doC R s3 a) s4 b sf mn := by
  refine (crdo_any h.crw (by decide) (by decide) (fun W hW => (ht W (h.b0.trans hW)).1) hn a A c hm hok hq64 hV LA lc lies hl hL hls).mono ?_
  rintro e w' ⟨he, D', hq, hc, hnw⟩
  exact ⟨he, hV.chsV h.hb hc fun x hx => ⟨(h.crw.mine x hx).1, (h.crw.mine x hx).2.1⟩, BxS.of hc (fun x hx => h.crw.nk (by decide) (by decide) (by decide) x hx), D', h.ofR hq hc hnw⟩
theorem ts_ldo (h : TS w0 w f n QL QF R s2 s3 s4 b sf mn) (ht : ∀ W, Below w0.heap.size w0 W → LT W) (hn : s4.n ≤ 999999) (a : Ak) (A : Option Addr) (c : Nat) (hm : a.t.length ≤ maxLen) (hok : okL a.t) (hw64 : I64 a.w) (hq64 : I64 a.q) (hV : Vin w w0.heap.size A a.t) (hmn : mn < 30) (hbs : b.size ≤ 1000000) (hg : agB s4 a = false) :
    Calls Tryz.prog 12 #[.pointer (some ⟨f.P, 0, none⟩), akv a A c] w fun e w' => e = .returned (.tuple #[.string (doS R s4 a), eV (doE R s4 a)]) ∧ BxS w w' ∧ ∃ f', f'.qp = f.qp ∧ f'.p = f.p ∧ f'.cp = f.cp ∧ f'.P = f.P ∧ TS w0 w' f' n QL QF R s2 s3 (doC R s4 a) (if doE R s4 a = 0 then b ++ recB a else b) sf (if doE R s4 a = 0 then mn + 1 else mn) := by
  have htt : ∀ W, Below w0.heap.size w W → TT W := fun W hW => (ht W (h.b0.trans hW)).1
  by_cases hE : doE R s4 a = 0
  · rw [hE, eV_zero]
    refine (lgdo_new h.lg htt hn a A c hm hok hw64 hq64 hV hE hg (by omega) (by omega) (by decide) (by decide) (by decide) hbs).mono ?_
    rintro e w' ⟨he, g', hq, hc, hnw⟩
    refine ⟨he, BxS.of hc (fun x hx => lg_nk h.lg (by decide) (by decide) (by decide) (by decide) x hx), { f with g4 := g' }, rfl, rfl, rfl, rfl, ?_⟩
    have := h.ofL hq hc fun x hx => by
      rcases hx with rfl | rfl | rfl | hx | rfl
      · exact .inl (.inl rfl)
      · exact .inl (.inr (.inl rfl))
      · exact .inl (.inr (.inr (.inl rfl)))
      · exact (nw_imp hnw hx).imp (fun e => .inr (.inr (.inr (.inl e)))) id
      · exact .inl (.inr (.inr (.inr (.inr rfl))))
    rw [if_pos rfl, if_pos rfl]
    exact this
  · have hC : doC R s4 a = s4 := by rw [doC, if_pos (.inl hE)]
    rw [hC, if_neg hE, if_neg hE]
    refine (lgdo_no h.lg htt (by omega) a A c hm hok hw64 hq64 hV.1 (.inl hE)).mono ?_
    rintro e w' ⟨he, g', hq, hc, hnw⟩
    refine ⟨he, BxS.of hc (fun x hx => lg_nk h.lg (by decide) (by decide) (by decide) (by decide) x hx), { f with g4 := g' }, rfl, rfl, rfl, rfl, h.ofL hq hc fun x hx => ?_⟩
    rcases hx with rfl | rfl | rfl | hx | rfl
    · exact .inl (.inl rfl)
    · exact .inl (.inr (.inl rfl))
    · exact .inl (.inr (.inr (.inl rfl)))
    · exact (nw_imp hnw hx).imp (fun e => .inr (.inr (.inr (.inl e)))) id
    · exact .inl (.inr (.inr (.inr (.inr rfl))))
theorem ts_cmark (h : TS w0 w f n QL QF R s2 s3 s4 b sf mn) (ht : ∀ W, Below w0.heap.size w0 W → LT W) :
    Calls Tryz.prog 37 #[.pointer (some ⟨f.p, 0, none⟩)] w fun e w' => e = .returned (.tuple #[.int .i64 s2.n, .int .i64 (mkV s2)]) ∧ TS w0 w' f n QL QF R s2 s3 s4 b sf mn :=
  (cpmark_any h.cpy (fun W hW => (ht W (h.b0.trans hW)).1)).mono fun e w' ⟨h1, h2⟩ => ⟨h1, h.keep h2⟩
theorem ts_lmark (h : TS w0 w f n QL QF R s2 s3 s4 b sf mn) (ht : ∀ W, Below w0.heap.size w0 W → LT W) :
    Calls Tryz.prog 22 #[.pointer (some ⟨f.P, 0, none⟩)] w fun e w' => e = .returned (.tuple #[.int .i64 s4.n, .int .i64 (mkV s4)]) ∧ TS w0 w' f n QL QF R s2 s3 s4 b sf mn :=
  (lgmark_any h.lg (fun W hW => (ht W (h.b0.trans hW)).1)).mono fun e w' ⟨h1, h2⟩ => ⟨h1, h.keep h2⟩
set_option maxHeartbeats 800000 in
set_option maxRecDepth 100000 in
theorem crmark_ok {base p c n : Nat} {A : Option Addr} {D : Nat → Dq} {s : Cs} (hC : Crw w base p A c n D R (fun _ => s)) (ht : ∀ W, Below base w W → TT W) (k : Nat) (h1 : k < n) (n7 : n ≤ 7) :
    Calls Tryz.prog 38 #[.pointer (some ⟨p, 0, none⟩), .int .i64 k] w fun e w' => e = .returned (.tuple #[.int .i64 s.n, .int .i64 (mkV s), .nilIface]) ∧ Below w.heap.size w w' := by
  have p0 : w.cell? ⟨p, 0, none⟩ = some (.slice A n c) := hC.there.cell rfl
  have h0 : (0 : Int) ≤ (k : Int) := by omega
  obtain ⟨g, rfl, hgz, hc⟩ := hC.at_ h1
  have i1 : (k : Int) < (n : Int) := by omega
  have hcm := cpmark_any (hC.cp k h1) ht
  have CM_ := Lib.hid hcm
  clear hcm hC ht
  go_enter Tryz.func38, Tryz.ntmps38
  go_wp2_with (go_at_call 37; refine CM_.out.mono ?_; rintro e w2 ⟨rfl, hb2⟩)
  go_ret3
  exact ⟨rfl, hb2⟩
theorem ts_rmark (h : TS w0 w f n QL QF R s2 s3 s4 b sf mn) (ht : ∀ W, Below w0.heap.size w0 W → LT W) (k : Nat) (hk : k < 4) :
    Calls Tryz.prog 38 #[.pointer (some ⟨f.cp, 0, none⟩), .int .i64 k] w fun e w' => e = .returned (.tuple #[.int .i64 s3.n, .int .i64 (mkV s3), .nilIface]) ∧ TS w0 w' f n QL QF R s2 s3 s4 b sf mn :=
  (crmark_ok h.crw (fun W hW => (ht W (h.b0.trans hW)).1) k hk (by decide)).mono fun e w' ⟨h1, h2⟩ => ⟨h1, h.keep h2⟩
theorem ts_sync (h : TS w0 w f n QL QF R s2 s3 s4 b sf mn) :
    Calls Tryz.prog 20 #[.pointer (some ⟨f.P, 0, none⟩)] w fun e w' => e = .returned .nilIface ∧ TS w0 w' f n QL QF R s2 s3 s4 b b.size mn := by
  refine (lgsync_ok h.lg (by decide) (by decide) (by decide)).mono ?_
  rintro e w' ⟨he, hq, hc⟩
  exact ⟨he, h.ofL hq (hc.mono fun x e => .inl e) fun x hx => .inl hx⟩
end
end Go.Proofs.YtpgemofkolmabaaGreatDoor
namespace Go.Proofs.YtpgemofkolmabaaGreatDoor
open Go.ChangeShapes Go.WideShapes Go.ChangeAt Go.RowKit Go.Joins Go.Deep
set_option linter.unusedVariables false
theorem cm_ge {p q m z : Nat} (h1 : z ≤ p) (h2 : z ≤ q) (h3 : z ≤ m) : ∀ b, CM p q none m b → z ≤ b := fun b hb => by
  rcases hb with rfl | rfl | hb | rfl
  · exact h1
  · exact h2
  · cases hb
  · exact h3
theorem Dj.of_lt {M N : Nat → Prop} {z : Nat} (h1 : ∀ b, M b → b < z) (h2 : ∀ b, N b → z ≤ b) : Dj M N := fun b k1 k2 => by have := h1 b k1; have := h2 b k2; omega
theorem ts_start {w0 w1 w2 w3 w4 : World} {R : List Ru} {qp qm p q m cp cc P p4 q4 m4 : Nat} {cA : Option Addr} {cD : Nat → Dq} (hb1 : Below w0.heap.size w0 w1) (hq : Que w1 w0.heap.size qp none qm 0 [] (fun _ => 0))
    (k2 : Below w1.heap.size w1 w2) (hc : Cpy w2 w0.heap.size p q none m R Cs.zero) (g1 : w1.heap.size ≤ p) (g2 : w1.heap.size ≤ q) (g3 : w1.heap.size ≤ m)
    (k3 : Below w2.heap.size w2 w3) (hr : Crw w3 w0.heap.size cp cA cc 4 cD R (fun _ => Cs.zero)) (g4 : ∀ b, CrM cD 4 b → w2.heap.size ≤ b)
    (k4 : Below w3.heap.size w3 w4) (hl : Lg w4 w0.heap.size P p4 q4 none m4 R Cs.zero ⟨#[]⟩ 0 0 (-1) false) (g5 : w3.heap.size ≤ P) (g6 : w3.heap.size ≤ p4) (g7 : w3.heap.size ≤ q4) (g8 : w3.heap.size ≤ m4) :
    TS w0 w4 ⟨qp, none, qm, p, q, none, m, cp, cA, cc, cD, P, p4, q4, none, m4⟩ 0 [] (fun _ => 0) R Cs.zero Cs.zero Cs.zero ⟨#[]⟩ 0 0 := by
  have gl : ∀ b, LM P p4 q4 none m4 b → w3.heap.size ≤ b := fun b hb => by
    rcases hb with rfl | hb
    · exact g5
    · exact cm_ge g6 g7 g8 b hb
  have z1 := k2.size
  have z2 := k3.size
  have l1 := que_lts hq
  have l2 := hc.lts
  have l3 := hr.lts
  have gc := cm_ge g1 g2 g3
  exact ⟨bcl (bcl (bcl hb1 k2) k3) k4, ((hq.keep k2).keep k3).keep k4, (hc.keep k3).keep k4, hr.keep k4, hl, Dj.of_lt l1 gc, Dj.of_lt l1 (fun b hb => Nat.le_trans z1 (g4 b hb)), Dj.of_lt l1 (fun b hb => Nat.le_trans (Nat.le_trans z1 z2) (gl b hb)),
    Dj.of_lt l2 g4, Dj.of_lt l2 (fun b hb => Nat.le_trans z2 (gl b hb)), Dj.of_lt l3 gl⟩
theorem ts_crash {w0 w : World} {f : Fr} {n : Nat} {QL : List Ak} {QF : Int → Int} {R : List Ru} {s2 s3 : Cs} {D : List Ak} (h : TS w0 w f n QL QF R s2 s3 (cpD R D) (recs D) (recs D).size D.length) (ht : ∀ W, Below w0.heap.size w0 W → LT W) (hD : VdD R D) (hl : D.length ≤ 30) (keep : Int) :
    Calls Tryz.prog 21 #[.pointer (some ⟨f.P, 0, none⟩), .int .i64 keep] w fun e w' => (∃ v, e = .returned v) ∧ ∃ f', f'.p = f.p ∧ f'.P = f.P ∧ TS w0 w' f' n QL QF R s2 s3 (cpD R D) (recs D) (recs D).size D.length := by
  have hj : recs D ++ ⟨#[]⟩ = recs D := bytes_eq (by simp)
  have hlg := h.lg
  rw [← hj] at hlg
  refine (lgcrash hlg (lt_up ht h.b0) hD hl (fun x hx => by simp at hx) (by decide) (by rw [hj]; exact Nat.le_refl _) keep).mono ?_
  rintro e w' ⟨he, k, p', q', m', g', hk, h3, h4, h5⟩
  have hk2 : k = D.length := by
    rcases Nat.lt_or_ge k D.length with hlt | hge
    · have := hk.2.2 D.length hlt (Nat.le_refl _)
      rw [List.take_length] at this
      unfold hiN at this
      rw [hj] at this
      omega
    · exact Nat.le_antisymm hk.1 hge
  subst hk2
  rw [List.take_length] at h3
  exact ⟨he, { f with p4 := p', q4 := q', g4 := g', m4 := m' }, rfl, rfl, h.ofL h3 (h4.mono fun x e => .inl e) fun x hx => by
    rcases hx with rfl | hx
    · exact .inl (.inl rfl)
    · exact .inr (h5 x hx)⟩
theorem win_four (S lie : ByteArray) : winV (sayL [⟨#[]⟩, ⟨#[]⟩, lie] S 4) 2 = .tuple #[.string S, .nilIface] := by
  have h0 : gs (sayL [⟨#[]⟩, ⟨#[]⟩, lie] S 4) 0 = S := by
    rw [sayL_at _ _ (by decide), sy, if_neg (by rintro ⟨_, h⟩; exact h rfl)]
  have h1 : gs (sayL [⟨#[]⟩, ⟨#[]⟩, lie] S 4) 1 = S := by
    rw [sayL_at _ _ (by decide), sy, if_neg (by rintro ⟨_, h⟩; exact h rfl)]
  have hw : wn (sayL [⟨#[]⟩, ⟨#[]⟩, lie] S 4) 2 2 = some 1 := by
    simp [wn, cn, h0, h1]
  rw [winV, sayL_length, wn_some hw (by decide)]
  show Value.tuple #[.string (gs _ 1), .nilIface] = _
  rw [h1]
/-- what stands ahead of a round -/
def TJ (w0 : World) (qp p cp P : Nat) (R : List Ru) (i : Nat) (D : List Ak) (W : World) : Prop := ∃ f n QF, f.qp = qp ∧ f.p = p ∧ f.cp = cp ∧ f.P = P ∧ n ≤ i ∧ TS w0 W f n [] QF R (cpD R D) (cpD R D) (cpD R D) (recs D) 0 D.length ∧ VdD R D ∧ D.length ≤ i ∧ ∀ x, ((cpD R D).F x).1 ≤ QF x
theorem pu_zero {QF : Int → Int} {a : Ak} (h : puE [] QF a = 0) : a.q = QF a.w + 1 := by
  unfold puE at h
  split at h
  · rename_i h1; exact absurd h h1
  · split at h
    · cases h
    · split at h
      · cases h
      · omega
/-- the deeds done, behind a round that let a deed through -/
def dnD (R : List Ru) (D : List Ak) (a : Ak) : List Ak := if doE R (cpD R D) a = 0 then D ++ [a] else D
theorem no_again {QF : Int → Int} {s : Cs} {a : Ak} (h : puE [] QF a = 0) (hF : ∀ x, (s.F x).1 ≤ QF x) : agB s a = false := by
  have h1 := pu_zero h
  have h2 := hF a.w
  unfold agB
  rw [Bool.and_eq_false_iff]
  left
  exact decide_eq_false (by omega)
theorem dnD_c {R : List Ru} {D : List Ak} {a : Ak} : cpD R (dnD R D a) = doC R (cpD R D) a := by
  unfold dnD
  by_cases h : doE R (cpD R D) a = 0
  · rw [if_pos h, cpD_snoc]
  · rw [if_neg h, doC, if_pos (.inl h)]
theorem dnD_f {QF : Int → Int} {R : List Ru} {D : List Ak} {a : Ak} (h : puE [] QF a = 0) (hF : ∀ x, ((cpD R D).F x).1 ≤ QF x) : ∀ x, ((cpD R (dnD R D a)).F x).1 ≤ if x = a.w then a.q else QF x := fun x => by
  have h1 := pu_zero h
  have h2 := hF x
  rw [dnD_c, doC]
  split
  · split
    · rename_i e; subst e; omega
    · exact h2
  · show ((if x = a.w then (a.q, nwS (cpD R D) a) else (cpD R D).F x) : Int × ByteArray).1 ≤ _
    split
    · exact Int.le_refl _
    · exact h2
end Go.Proofs.YtpgemofkolmabaaGreatDoor
namespace Go.Proofs.YtpgemofkolmabaaGreatDoor.topSame
open Go.ChangeShapes Go.WideShapes Go.ChangeAt Go.RowKit Go.Joins Go.Deep
set_option linter.unusedVariables false

set_option maxHeartbeats 800000 in
set_option maxRecDepth 100000 in
theorem crnew_rules (n : Nat) (n1 : 1 ≤ n) (n7 : n ≤ 7) (RA : Option Addr) (rc : Nat) (l : List Ru) (hm : l.length ≤ maxLen) (w : World) (hA : Rls w RA l) (hr : rulE l ≠ 0) (ho : okR l) :
    Calls Tryz.prog 32 #[.int .i64 n, .slice RA l.length rc] w fun e w' => e = .returned (.tuple #[.pointer none, errV (rulE l)]) ∧ Below w.heap.size w w' := by
  have cc := copies_any (n : Int)
  rw [show copB (n : Int) = true from copB_true.2 ⟨by omega, by omega⟩] at cc
  have cn := fun (W : World) (hW : Below w.heap.size w W) => cpnew_no (w := W) RA rc l hm (hA.below hW (Nat.le_refl _)) hr ho
  have CC := Lib.hid cc; have CN := Lib.hid cn
  have i1 : (0 : Int) < (n : Int) := by omega
  clear cc cn hA hr ho hm
  generalize rulE l = E at *
  have hb0 : Below w.heap.size w (w.alloc (.cells #[.slice none 0 0] 143)) := bal1 _ _
  have HB0 := Lib.hid hb0
  clear hb0
  go_enter Tryz.func32, Tryz.ntmps32
  go_wp2_with (go_at_call 71; refine (CC.out _).mono ?_; rintro e w1 ⟨rfl, rfl⟩)
  go_loopw [7, 8, 16] (fun _ _ s16 wr => s16 = .int .i64 0 ∧ wr = w.alloc (.cells #[.slice none 0 0] 143)) (fun _ _ _ _ => 0)
  case atStart => exact ⟨rfl, rfl⟩
  case round =>
    obtain ⟨rfl, rfl⟩ := hrel
    go_wp2_with (go_at_call 31; refine (CN.out _ HB0.out).mono ?_; rintro e w2 ⟨rfl, hb2⟩)
    go_ret2
    exact ⟨rfl, bcl HB0.out hb2⟩
theorem lies_at {W : World} {b : Nat} {x y z : ByteArray} (h : AtB W b #[.string x, .string y, .string z] 9) : Strs W (some ⟨b, 0, none⟩) [x, y, z] := fun _ => ⟨b, 0, rfl, h.lt, fun i hi j hj => by
  obtain rfl : j = 0 := by omega
  have hi : i < 3 := by simpa using hi
  match i, hi with
  | 0, _ => exact h.cell (i := 0) rfl
  | 1, _ => exact h.cell (i := 1) rfl
  | 2, _ => exact h.cell (i := 2) rfl⟩
section
variable {w0 w : World} {f : Fr} {n : Nat} {QL : List Ak} {QF : Int → Int} {R : List Ru} {s2 s3 s4 : Cs} {b : ByteArray} {sf mn : Nat}
theorem rdo_lie (h : TS w0 w f n QL QF R s2 s3 s4 b sf mn) (ht : ∀ W, Below w0.heap.size w0 W → LT W) (hn : s3.n ≤ 1000000) (a : Ak) (A : Option Addr) (c : Nat) (hm : a.t.length ≤ maxLen) (hok : okL a.t) (hq64 : I64 a.q) (hV : Vin w w0.heap.size A a.t) (lie : ByteArray) (hl : lie.size ≤ maxLen) (lc : Nat) :
    Calls Tryz.prog 36 #[.pointer (some ⟨f.cp, 0, none⟩), akv a A c, .slice (some ⟨w.heap.size, 0, none⟩) 3 lc] (w.alloc (.cells #[.string ⟨#[]⟩, .string ⟨#[]⟩, .string lie] 9)) fun e w' => e = .returned (.tuple #[.string (doS R s3 a), eV (doE R s3 a)]) ∧ Vin w' w0.heap.size A a.t ∧ BxS w w' ∧ ∃ D', TS w0 w' { f with cD := D' } n QL QF R s2 (doC R s3 a) s4 b sf mn := by
  have h1 := h.keep (bal1 w (.cells #[.string ⟨#[]⟩, .string ⟨#[]⟩, .string lie] 9))
  have hv1 := hV.below (bal1 w (.cells #[.string ⟨#[]⟩, .string ⟨#[]⟩, .string lie] 9)) (Nat.le_refl _) h.hb
  have hat := AtB.new w #[.string ⟨#[]⟩, .string ⟨#[]⟩, .string lie] 9
  refine (ts_rdo h1 ht hn a A c hm hok hq64 hv1 (some ⟨w.heap.size, 0, none⟩) lc [⟨#[]⟩, ⟨#[]⟩, lie] (by simp) (fun W k => lies_at (hat.chs k fun e => h1.crw.nk (by decide) (by decide) (by decide) _ e hat.kin)) (fun i hi => by
    have hi : i < 3 := by simpa using hi
    match i, hi with
    | 0, _ => exact Nat.zero_le _
    | 1, _ => exact Nat.zero_le _
    | 2, _ => exact hl)).mono ?_
  rintro e w' ⟨he, hr1, hr2, hr3⟩
  refine ⟨?_, hr1, fun bx cs hx => hr2 bx cs (hx.alloc _), hr3⟩
  rw [he]
  by_cases hE : doE R s3 a = 0
  · rw [if_pos hE, show (((4 : Nat) : Int) - 1) / 3 + 1 = 2 by decide, win_four, hE, eV_zero]
  · rw [if_neg hE, eV_of hE, doS, if_pos hE]
theorem mk_c (h : TS w0 w f n QL QF R s2 s3 s4 b sf mn) (ht : ∀ W, Below w0.heap.size w0 W → LT W) {p N : Nat} (hp : f.p = p) (hN : s2.n = N) : Calls Tryz.prog 37 #[.pointer (some ⟨p, 0, none⟩)] w fun e w' => e = .returned (.tuple #[.int .i64 N, .int .i64 (mkV s2)]) ∧ TS w0 w' f n QL QF R s2 s3 s4 b sf mn := by
  have := ts_cmark h ht
  rw [hp, hN] at this
  exact this
theorem mk_l (h : TS w0 w f n QL QF R s2 s3 s4 b sf mn) (ht : ∀ W, Below w0.heap.size w0 W → LT W) {p N : Nat} (hp : f.P = p) (hN : s4.n = N) : Calls Tryz.prog 22 #[.pointer (some ⟨p, 0, none⟩)] w fun e w' => e = .returned (.tuple #[.int .i64 N, .int .i64 (mkV s4)]) ∧ TS w0 w' f n QL QF R s2 s3 s4 b sf mn := by
  have := ts_lmark h ht
  rw [hp, hN] at this
  exact this
theorem mk_r (h : TS w0 w f n QL QF R s2 s3 s4 b sf mn) (ht : ∀ W, Below w0.heap.size w0 W → LT W) {p N : Nat} (hp : f.cp = p) (hN : s3.n = N) (k : Nat) (hk : k < 4) {z : Int} (hz : z = k) : Calls Tryz.prog 38 #[.pointer (some ⟨p, 0, none⟩), .int .i64 z] w fun e w' => e = .returned (.tuple #[.int .i64 N, .int .i64 (mkV s3), .nilIface]) ∧ TS w0 w' f n QL QF R s2 s3 s4 b sf mn := by
  have := ts_rmark h ht k hk
  rw [hp, hN, ← hz] at this
  exact this
end
set_option maxHeartbeats 800000 in
set_option maxRecDepth 100000 in
theorem walk (w : World) (hlt : LT w) (RA : Option Addr) (rc : Nat) (R : List Ru) (hn1 : R.length ≤ rc) (hm1 : rc ≤ maxLen) (hR : Rls w RA R) (hokr : okR R)
    (A : Option Addr) (c : Nat) (l : List Ak) (hn2 : l.length ≤ c) (hm2 : c ≤ maxLen) (hA : Aks w A l) (hok : okA l) (lie : ByteArray) (hls : lie.size ≤ maxLen) (keep : Int) (wk : (Lit.int .i64 keep).wf = true) :
    Calls Tryz.prog 9 #[.slice RA R.length rc, .slice A l.length c, .string lie, .int .i64 keep] w fun e w' => e = .returned (.bool true) ∧ Below w.heap.size w w' := by
  have htt : ∀ W, Below w.heap.size w W → LT W := fun W h => ⟨tab_stays (g := 5) (by kernel_rfl) hlt.1 h (Nat.le_refl _), hlt.2.1.below h (Nat.le_refl _), tab_stays (g := 3) (by kernel_rfl) hlt.2.2 h (Nat.le_refl _)⟩
  by_cases hrul : rulE R = 0
  · obtain ⟨X, rfl, hX⟩ := RX.of_arg hR (Nat.le_refl w.heap.size)
    rw [List.length_map]
    have cn := fun (W : World) (hW : Below w.heap.size w W) => cpnew_ok (w := W) (base := w.heap.size) hW.size RA rc X (hX.below (Nat.le_refl _) hW) hrul hokr
    have cr := fun (W : World) (hW : Below w.heap.size w W) => crnew_ok (w := W) (base := w.heap.size) hW.size 4 (by decide) (by decide) RA rc X (hX.below (Nat.le_refl _) hW) hrul hokr
    have cl := fun (W : World) (hW : Below w.heap.size w W) => lgnew_ok (w := W) (base := w.heap.size) hW.size RA rc X (hX.below (Nat.le_refl _) hW) hrul hokr
    have CN := Lib.hid cn; have CR := Lib.hid cr; have CL := Lib.hid cl
    have HTT := Lib.hid htt; have HA := Lib.hid hA; have HOK := Lib.hid hok; have HLS := Lib.hid hls
    clear cn cr cl htt hlt hA hok hls hX hR hokr
    generalize X.map (·.1) = R at *
    go_enter Tryz.func9, Tryz.ntmps9
    go_wp2_with fail
    refine (topOne.one_any _).mono ?_
    rintro e w1 ⟨rfl, hb1⟩
    go_wp2_with fail
    refine (qnew _ (base := w.heap.size) hb1.size).mono ?_
    rintro e w2 ⟨qp, qm, rfl, hq, hb2, _, _⟩
    have hb12 := bcl hb1 hb2
    have HQ := Lib.hid hq; clear hq hb2
    go_wp2_with fail
    refine (CN.out _ hb12).mono ?_
    rintro e w3 ⟨p, q, m, rfl, hc, hb3, g1, g2, g3⟩
    have hb13 := bcl hb12 hb3
    have HC := Lib.hid hc; have HG := Lib.hid (And.intro g1 (And.intro g2 g3)); have HB3 := Lib.hid hb3; clear hc g1 g2 g3 hb3
    go_wp2_with fail
    refine (CR.out _ hb13).mono ?_
    rintro e w4 ⟨cp, cA, cc, cD, rfl, hr, hb4, _, g4⟩
    have hb14 := bcl hb13 hb4
    have HR := Lib.hid hr; have HG4 := Lib.hid g4; have HB4 := Lib.hid hb4; clear hr g4 hb4
    go_wp2_with fail
    refine (CL.out _ hb14).mono ?_
    rintro e w5 ⟨P, p4, q4, m4, rfl, hl, hb5, g5, g6, g7, g8⟩
    have hts := ts_start hb12 HQ.out HB3.out HC.out HG.out.1 HG.out.2.1 HG.out.2.2 HB4.out HR.out HG4.out hb5 hl g5 g6 g7 g8
    have HTS := Lib.hid hts
    clear hts hl hb5 g5 g6 g7 g8 HQ HC HG HR HG4 HB3 HB4 CN CR CL hb1 hb12 hb13 hb14
    go_wp2_with fail
    go_loopw [17, 18, 19, 20, 21, 22, 23, 24, 25, 26, 27, 28, 29, 30, 31, 32, 33] (fun sm si _ _ _ _ _ _ _ _ _ _ _ _ _ _ _ wr => ∃ (k : Nat) (D : List Ak), k ≤ l.length ∧ k ≤ 20 ∧ si = .int .i64 k ∧ sm = .int .i64 (D.length : Nat) ∧ Hid (TJ w qp p cp P R k D wr)) (fun _ si _ _ _ _ _ _ _ _ _ _ _ _ _ _ _ _ => 21 - (intOf si).toNat)
    case atStart => exact ⟨0, [], Nat.zero_le _, by decide, rfl, rfl, Lib.hid ⟨_, 0, fun _ => 0, rfl, rfl, rfl, rfl, Nat.le_refl _, HTS.out, VdD.nil, Nat.le_refl _, fun x => Int.le_refl _⟩⟩
    case round =>
      clear HTS
      obtain ⟨k, D, hkl, hk20, rfl, rfl, HJ⟩ := hrel
      by_cases t1 : k < l.length
      · by_cases t2 : k < 20
        · obtain ⟨f, n, QF, rfl, rfl, rfl, rfl, hn, hT, hV, hD, hF⟩ := HJ.out
          obtain ⟨ba, oa, B, C, rfl, hbl, c0, c1', c2, c3, hv, hb1, hb2⟩ := HA.out.at_ t1
          obtain ⟨ok1, ok2, ok3, ok4⟩ := HOK.out k t1
          have d0 := (hT.b0.cell (p := ⟨ba, oa + k * 4, none⟩) hbl).trans c0
          have d1 := (hT.b0.cell (p := ⟨ba, oa + k * 4 + 1, none⟩) hbl).trans c1'
          have d2 := (hT.b0.cell (p := ⟨ba, oa + k * 4 + 2, none⟩) hbl).trans c2
          have d3 := (hT.b0.cell (p := ⟨ba, oa + k * 4 + 3, none⟩) hbl).trans c3
          have i0 : (0 : Int) ≤ (k : Int) := by omega
          have i1 : (k : Int) < (l.length : Nat) := by omega
          have hml : (ak l k).t.length ≤ maxLen := by omega
          have hv2 := hv.below hT.b0 (Nat.le_refl _)
          generalize ak l k = a at *
          have cp := ts_push hT (by omega) a B C hml ok1 ok3 hv2
          have HT := Lib.hid hT
          by_cases hP : puE [] QF a = 0
          · have hag := no_again hP hF
            rw [hP, if_pos rfl, if_pos rfl, if_pos rfl, eV_zero] at cp
            have CP := Lib.hid cp
            have hn20 : (cpD R D).n = D.length := hV.n
            have hD2 : VdD R (dnD R D a) := by
              unfold dnD
              split
              · exact hV.snoc ok1 (by assumption) hag
              · exact hV
            have hF2 := dnD_f hP hF
            have hc2 := dnD_c (R := R) (D := D) (a := a)
            have hds := recs_size D (hV.all (by omega))
            have HN := Lib.hid (show (cpD R D).n ≤ 999999 by omega)
            have HM := Lib.hid hml; have HO := Lib.hid (And.intro ok1 (And.intro ok2 ok3)); have HAG := Lib.hid hag; have HBS := Lib.hid (show (recs D).size ≤ 1000000 by omega)
            have hmn : D.length < 30 := by omega
            have HMN := Lib.hid hmn
            by_cases hE : doE R (cpD R D) a = 0
            · have hdd : dnD R D a = D ++ [a] := by rw [dnD, if_pos hE]
              rw [hdd] at hD2 hF2 hc2
              have hnn : (doC R (cpD R D) a).n = D.length + 1 := by rw [← hc2, hD2.n, List.length_append]; rfl
              have HE := Lib.hid hE; have HNN := Lib.hid hnn; have HD2 := Lib.hid hD2; have HF2 := Lib.hid hF2; have HC2 := Lib.hid hc2
              clear cp hT c0 c1' c2 c3 hv hv2 hb1 hb2 ok1 ok2 ok3 ok4 hV hF HJ HT hP hag hn20 hD2 hF2 hc2 hds hml hE hdd hnn
              generalize hS : doS R (cpD R D) a = T at *
              generalize hS2 : doC R (cpD R D) a = S2 at *
              go_wp2_with (first
                | (go_at_call 33; refine CP.out.mono ?_; rintro e w6 ⟨rfl, g', hT6⟩; have HT6 := Lib.hid hT6; clear hT6)
                | (go_at_call 34; refine (ts_pop HT6.out).mono ?_; rintro e w7 ⟨B2, C2, rfl, hV7, hT7⟩; have HV7 := Lib.hid (hV7.below (bal1 w7 (.cells #[.int .i64 a.w, .int .i64 a.q, .int .i64 a.d, .slice B2 a.t.length C2] 33)) (Nat.le_refl _) hT7.hb); have HT7 := Lib.hid (hT7.keep (bal1 w7 (.cells #[.int .i64 a.w, .int .i64 a.q, .int .i64 a.d, .slice B2 a.t.length C2] 33))); have HX7 := Lib.hid (AtB.new w7 #[.int .i64 a.w, .int .i64 a.q, .int .i64 a.d, .slice B2 a.t.length C2] 33); have HZ7 := Lib.hid (And.intro hV7 hT7); clear hV7 hT7; simp only [akv])
                | (go_at_call 35; refine (ts_cdo HT7.out HTT.out (Nat.le_trans HN.out (by decide)) a B2 C2 HM.out HO.out.1 HO.out.2.2 HV7.out).mono ?_; rintro e w8 ⟨he, hV8, hx8, g8, hT8⟩; rw [HE.out, eV_zero, hS] at he; subst he; rw [hS2] at hT8; have hX8 := hx8 _ _ HX7.out; have x0 := hX8.cell (i := 0) rfl; have x1 := hX8.cell (i := 1) rfl; have x2 := hX8.cell (i := 2) rfl; have x3 := hX8.cell (i := 3) rfl; have HX8 := Lib.hid hX8; have HV8 := Lib.hid hV8; have HT8 := Lib.hid hT8; clear hV8 hT8 hX8 hx8)
                | (go_at_call 36; refine (rdo_lie HT8.out HTT.out (Nat.le_trans HN.out (by decide)) a B2 C2 HM.out HO.out.1 HO.out.2.2 HV8.out lie HLS.out _).mono ?_; rintro e w9 ⟨he, hV9, hx9, D9, hT9⟩; rw [HE.out, eV_zero, hS] at he; subst he; rw [hS2] at hT9; have hX9 := hx9 _ _ HX8.out; have y0 := hX9.cell (i := 0) rfl; have y1 := hX9.cell (i := 1) rfl; have y2 := hX9.cell (i := 2) rfl; have y3 := hX9.cell (i := 3) rfl; have HV9 := Lib.hid hV9; have HT9 := Lib.hid hT9; clear hV9 hT9 hX9 hx9)
                | (go_at_call 12; refine (ts_ldo HT9.out HTT.out HN.out a B2 C2 HM.out HO.out.1 HO.out.2.1 HO.out.2.2 HV9.out HMN.out HBS.out HAG.out).mono ?_; rintro e w10 ⟨he, _, f10, q1, q2, q3, q4, hT10⟩; rw [HE.out, eV_zero, hS] at he; subst he; rw [hS2, HE.out, if_pos rfl, if_pos rfl] at hT10; have HT10 := Lib.hid hT10; clear hT10)
                | (go_at_call 37; refine (mk_c HT10.out HTT.out q2 HNN.out).mono ?_; rintro e w11 ⟨rfl, hT11⟩; have HT11 := Lib.hid hT11; clear hT11))
              go_quiet (fail)
              go_wp2_with (first
                | (go_at_call 37; refine (mk_c (HT10.out.keep (bdn (Below.refl _ _) _)) HTT.out q2 HNN.out).mono ?_; rintro e w11 ⟨rfl, hT11⟩; have HT11 := Lib.hid hT11; clear hT11)
                | (go_at_call 38; refine (mk_r HT11.out HTT.out q3 HNN.out (k % 4) (Nat.mod_lt _ (by decide)) (by first | omega | simp)).mono ?_; rintro e w12 ⟨rfl, hT12⟩; have HT12 := Lib.hid hT12; clear hT12)
                | (go_at_call 22; refine (mk_l HT12.out HTT.out q4 HNN.out).mono ?_; rintro e w13 ⟨rfl, hT13⟩; have HT13 := Lib.hid hT13; clear hT13))
              go_roundw
              case rel =>
                refine ⟨k + 1, D ++ [a], by omega, by omega, by go_num, by simp, Lib.hid ⟨f10, n + 1, (fun y => if y = a.w then a.q else QF y), q1, q2, q3, q4, by omega, ?_, HD2.out, by simp; omega, HF2.out⟩⟩
                rw [HC2.out, recs_snoc, List.length_append]
                exact HT13.out
              case measure => simp [intOf]; omega
            · have hdd : dnD R D a = D := by rw [dnD, if_neg hE]
              rw [hdd] at hD2 hF2 hc2
              have hdc : doC R (cpD R D) a = cpD R D := hc2.symm
              have hds2 : doS R (cpD R D) a = ⟨#[]⟩ := by rw [doS, if_pos hE]
              have hnn : (cpD R D).n = D.length := hn20
              have HE := Lib.hid hE; have HNN := Lib.hid hnn; have HD2 := Lib.hid hD2; have HF2 := Lib.hid hF2; have HC2 := Lib.hid hc2
              clear cp hT c0 c1' c2 c3 hv hv2 hb1 hb2 ok1 ok2 ok3 ok4 hV hF HJ HT hP hag hn20 hD2 hF2 hc2 hds hml hdd hnn
              have HDC := Lib.hid hdc; have HDS := Lib.hid hds2; have HEV := Lib.hid (eV_of hE)
              clear hdc hds2 hE
              generalize hEE : doE R (cpD R D) a = E at *
              go_wp2_with (first
                | (go_at_call 33; refine CP.out.mono ?_; rintro e w6 ⟨rfl, g', hT6⟩; have HT6 := Lib.hid hT6; clear hT6)
                | (go_at_call 34; refine (ts_pop HT6.out).mono ?_; rintro e w7 ⟨B2, C2, rfl, hV7, hT7⟩; have HV7 := Lib.hid (hV7.below (bal1 w7 (.cells #[.int .i64 a.w, .int .i64 a.q, .int .i64 a.d, .slice B2 a.t.length C2] 33)) (Nat.le_refl _) hT7.hb); have HT7 := Lib.hid (hT7.keep (bal1 w7 (.cells #[.int .i64 a.w, .int .i64 a.q, .int .i64 a.d, .slice B2 a.t.length C2] 33))); have HX7 := Lib.hid (AtB.new w7 #[.int .i64 a.w, .int .i64 a.q, .int .i64 a.d, .slice B2 a.t.length C2] 33); have HZ7 := Lib.hid (And.intro hV7 hT7); clear hV7 hT7; simp only [akv])
                | (go_at_call 35; refine (ts_cdo HT7.out HTT.out (Nat.le_trans HN.out (by decide)) a B2 C2 HM.out HO.out.1 HO.out.2.2 HV7.out).mono ?_; rintro e w8 ⟨he, hV8, hx8, g8, hT8⟩; rw [hEE, HEV.out, HDS.out] at he; subst he; rw [HDC.out] at hT8; have hX8 := hx8 _ _ HX7.out; have x0 := hX8.cell (i := 0) rfl; have x1 := hX8.cell (i := 1) rfl; have x2 := hX8.cell (i := 2) rfl; have x3 := hX8.cell (i := 3) rfl; have HX8 := Lib.hid hX8; have HV8 := Lib.hid hV8; have HT8 := Lib.hid hT8; clear hV8 hT8 hX8 hx8)
                | (go_at_call 36; refine (rdo_lie HT8.out HTT.out (Nat.le_trans HN.out (by decide)) a B2 C2 HM.out HO.out.1 HO.out.2.2 HV8.out lie HLS.out _).mono ?_; rintro e w9 ⟨he, hV9, hx9, D9, hT9⟩; rw [hEE, HEV.out, HDS.out] at he; subst he; rw [HDC.out] at hT9; have hX9 := hx9 _ _ HX8.out; have y0 := hX9.cell (i := 0) rfl; have y1 := hX9.cell (i := 1) rfl; have y2 := hX9.cell (i := 2) rfl; have y3 := hX9.cell (i := 3) rfl; have HV9 := Lib.hid hV9; have HT9 := Lib.hid hT9; clear hV9 hT9 hX9 hx9)
                | (go_at_call 12; refine (ts_ldo HT9.out HTT.out HN.out a B2 C2 HM.out HO.out.1 HO.out.2.1 HO.out.2.2 HV9.out HMN.out HBS.out HAG.out).mono ?_; rintro e w10 ⟨he, _, f10, q1, q2, q3, q4, hT10⟩; rw [hEE, HEV.out, HDS.out] at he; subst he; rw [HDC.out, hEE, if_neg HE.out, if_neg HE.out] at hT10; have HT10 := Lib.hid hT10; clear hT10)
                | (go_at_call 37; refine (mk_c HT10.out HTT.out q2 HNN.out).mono ?_; rintro e w11 ⟨rfl, hT11⟩; have HT11 := Lib.hid hT11; clear hT11))
              go_quiet (fail)
              go_wp2_with (first
                | (go_at_call 37; refine (mk_c (HT10.out.keep (bdn (Below.refl _ _) _)) HTT.out q2 HNN.out).mono ?_; rintro e w11 ⟨rfl, hT11⟩; have HT11 := Lib.hid hT11; clear hT11)
                | (go_at_call 38; refine (mk_r HT11.out HTT.out q3 HNN.out (k % 4) (Nat.mod_lt _ (by decide)) (by first | omega | simp)).mono ?_; rintro e w12 ⟨rfl, hT12⟩; have HT12 := Lib.hid hT12; clear hT12)
                | (go_at_call 22; refine (mk_l HT12.out HTT.out q4 HNN.out).mono ?_; rintro e w13 ⟨rfl, hT13⟩; have HT13 := Lib.hid hT13; clear hT13))
              go_roundw
              case rel =>
                exact ⟨k + 1, D, by omega, by omega, by go_num, rfl, Lib.hid ⟨f10, n + 1, (fun y => if y = a.w then a.q else QF y), q1, q2, q3, q4, by omega, HT13.out, HD2.out, by omega, HF2.out⟩⟩
              case measure => simp [intOf]; omega
          · have hPv := eV_of hP
            rw [if_neg hP, if_neg hP, if_neg hP, hPv] at cp
            have CP := Lib.hid cp
            have HJ2 := Lib.hid (And.intro hV hF)
            clear cp hP hPv hT c0 c1' c2 c3 hv hv2 hb1 hb2 ok1 ok2 ok3 ok4 hV hF HJ HT
            generalize puE [] QF a = E at *
            go_wp2_with (go_at_call 33; refine CP.out.mono ?_; rintro e w6 ⟨rfl, g', hT6⟩; have HT6 := Lib.hid hT6; clear hT6)
            go_roundw
            case rel => exact ⟨k + 1, D, by omega, by omega, by go_num, rfl, Lib.hid ⟨{ f with qg := g' }, n, QF, rfl, rfl, rfl, rfl, by omega, HT6.out, HJ2.out.1, by omega, HJ2.out.2⟩⟩
            case measure => simp [intOf]; omega
        · obtain ⟨f, n, QF, rfl, rfl, rfl, rfl, hn, hT, hV, hD, hF⟩ := HJ.out
          have i1 : (k : Int) < (l.length : Nat) := by omega
          have i2 : ¬ (k : Int) < 20 := by omega
          have hnn : (cpD R D).n = D.length := hV.n
          have HT := Lib.hid hT; have HV := Lib.hid hV; have HNN := Lib.hid hnn; have HL := Lib.hid (show D.length ≤ 30 by omega)
          clear hT hV hF hnn HJ hrul
          go_wp2_with (first
            | (go_at_call 20; refine (ts_sync HT.out).mono ?_; rintro e w6 ⟨rfl, hT6⟩; have HT6 := Lib.hid hT6; clear hT6)
            | (go_at_call 21; refine (ts_crash HT6.out HTT.out HV.out HL.out keep).mono ?_; rintro e w7 ⟨⟨v, rfl⟩, f7, q1, q2, hT7⟩; have HT7 := Lib.hid hT7; clear hT7)
            | (go_at_call 37; refine (mk_c HT7.out HTT.out q1 HNN.out).mono ?_; rintro e w8 ⟨rfl, hT8⟩; have HT8 := Lib.hid hT8; clear hT8)
            | (go_at_call 22; refine (mk_l HT8.out HTT.out q2 HNN.out).mono ?_; rintro e w9 ⟨rfl, hT9⟩))
          go_ret
          exact ⟨ret_true (by first | rfl | (simp; done) | (simp; omega)), hT9.b0⟩
      · obtain ⟨f, n, QF, rfl, rfl, rfl, rfl, hn, hT, hV, hD, hF⟩ := HJ.out
        have i1 : ¬ (k : Int) < (l.length : Nat) := by omega
        have hnn : (cpD R D).n = D.length := hV.n
        have HT := Lib.hid hT; have HV := Lib.hid hV; have HNN := Lib.hid hnn; have HL := Lib.hid (show D.length ≤ 30 by omega)
        clear hT hV hF hnn HJ hrul
        go_wp2_with (first
          | (go_at_call 20; refine (ts_sync HT.out).mono ?_; rintro e w6 ⟨rfl, hT6⟩; have HT6 := Lib.hid hT6; clear hT6)
          | (go_at_call 21; refine (ts_crash HT6.out HTT.out HV.out HL.out keep).mono ?_; rintro e w7 ⟨⟨v, rfl⟩, f7, q1, q2, hT7⟩; have HT7 := Lib.hid hT7; clear hT7)
          | (go_at_call 37; refine (mk_c HT7.out HTT.out q1 HNN.out).mono ?_; rintro e w8 ⟨rfl, hT8⟩; have HT8 := Lib.hid hT8; clear hT8)
          | (go_at_call 22; refine (mk_l HT8.out HTT.out q2 HNN.out).mono ?_; rintro e w9 ⟨rfl, hT9⟩))
        go_ret
        exact ⟨ret_true (by first | rfl | (simp; done) | (simp; omega)), hT9.b0⟩
  · have hml : R.length ≤ maxLen := by unfold maxLen at *; omega
    have cn := fun (W : World) (hW : Below w.heap.size w W) => cpnew_no (w := W) RA rc R hml (hR.below hW (Nat.le_refl _)) hrul hokr
    have cr := fun (W : World) (hW : Below w.heap.size w W) => crnew_rules 4 (by decide) (by decide) RA rc R hml W (hR.below hW (Nat.le_refl _)) hrul hokr
    have cl := fun (W : World) (hW : Below w.heap.size w W) => lgnew_no (w := W) RA rc R hml (hR.below hW (Nat.le_refl _)) hrul hokr
    have CN := Lib.hid cn; have CR := Lib.hid cr; have CL := Lib.hid cl
    clear cn cr cl htt hlt hA hok hls hR hokr hrul
    generalize rulE R = E at *
    go_enter Tryz.func9, Tryz.ntmps9
    go_wp2_with fail
    refine (topOne.one_any _).mono ?_
    rintro e w1 ⟨rfl, hb1⟩
    go_wp2_with fail
    refine (qnew _ (base := w.heap.size) hb1.size).mono ?_
    rintro e w2 ⟨qp, qm, rfl, hq, hb2, _, _⟩
    have hb12 := bcl hb1 hb2
    clear hq hb2
    go_wp2_with fail
    refine (CN.out _ hb12).mono ?_
    rintro e w3 ⟨rfl, hb3⟩
    have hb13 := bcl hb12 hb3
    go_wp2_with fail
    refine (CR.out _ hb13).mono ?_
    rintro e w4 ⟨rfl, hb4⟩
    have hb14 := bcl hb13 hb4
    go_wp2_with fail
    refine (CL.out _ hb14).mono ?_
    rintro e w5 ⟨rfl, hb5⟩
    go_wp2_with fail
    go_ret
    exact ⟨ret_true (by first | rfl | (simp; done) | (simp; omega)), bcl hb14 hb5⟩
end Go.Proofs.YtpgemofkolmabaaGreatDoor.topSame
