/- Package once beside the reference: contracts on J4. -/
import Derived.Test.YthpemlhlgjdnkaaDoorOnce3
namespace Go.Proofs.YthpemlhlgjdnkaaDoor
open Go.ChangeShapes Go.WideShapes Go.ChangeAt Go.RowKit
set_option linter.unusedVariables false

theorem Vin.chsM {M : Nat → Prop} {w w' : World} {base : Nat} {A : Option Addr} {a : List Va} (h : Vin w base A a) (hb : base ≤ w.heap.size) (k : Chs M w w') (ho : ∀ b, M b → base ≤ b ∧ ¬ Go.Proofs.YthpemlhlgjdnkaaDoor.kin w b 28) : Vin w' base A a := by
  rcases Nat.eq_zero_or_pos a.length with h0 | h0
  · exact ⟨by unfold Vals; rw [h0]; exact Sl.zero, fun h => by omega⟩
  · have hst : ∀ x, A = some x → w'.heap[x.block]? = w.heap[x.block]? := fun x hx => k.block _ ((h.2 h0).lt hb hx) fun h2 => by
      rcases h.2 h0 x hx with h3 | h3
      · have := (ho _ h2).1; omega
      · exact (ho _ h2).2 h3
    exact ⟨vals_stay _ _ _ _ k.size hst h.1, fun _ => (h.2 h0).stay hst⟩
set_option maxHeartbeats 400000 in
set_option maxRecDepth 100000 in
theorem onput_full (base p : Nat) (g : Option Nat) (L : List (List Va)) (A : Option Addr) (c : Nat) (a : List Va) (B : Option Addr) (d : Nat) (t : List Va) (hm : a.length ≤ maxLen) (hm2 : t.length ≤ maxLen) (ha : okL a) (ht : okL t) (w : World) (hA : Vals w A a) (hB : Vals w B t) (hS : Spc w base p g L) (h : ocE a t = 0) (hc : cnt a L L.length = 0) (hl : L.length = 20) :
    Calls Tryd.prog 62 #[.pointer (some ⟨p, 0, none⟩), .slice A a.length c, .slice B t.length d] w fun e w' => e = .returned (.tuple #[.bool false, errV 4]) ∧ ∃ g', Spc w' base p g' L ∧ Chg p g w w' ∧ Nw g g' w.heap.size := by
  have c1 := oncheck_any A c a B d t hm hm2 ha ht w hA hB
  have c2 := fun (W : World) (hS : Spc W base p g L) (hA : Vals W A a) => count_spc base p g L A c a hm ha (ocE_zero h).1 _ hc W hS hA
  have hpe : putE L t = 4 := by rw [putE, if_neg (by rw [(ocE_zero h).2]; decide), if_pos hl]
  have c3 := fun (W : World) (hS : Spc W base p g L) (hB : Vals W B t) => spput_any base p g L B d t hm2 ht W hS hB
  rw [putL, hpe, if_neg (by decide), show eV 4 = errV 4 from rfl] at c3
  rw [h, eV_zero] at c1
  have C1 := Lib.hid c1; have C2 := Lib.hid c2; have C3 := Lib.hid c3; clear c1 c2 c3 h hc hpe
  go_enter Tryd.func62, Tryd.ntmps62
  go_wp2_with (first | (go_at_call 95; refine C1.out.mono ?_; rintro e w1 ⟨rfl, hb1⟩) | (go_at_call 32; refine (C2.out _ (hS.keep hb1) (hA.below hb1 (Nat.le_refl _))).mono ?_; rintro e w2 ⟨rfl, hb2⟩; have hb3 := bcl hb1 hb2) | (go_at_call 31; refine (C3.out _ (hS.keep hb3) (hB.below hb3 (Nat.le_refl _))).mono ?_; rintro e w3 ⟨rfl, g', hs, hx, hn⟩))
  go_ret2
  exact ⟨rfl, g', hs, (Chg.of_below hb3).trans hx (Nw.refl _ _), by
    rcases hn with h | ⟨b, h, hb⟩
    · exact .inl h
    · exact .inr ⟨b, h, Nat.le_trans hb3.size hb⟩⟩
/-- what once.Put tells, and does -/
def poE (a t : List Va) (L : List (List Va)) : Int := if ocE a t ≠ 0 then ocE a t else if cnt a L L.length ≠ 0 then 0 else if L.length = 20 then 4 else 0
def poB (a t : List Va) (L : List (List Va)) : Bool := decide (ocE a t = 0 ∧ cnt a L L.length = 0 ∧ L.length ≠ 20)
def poL (a t : List Va) (L : List (List Va)) : List (List Va) := if poB a t L = true then L ++ [t] else L
section
variable {w0 w : World} {p q p2 q2 : Nat} {g h g2 h2 : Option Nat} {L K L2 K2 : List (List Va)}
theorem j4onput (j : J4 w0 w p g q h p2 g2 q2 h2 L K L2 K2) (A : Option Addr) (c : Nat) (a : List Va) (B : Option Addr) (d : Nat) (t : List Va) (hm : a.length ≤ maxLen) (hm2 : t.length ≤ maxLen) (ha : okL a) (ht : okL t) (hA : Vals w0 A a) (hB : Vals w0 B t) :
    Calls Tryd.prog 62 #[.pointer (some ⟨p, 0, none⟩), .slice A a.length c, .slice B t.length d] w fun e w' => e = .returned (.tuple #[.bool (poB a t L), eV (poE a t L)]) ∧ ∃ G, J4 w0 w' p G q h p2 g2 q2 h2 (poL a t L) K L2 K2 := by
  by_cases e1 : ocE a t = 0
  · by_cases e2 : cnt a L L.length = 0
    · by_cases e3 : L.length = 20
      · have hb : poB a t L = false := by simp [poB, e3]
        rw [poL, hb, if_neg (by decide), poE, if_neg (by simp [e1]), if_neg (by simp [e2]), if_pos e3]
        exact (onput_full _ p g L A c a B d t hm hm2 ha ht w (j.vals hA) (j.vals hB) j.s e1 e2 e3).mono fun e w' ⟨q1, G, q2, q3, q4⟩ => ⟨q1, G, j.s_ q3.chs q2 q4.nwb⟩
      · have hb : poB a t L = true := by simp [poB, e1, e2, e3]
        rw [poL, hb, if_pos rfl, poE, if_neg (by simp [e1]), if_neg (by simp [e2]), if_neg e3, eV_zero]
        exact (onput_ok _ p g L A c a B d t hm hm2 ha ht w (j.vals hA) (j.vals hB) j.s e1 e2 e3).mono fun e w' ⟨q1, G, q2, q3, q4⟩ => ⟨q1, G, j.s_ q3.chs q2 q4.nwb⟩
    · have hb : poB a t L = false := by simp [poB, e2]
      rw [poL, hb, if_neg (by decide), poE, if_neg (by simp [e1]), if_pos e2, eV_zero]
      exact (onput_no _ p g L A c a B d t hm hm2 ha ht w (j.vals hA) (j.vals hB) j.s e1 e2).mono fun e w' ⟨q1, q2⟩ => ⟨q1, g, j.keep q2⟩
  · have hb : poB a t L = false := by simp [poB, e1]
    rw [poL, hb, if_neg (by decide), poE, if_pos e1, eV_of e1]
    exact (onput_bad _ A c a B d t hm hm2 ha ht w (j.vals hA) (j.vals hB) e1).mono fun e w' ⟨q1, q2⟩ => ⟨q1, g, j.keep q2⟩
end
section
variable {w0 w : World} {p q p2 q2 : Nat} {g h g2 h2 : Option Nat} {L K L2 K2 : List (List Va)}
/-- what once.Change gives, and leaves -/
def chT (a t : List Va) (L : List (List Va)) : List Va := if ocE a t ≠ 0 then [] else rT a L
def chL (a t : List Va) (L : List (List Va)) : List (List Va) := if chE a t L = 0 then rL a L ++ [t] else L
theorem j4onchange (j : J4 w0 w p g q h p2 g2 q2 h2 L K L2 K2) (A : Option Addr) (c : Nat) (a : List Va) (B : Option Addr) (d : Nat) (t : List Va) (hm : a.length ≤ maxLen) (hm2 : t.length ≤ maxLen) (ha : okL a) (ht : okL t) (hA : Vals w0 A a) (hB : Vals w0 B t) :
    Calls Tryd.prog 60 #[.pointer (some ⟨p, 0, none⟩), .slice A a.length c, .slice B t.length d] w fun e w' => ∃ B2 C, e = .returned (.tuple #[.slice B2 (chT a t L).length C, eV (chE a t L)]) ∧ Vals w' B2 (chT a t L) ∧ Chs (RM p g) w w' ∧ ∃ G, J4 w0 w' p G q h p2 g2 q2 h2 (chL a t L) K L2 K2 := by
  by_cases e : chE a t L = 0
  · obtain ⟨e1, e2⟩ := chE_zero e
    obtain ⟨k', hk', hp', h1, h2'⟩ := fin_at e2
    rw [chL, if_pos e, chT, if_neg (by simp [e1]), e, eV_zero, h1, h2']
    refine (onchange_ok _ p g L A c a B d t hm hm2 ha ht w (j.vals hA) (j.vin hB) j.s e).mono fun e w' ⟨k, B2, C, G, q1, q2, q3, q4, q5, q6, q7, q8⟩ => ?_
    have hkk : k = k' := by
      have hx : 0 ≤ plc a L := by rw [hp']; omega
      obtain ⟨i, z1, z2, z3, z4⟩ := idx_at hx
      have hi : i = k' := by have : plc a L = (i : Int) := z1; omega
      subst hi
      rcases Nat.lt_trichotomy k i with h | h | h
      · have := z4 k h; simp only [q2] at this; cases this
      · exact h
      · have := q3 i h; simp only [z3] at this; cases this
    subst hkk
    exact ⟨B2, C, q4, q5, q7.chs, G, j.s_ q7.chs q6 q8.nwb⟩
  · have hT : chT a t L = [] := by
      unfold chT
      split
      · rfl
      · rename_i h1
        have : finE a L ≠ 0 := by
          unfold chE at e
          rwa [if_neg h1] at e
        rw [rT, if_neg this]
    rw [chL, if_neg e, hT, eV_of e]
    exact (onchange_no _ p g L A c a B d t hm hm2 ha ht w (j.vals hA) (j.vals hB) j.s e).mono fun e w' ⟨q1, q2⟩ => ⟨none, 0, q1, vals_nil, Chs.of_below _ q2, g, j.keep q2⟩
theorem j4rput (j : J4 w0 w p g q h p2 g2 q2 h2 L K L2 K2) (A : Option Addr) (c : Nat) (t : List Va) (hc : t.length ≤ c) (hm : c ≤ maxLen) (hok : okL t) (hA : Vals w0 A t) :
    Calls Tryd.prog 54 #[.pointer (some ⟨p2, 0, none⟩), .slice A t.length c] w fun e w' => e = .returned (.int .i64 (putE L2 t)) ∧ ∃ G, J4 w0 w' p g q h p2 G q2 h2 L K (putL L2 t) K2 ∧ Chs (RM p2 g2) w w' :=
  (rput_any _ p2 g2 L2 A c t hc hm hok w j.m (j.vin hA)).mono fun e w' ⟨h1, G, h2, h3, h4⟩ => ⟨h1, G, j.m_ h3 h2 h4, h3⟩
theorem j4rget (j : J4 w0 w p g q h p2 g2 q2 h2 L K L2 K2) (A : Option Addr) (c : Nat) (a : List Va) (hm : a.length ≤ maxLen) (hok : okL a) (hA : Vals w0 A a) :
    Calls Tryd.prog 50 #[.pointer (some ⟨p2, 0, none⟩), .slice A a.length c, .bool true] w fun e w' => ∃ B C, e = .returned (.tuple #[.slice B (rT a L2).length C, .int .i64 (finE a L2)]) ∧ Vin w' w0.heap.size B (rT a L2) ∧ ((rT a L2).length ≤ C ∧ C ≤ maxLen) ∧ ∃ G, J4 w0 w' p g q h p2 G q2 h2 L K (rL a L2) K2 := by
  by_cases e : finE a L2 = 0
  · obtain ⟨k, hk, hp, h1, h2'⟩ := fin_at e
    rw [e, h1, h2']
    exact (rget_take _ p2 g2 L2 A c a hm hok w j.m (j.vals hA) k hk hp e).mono fun e w' ⟨B, C, g', e1, e2, e3, e4, e5, e6, e7, e8⟩ => ⟨B, C, e1, ⟨e2, fun _ => e5⟩, ⟨e3, e4⟩, g', j.m_ e7 e6 e8⟩
  · rw [rT, rL, if_neg e, if_neg e]
    exact (rget_no _ p2 g2 L2 A c a hm hok w j.m (j.vals hA) true e).mono fun e w' ⟨e1, e2⟩ => ⟨none, 0, e1, vin_nil, ⟨Nat.le_refl _, Nat.zero_le _⟩, g2, j.keep e2⟩
theorem j4rcount (j : J4 w0 w p g q h p2 g2 q2 h2 L K L2 K2) (A : Option Addr) (c : Nat) (a : List Va) (hm : a.length ≤ maxLen) (hA : Vals w0 A a) :
    Calls Tryd.prog 53 #[.pointer (some ⟨p2, 0, none⟩), .slice A a.length c] w fun e w' => e = .returned (.int .i64 (cnt a L2 L2.length)) ∧ Below w.heap.size w w' := by
  obtain ⟨E, n, q1, q2, q3⟩ := j.m.there
  have := j.m.len
  exact rcount_any p2 A c a hm E n L2 (by unfold maxLen; omega) w (j.vals hA) q3.many (q1.cell (i := 0) rfl)
theorem RSp.list {base : Nat} (j : RSp w base p g L) : ∃ E n, w.cell? ⟨p, 0, none⟩ = some (.slice E L.length n) ∧ Many Vals w E L ∧ L.length ≤ 20 ∧ p < w.heap.size := by
  obtain ⟨E, n, q1, q2, q3⟩ := j.there
  exact ⟨E, n, q1.cell (i := 0) rfl, q3.many, j.len, j.lt⟩
theorem all_of {base : Nat} (j : Spc w base p g L) :
    Calls Tryd.prog 30 #[.pointer (some ⟨p, 0, none⟩)] w fun e w' => ∃ A' c', e = .returned (.slice A' L.length c') ∧ Many Vals w' A' L ∧ Below w.heap.size w w' :=
  (spall_any _ p g L w j).mono fun e w' ⟨A', c', e1, e2, e3⟩ => ⟨A', c', e1, e2.many, e3⟩
theorem j4move (j : J4 w0 w p g q h p2 g2 q2 h2 L K L2 K2) (A : Option Addr) (c : Nat) (a : List Va) (hm : a.length ≤ maxLen) (hok : okL a) (hA : Vals w0 A a) (h0 : liE a = 0) :
    Calls Tryd.prog 61 #[.pointer (some ⟨p, 0, none⟩), .pointer (some ⟨q, 0, none⟩), .slice A a.length c] w fun e w' => ∃ (n : Nat) (M1 M2 : List (List Va)) (H : Option Nat), e = .returned (.tuple #[.int .i64 n, .nilIface]) ∧ Mv a L K n M1 M2 ∧ (plc a M1 < 0 ∨ M2.length = 20) ∧ J4 w0 w' p g q H p2 g2 q2 h2 M1 M2 L2 K2 :=
  (move_chs w0.heap.size p q g h L K (fun e => j.dso p (.inl rfl) (.inl e)) A c a hm hok w (j.vin hA) j.s j.o (fun b hb hh => j.dso b (.inr hb) (.inr hh)) h0).mono fun e w' ⟨n, M1, M2, H, e1, e2, e3, e4, e5⟩ => ⟨n, M1, M2, H, e1, e2.mv, e3, j.so_ e4 e2.one e2.two e5⟩
end
theorem same_eW (n : Int) (W : World) (h : HG W) : Calls Tryd.prog 24 #[eV n, .int .i64 n] W fun e w' => e = .returned (.bool true) ∧ Below W.heap.size W w' :=
  (same_eV n W W (DG.refl h)).mono fun e w' ⟨h1, h2⟩ => ⟨h1, h2.2⟩
theorem same_tW (A B : Option Addr) (c d : Nat) (a : List Va) (W : World) (hA : Vals W A a) (hB : Vals W B a) (hm : a.length ≤ 5) :
    Calls Tryd.prog 27 #[.slice A a.length c, .slice B a.length d] W fun e w' => e = .returned (.bool true) ∧ Below W.heap.size W w' :=
  (same_tuple A B c d a a W hA hB (by unfold maxLen; omega)).mono fun e w' ⟨h1, h2⟩ => ⟨by rw [h1]; simp, h2⟩
theorem same_tsW (A B : Option Addr) (c d : Nat) (a : List (List Va)) (W : World) (hA : Many Vals W A a) (hB : Many Vals W B a) (hm : a.length ≤ 20) :
    Calls Tryd.prog 55 #[.slice A a.length c, .slice B a.length d] W fun e w' => e = .returned (.bool true) ∧ Below W.heap.size W w' :=
  (same_tuples A B c d a a W hA hB (by unfold maxLen; omega)).mono fun e w' ⟨h1, h2⟩ => ⟨by rw [h1]; simp, h2⟩
end Go.Proofs.YthpemlhlgjdnkaaDoor
