/- A space beside two slices of tuples that the law makes. -/
import Derived.Test.YtfelefkmbbfdjaaGreatDoorSpJoin
namespace Go.Proofs.YtfelefkmbbfdjaaGreatDoor
open Go.ChangeShapes Go.WideShapes Go.ChangeAt Go.RowKit
set_option linter.unusedVariables false

theorem gg_mem {L : List (List Va)} {k : Nat} (hk : k < L.length) : gg L k ∈ L := by
  simp only [gg, List.getD_eq_getElem?_getD, List.getElem?_eq_getElem hk, Option.getD_some]; exact List.getElem_mem hk
theorem gg_mid (X Y : List (List Va)) (t : List Va) : gg (X ++ t :: Y) X.length = t := by simp [gg, List.getD_eq_getElem?_getD]
theorem gg_left {X Y : List (List Va)} {i : Nat} (h : i < X.length) : gg (X ++ Y) i = gg X i := by simp only [gg, List.getD_eq_getElem?_getD]; rw [List.getElem?_append_left h]
theorem plc_nofit {a : List Va} {X : List (List Va)} (hX : ∀ x ∈ X, fitB a x = false) : plc a X < 0 := idx_neg.2 fun i hi => hX _ (gg_mem hi)
theorem plc_mid {a : List Va} {X Y : List (List Va)} {t : List Va} (hX : ∀ x ∈ X, fitB a x = false) (ht : fitB a t = true) : plc a (X ++ t :: Y) = (X.length : Int) := by
  have h0 : 0 ≤ plc a (X ++ t :: Y) := by
    by_cases h : plc a (X ++ t :: Y) < 0
    · have := idx_neg.1 h X.length (by simp)
      simp only [gg_mid, ht] at this
      cases this
    · omega
  obtain ⟨i, h1, h2, h3, h4⟩ := idx_at h0
  have : i = X.length := by
    rcases Nat.lt_trichotomy i X.length with h | h | h
    · simp only [gg_left h] at h3
      rw [hX _ (gg_mem h)] at h3; cases h3
    · exact h
    · have := h4 X.length h
      simp only [gg_mid, ht] at this
      cases this
  rw [← this]; exact h1
theorem fin_mid {a : List Va} {X Y : List (List Va)} {t : List Va} (h : liE a = 0) (hX : ∀ x ∈ X, fitB a x = false) (ht : fitB a t = true) : finE a (X ++ t :: Y) = 0 := by
  rw [finE, if_neg (by simp [h]), if_neg (by rw [plc_mid hX ht]; omega)]
theorem fin_five {a : List Va} {X : List (List Va)} (h : liE a = 0) (hX : ∀ x ∈ X, fitB a x = false) : finE a X = 5 := by
  rw [finE, if_neg (by simp [h]), if_pos (plc_nofit hX)]
/-- what of P does not fit, among the first i; how many fit -/
def lf (a : List Va) (P : List (List Va)) (i : Nat) : List (List Va) := (P.take i).filter fun t => !fitB a t
def nf (a : List Va) (P : List (List Va)) : Nat := (P.filter (fitB a)).length
theorem take_one {P : List (List Va)} {i : Nat} (h : i < P.length) : P.take (i + 1) = P.take i ++ [gg P i] := by
  rw [List.take_add_one, List.getElem?_eq_getElem h]; simp [gg, List.getD_eq_getElem?_getD, List.getElem?_eq_getElem h]
theorem drop_one {P : List (List Va)} {i : Nat} (h : i < P.length) : P.drop i = gg P i :: P.drop (i + 1) := by
  rw [List.drop_eq_getElem_cons h]; simp [gg, List.getD_eq_getElem?_getD, List.getElem?_eq_getElem h]
theorem lf_yes {a : List Va} {P : List (List Va)} {i : Nat} (h : i < P.length) (hf : fitB a (gg P i) = true) : lf a P (i + 1) = lf a P i := by
  rw [lf, take_one h, List.filter_append]; simp [lf, hf]
theorem lf_no {a : List Va} {P : List (List Va)} {i : Nat} (h : i < P.length) (hf : fitB a (gg P i) = false) : lf a P (i + 1) = lf a P i ++ [gg P i] := by
  rw [lf, take_one h, List.filter_append]; simp [lf, hf]
theorem lf_mem {a : List Va} {P : List (List Va)} {i : Nat} : ∀ x ∈ lf a P i, fitB a x = false := fun x hx => by
  rw [lf, List.mem_filter] at hx; simpa using hx.2
theorem nf_yes {a : List Va} {P : List (List Va)} {i : Nat} (h : i < P.length) (hf : fitB a (gg P i) = true) : nf a (P.drop i) = nf a (P.drop (i + 1)) + 1 := by
  rw [nf, drop_one h, List.filter_cons_of_pos hf]; rfl
theorem nf_no {a : List Va} {P : List (List Va)} {i : Nat} (h : i < P.length) (hf : fitB a (gg P i) = false) : nf a (P.drop i) = nf a (P.drop (i + 1)) := by
  rw [nf, drop_one h, List.filter_cons_of_neg (by rw [hf]; decide)]; rfl
theorem cnt_nf (a : List Va) (P : List (List Va)) : ∀ k, k ≤ P.length → cnt a P k = nf a (P.take k)
  | 0, _ => rfl
  | k + 1, h => by
    rw [cnt, cnt_nf a P k (by omega), take_one (by omega)]
    unfold nf
    rw [List.filter_append]
    cases hf : fitB a (gg P k) <;> simp [hf]
theorem cnt_all (a : List Va) (P : List (List Va)) : cnt a P P.length = nf a P := by rw [cnt_nf a P _ (Nat.le_refl _), List.take_length]
theorem erase_mid (X Y : List (List Va)) (t : List Va) : (X ++ t :: Y).eraseIdx X.length = X ++ Y := by
  rw [List.eraseIdx_append_of_length_le (Nat.le_refl _), Nat.sub_self]; rfl
/-- a space, and two slices of tuples -/
structure SK (w0 w : World) (p : Nat) (g : Option Nat) (L : List (List Va)) (A1 : Option Addr) (c1 : Nat) (P : List (List Va)) (A2 : Option Addr) (c2 : Nat) (Q : List (List Va)) : Prop where
  h0 : HG w0
  s : Spc w w0.heap.size p g L
  o1 : OMany Vals 32 31 w w0.heap.size A1 c1 P
  o2 : OMany Vals 32 31 w w0.heap.size A2 c2 Q
  b : Below w0.heap.size w0 w
  n1 : ∀ b, (Value.slice A1 P.length c1).ownBlock = some b → g ≠ some b ∧ (Value.slice A2 Q.length c2).ownBlock ≠ some b
  n2 : ∀ b, (Value.slice A2 Q.length c2).ownBlock = some b → g ≠ some b
/-- a slice of tuples stays while other blocks are changed -/
theorem OMany.far {w w' : World} {base c : Nat} {A : Option Addr} {L : List (List Va)} {M : Nat → Prop} (h : OMany Vals 32 31 w base A c L) (hbs : base ≤ w.heap.size) (k : Chs M w w') (hM : ∀ b, M b → base ≤ b ∧ ¬ Go.Proofs.YtfelefkmbbfdjaaGreatDoor.kin w b 31 ∧ (Value.slice A L.length c).ownBlock ≠ some b) : OMany Vals 32 31 w' base A c L :=
  h.stay vals_stay hbs k.size fun b h1 h2 => k.block b h1 fun h3 => by
    obtain ⟨q1, q2, q3⟩ := hM b h3
    rcases h2 with h2 | h2 | h2
    · omega
    · exact q2 h2
    · exact q3 h2
section
variable {w0 w w' : World} {p : Nat} {g g' : Option Nat} {L L' P Q : List (List Va)} {A1 A2 : Option Addr} {c1 c2 : Nat}
theorem SK.d (j : SK w0 w p g L A1 c1 P A2 c2 Q) : DG w0 w := ⟨j.h0.below j.b, j.b⟩
theorem SK.keep (j : SK w0 w p g L A1 c1 P A2 c2 Q) (hb : Below w.heap.size w w') : SK w0 w' p g L A1 c1 P A2 c2 Q := ⟨j.h0, j.s.keep hb, j.o1.keep vals_stay j.s.hb hb, j.o2.keep vals_stay j.s.hb hb, bcl j.b hb, j.n1, j.n2⟩
theorem SK.spc (j : SK w0 w p g L A1 c1 P A2 c2 Q) (k : Chg p g w w') (hs : Spc w' w0.heap.size p g' L') (n : Nw g g' w.heap.size) : SK w0 w' p g' L' A1 c1 P A2 c2 Q := by
  have hM : ∀ b, RM p g b → w0.heap.size ≤ b ∧ ¬ kin w b 31 ∧ (Value.slice A1 P.length c1).ownBlock ≠ some b ∧ (Value.slice A2 Q.length c2).ownBlock ≠ some b := by
    rintro b (rfl | hb)
    · exact ⟨j.s.hp, fun h => kin_ne h j.s.kin (by decide) rfl, fun e => kin_ne j.s.kin (j.o1.gkin e).2 (by decide) rfl, fun e => kin_ne j.s.kin (j.o2.gkin e).2 (by decide) rfl⟩
    · exact ⟨(j.s.gkin hb).1, fun h => kin_ne h (j.s.gkin hb).2 (by decide) rfl, fun e => (j.n1 b e).1 hb, fun e => j.n2 b e hb⟩
  have hg : ∀ b, g' = some b → g = some b ∨ w.heap.size ≤ b := fun b hb => by
    rcases n with rfl | ⟨c, rfl, hc⟩
    · exact .inl hb
    · injection hb with hb; subst hb; exact .inr hc
  refine ⟨j.h0, hs, j.o1.far j.s.hb k.chs fun b hb => ⟨(hM b hb).1, (hM b hb).2.1, (hM b hb).2.2.1⟩, j.o2.far j.s.hb k.chs fun b hb => ⟨(hM b hb).1, (hM b hb).2.1, (hM b hb).2.2.2⟩, j.b.trans (j.s.below k), fun b hb => ⟨fun h2 => ?_, (j.n1 b hb).2⟩, fun b hb h2 => ?_⟩
  · rcases hg b h2 with h | h
    · exact (j.n1 b hb).1 h
    · have := (j.o1.gkin hb).2.lt; omega
  · rcases hg b h2 with h | h
    · exact j.n2 b hb h
    · have := (j.o2.gkin hb).2.lt; omega
theorem SK.app1 (j : SK w0 w p g L A1 c1 P A2 c2 Q) {b c' : Nat} {l : List Va} (hg : w.grownBy w' (Value.slice A1 P.length c1).ownBlock) (ho : OMany Vals 32 31 w' w0.heap.size (some ⟨b, 0, none⟩) c' (P ++ [l])) (hx : (Value.slice A1 P.length c1).ownBlock = some b ∨ b = w.heap.size) :
    SK w0 w' p g L (some ⟨b, 0, none⟩) c' (P ++ [l]) A2 c2 Q := by
  have k : Chs (fun b => (Value.slice A1 P.length c1).ownBlock = some b) w w' := Chs.grown hg
  have hM : ∀ b, (Value.slice A1 P.length c1).ownBlock = some b → w0.heap.size ≤ b ∧ ¬ kin w b 31 := fun b hb => ⟨(j.o1.gkin hb).1, fun h => kin_ne h (j.o1.gkin hb).2 (by decide) rfl⟩
  refine ⟨j.h0, j.s.farC k fun b hb => ⟨(hM b hb).1, (hM b hb).2, fun e => kin_ne (j.o1.gkin hb).2 j.s.kin (by decide) e, (j.n1 b hb).1⟩, ho, j.o2.far j.s.hb k fun b hb => ⟨(hM b hb).1, (hM b hb).2, (j.n1 b hb).2⟩, j.b.trans (k.below (fun b hb => (hM b hb).1) j.s.hb), fun b' hb' => ?_, j.n2⟩
  have hb2 : some b = some b' := hb'
  injection hb2 with hb2
  subst hb2
  rcases hx with h | h
  · exact j.n1 _ h
  · subst h
    exact ⟨fun e => by have := (j.s.gkin e).2.lt; omega, fun e => by have := (j.o2.gkin e).2.lt; omega⟩
theorem SK.app2 (j : SK w0 w p g L A1 c1 P A2 c2 Q) {b c' : Nat} {l : List Va} (hg : w.grownBy w' (Value.slice A2 Q.length c2).ownBlock) (ho : OMany Vals 32 31 w' w0.heap.size (some ⟨b, 0, none⟩) c' (Q ++ [l])) (hx : (Value.slice A2 Q.length c2).ownBlock = some b ∨ b = w.heap.size) :
    SK w0 w' p g L A1 c1 P (some ⟨b, 0, none⟩) c' (Q ++ [l]) := by
  have k : Chs (fun b => (Value.slice A2 Q.length c2).ownBlock = some b) w w' := Chs.grown hg
  have hM : ∀ b, (Value.slice A2 Q.length c2).ownBlock = some b → w0.heap.size ≤ b ∧ ¬ kin w b 31 := fun b hb => ⟨(j.o2.gkin hb).1, fun h => kin_ne h (j.o2.gkin hb).2 (by decide) rfl⟩
  refine ⟨j.h0, j.s.farC k fun b hb => ⟨(hM b hb).1, (hM b hb).2, fun e => kin_ne (j.o2.gkin hb).2 j.s.kin (by decide) e, j.n2 b hb⟩, j.o1.far j.s.hb k fun b hb => ⟨(hM b hb).1, (hM b hb).2, fun e => (j.n1 b e).2 hb⟩, ho, j.b.trans (k.below (fun b hb => (hM b hb).1) j.s.hb), fun b1 hb1 => ⟨(j.n1 b1 hb1).1, fun hb' => ?_⟩, fun b' hb' => ?_⟩
  · have hb2 : some b = some b1 := hb'
    injection hb2 with hb2
    subst hb2
    rcases hx with h | h
    · exact (j.n1 _ hb1).2 h
    · subst h
      have := (j.o1.gkin hb1).2.lt; omega
  · have hb2 : some b = some b' := hb'
    injection hb2 with hb2
    subst hb2
    rcases hx with h | h
    · exact j.n2 _ h
    · subst h
      exact fun e => by have := (j.s.gkin e).2.lt; omega
theorem SK.vals (j : SK w0 w p g L A1 c1 P A2 c2 Q) {A : Option Addr} {t : List Va} (hA : Vals w0 A t) : Vals w A t := hA.below j.b (Nat.le_refl _)
theorem SK.vin (j : SK w0 w p g L A1 c1 P A2 c2 Q) {A : Option Addr} {t : List Va} (hA : Vals w0 A t) : Vin w w0.heap.size A t := (Vin.of_arg hA (Nat.le_refl _)).below j.b (Nat.le_refl _) (Nat.le_refl _)
theorem sk_put (j : SK w0 w p g L A1 c1 P A2 c2 Q) (A : Option Addr) (c : Nat) (t : List Va) (hm : t.length ≤ maxLen) (hok : okL t) (hA : Vals w0 A t) :
    Calls Tryz.prog 67 #[.pointer (some ⟨p, 0, none⟩), .slice A t.length c] w fun e w' => e = .returned (eV (putE L t)) ∧ ∃ g', SK w0 w' p g' (putL L t) A1 c1 P A2 c2 Q :=
  (spput_any _ p g L A c t hm hok w j.s (j.vals hA)).mono fun e w' ⟨h1, g', h2, h3, h4⟩ => ⟨h1, g', j.spc h3 h2 h4⟩
theorem sk_take (j : SK w0 w p g L A1 c1 P A2 c2 Q) (A : Option Addr) (c : Nat) (a : List Va) (hm : a.length ≤ maxLen) (hok : okL a) (hA : Vals w0 A a) :
    Calls Tryz.prog 65 #[.pointer (some ⟨p, 0, none⟩), .slice A a.length c] w fun e w' => ∃ B C, e = .returned (.tuple #[.slice B (rT a L).length C, eV (finE a L)]) ∧ Vals w' B (rT a L) ∧ Chg p g w w' ∧ SK w0 w' p g (rL a L) A1 c1 P A2 c2 Q := by
  by_cases h : finE a L = 0
  · obtain ⟨k', hk', hp', h1, h2⟩ := fin_at h
    obtain ⟨k, hk, hp, _, _, hcl⟩ := sptake_ok _ p g L A c a hm hok w j.s (j.vals hA) h
    obtain rfl : k = k' := by omega
    rw [h, h1, h2, eV_zero]
    exact hcl.mono fun e w' ⟨B, C, e1, e2, e3, e4, e5, e6, e7⟩ => ⟨B, C, e1, e2, e7, j.spc e7 e6 (Nw.refl _ _)⟩
  · rw [rT, rL, if_neg h, if_neg h, eV_of h]
    exact (sptake_no _ p g L A c a hm hok w j.s (j.vals hA) h).mono fun e w' ⟨e1, e2⟩ => ⟨none, 0, e1, vals_nil, Chg.of_below e2, j.keep e2⟩
theorem sk_all (j : SK w0 w p g L A1 c1 P A2 c2 Q) :
    Calls Tryz.prog 51 #[.pointer (some ⟨p, 0, none⟩)] w fun e w' => ∃ A' c', e = .returned (.slice A' L.length c') ∧ Many Vals w' A' L ∧ Below w.heap.size w w' :=
  (spall_any _ p g L w j.s).mono fun e w' ⟨A', c', e1, e2, e3⟩ => ⟨A', c', e1, e2.many, e3⟩
end
set_option maxHeartbeats 800000 in
set_option maxRecDepth 100000 in
theorem spread_any (base p : Nat) (g : Option Nat) (L : List (List Va)) (A : Option Addr) (c : Nat) (a : List Va) (hm : a.length ≤ maxLen) (hok : okL a) (w : World) (hS : Spc w base p g L) (hA : Vals w A a) (h : finE a L = 0) :
    Calls Tryz.prog 63 #[.pointer (some ⟨p, 0, none⟩), .slice A a.length c] w fun e w' => ∃ B C, e = .returned (.tuple #[.slice B (rT a L).length C, .nilIface]) ∧ Vin w' base B (rT a L) ∧ Below w.heap.size w w' := by
  obtain ⟨E, n, q1, q2, q3⟩ := hS.there
  have q1 : AtP w p (.slice E L.length n) := q1
  have hl := hS.len
  have c1 := spfind_any p A c a hm hok E n L (by unfold maxLen; omega) w hA q3.many q1.cell
  obtain ⟨k, hk, hp, h1, h2⟩ := fin_at h
  rw [finV, if_pos h, h, eV_zero, hp] at c1
  rw [h1]
  obtain ⟨z0, z5⟩ := tu_len (hS.ok _ (gg_mem hk)).2
  have cc := fun (W : World) (B : Option Addr) (C : Nat) (hW : Vals W B (gg L k)) => clone_any B C (gg L k) z0 (by omega) W hW
  have hb0 := hS.hb
  have C1 := Lib.hid c1; have CC := Lib.hid cc; have HB0 := Lib.hid hb0; clear c1 cc z0 z5 h1 h2 h hp hS hb0 q2 hA hok hm
  go_enter Tryz.func63, Tryz.ntmps63
  go_wp2_with (first | (go_at_call 88; refine C1.out.mono ?_; rintro e w1 ⟨rfl, hb1⟩; have hc1 := (q1.below hb1).cell; have q4 := q3.keep vals_stay HB0.out hb1; obtain ⟨b, B, C, rfl, hcc, hv, hC1, hC2, hin⟩ := q4.vat hk; have HV := Lib.hid hv; clear hv hin q4) | (go_at_call 40; refine (CC.out _ _ _ HV.out).mono ?_; rintro e w2 ⟨A2, c2, rfl, ho2, hb2⟩; have HO2 := Lib.hid ho2; clear ho2))
  go_ret2
  exact ⟨A2, c2, rfl, ⟨HO2.out.vals, fun _ => Inn.own HO2.out⟩, bcl hb1 hb2⟩
end Go.Proofs.YtfelefkmbbfdjaaGreatDoor
