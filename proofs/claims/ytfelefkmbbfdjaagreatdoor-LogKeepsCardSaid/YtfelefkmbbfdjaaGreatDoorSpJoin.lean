/- A space and the reference's side by side. -/
import Derived.Test.YtfelefkmbbfdjaaGreatDoorRSpOps
import Derived.Test.YtfelefkmbbfdjaaGreatDoorOnce
import Derived.Test.YtfelefkmbbfdjaaGreatDoorDoor
namespace Go.Proofs.YtfelefkmbbfdjaaGreatDoor
open Go.ChangeShapes Go.WideShapes Go.ChangeAt Go.RowKit
set_option linter.unusedVariables false

/-- what a Read or a Take gives, and what it leaves -/
def rT (a : List Va) (L : List (List Va)) : List Va := if finE a L = 0 then gg L (plc a L).toNat else []
def rL (a : List Va) (L : List (List Va)) : List (List Va) := if finE a L = 0 then L.eraseIdx (plc a L).toNat else L
theorem fin_at {a : List Va} {L : List (List Va)} (h : finE a L = 0) : ∃ k : Nat, k < L.length ∧ plc a L = (k : Int) ∧ rT a L = gg L k ∧ rL a L = L.eraseIdx k := by
  obtain ⟨k, hk, hp, _⟩ := plc_at (fin_zero h).2
  have ht : (plc a L).toNat = k := by rw [hp]; rfl
  exact ⟨k, hk, hp, by rw [rT, if_pos h, ht], by rw [rL, if_pos h, ht]⟩
theorem vals_nil {w : World} {B : Option Addr} : Vals w B [] := Sl.zero
theorem vin_nil {w : World} {base : Nat} {B : Option Addr} : Vin w base B [] := ⟨vals_nil, fun h => absurd h (by simp)⟩
theorem Chg.chs {p : Nat} {g : Option Nat} {w w' : World} (k : Chg p g w w') : Chs (RM p g) w w' := ⟨k.os, k.tape, k.output, k.size, fun b hb h => k.block b hb (fun e => h (.inl e)) (fun e => h (.inr e.symm))⟩
theorem Spc.farC {w w' : World} {base p : Nat} {g : Option Nat} {L : List (List Va)} {M : Nat → Prop} (h : Spc w base p g L) (k : Chs M w w') (hM : ∀ b, M b → base ≤ b ∧ ¬ Go.Proofs.YtfelefkmbbfdjaaGreatDoor.kin w b 31 ∧ b ≠ p ∧ g ≠ some b) : Spc w' base p g L := by
  obtain ⟨A, c, h1, h2, h3⟩ := h.there
  have hs : ∀ b, b < w.heap.size → (b < base ∨ Go.Proofs.YtfelefkmbbfdjaaGreatDoor.kin w b 31 ∨ b = p ∨ g = some b) → w'.heap[b]? = w.heap[b]? := fun b h1 h2 => k.block b h1 fun h3 => by
    obtain ⟨q1, q2, q3, q4⟩ := hM b h3
    rcases h2 with h2 | h2 | h2 | h2
    · omega
    · exact q2 h2
    · exact q3 h2
    · exact q4 h2
  refine ⟨⟨A, c, (hs p h.lt (.inr (.inr (.inl rfl)))).trans h1, h2, h3.stay vals_stay h.hb k.size fun b hb hw => hs b hb ?_⟩, h.hp, Nat.le_trans h.hb k.size, h.len, h.ok⟩
  rcases hw with hw | hw | hw
  · exact .inl hw
  · exact .inr (.inl hw)
  · exact .inr (.inr (.inr (h2.symm.trans hw)))
/-- the two spaces, all made since w0 -/
structure Jo (w0 w : World) (p : Nat) (g : Option Nat) (p2 : Nat) (g2 : Option Nat) (L L2 : List (List Va)) : Prop where
  h0 : HG w0
  s : Spc w w0.heap.size p g L
  r : RSp w w0.heap.size p2 g2 L2
  b : Below w0.heap.size w0 w
  n : ∀ b, g = some b → g2 ≠ some b
section
variable {w0 w w' : World} {p p2 : Nat} {g g2 g' g2' : Option Nat} {L L2 L' L2' : List (List Va)}
theorem Jo.d (j : Jo w0 w p g p2 g2 L L2) : DG w0 w := ⟨j.h0.below j.b, j.b⟩
theorem Jo.keep (j : Jo w0 w p g p2 g2 L L2) (hb : Below w.heap.size w w') : Jo w0 w' p g p2 g2 L L2 := ⟨j.h0, j.s.keep hb, j.r.keep hb, bcl j.b hb, j.n⟩
theorem Jo.spc (j : Jo w0 w p g p2 g2 L L2) (k : Chg p g w w') (hs : Spc w' w0.heap.size p g' L') (n : Nw g g' w.heap.size) : Jo w0 w' p g' p2 g2 L' L2 := by
  refine ⟨j.h0, hs, j.r.far k.chs ?_, j.b.trans (j.s.below k), ?_⟩
  · rintro b (rfl | hb)
    · exact ⟨j.s.hp, fun h => kin_ne h j.s.kin (by decide) rfl, fun e => kin_ne j.s.kin j.r.kin (by decide) e, fun e => kin_ne j.s.kin (j.r.gkin e).2 (by decide) rfl⟩
    · exact ⟨(j.s.gkin hb).1, fun h => kin_ne h (j.s.gkin hb).2 (by decide) rfl, fun e => kin_ne (j.s.gkin hb).2 j.r.kin (by decide) e, j.n b hb⟩
  · intro b hb h2
    rcases n with rfl | ⟨c, rfl, hc⟩
    · exact j.n b hb h2
    · injection hb with hb
      subst hb
      have := (j.r.gkin h2).2.lt
      omega
theorem Jo.rsp (j : Jo w0 w p g p2 g2 L L2) (k : Chs (RM p2 g2) w w') (hr : RSp w' w0.heap.size p2 g2' L2') (n : Nwb g2 g2' w.heap.size) : Jo w0 w' p g p2 g2' L L2' := by
  have hM : ∀ b, RM p2 g2 b → w0.heap.size ≤ b ∧ ¬ kin w b 31 ∧ b ≠ p ∧ g ≠ some b := by
    rintro b (rfl | hb)
    · exact ⟨j.r.hp, fun h => kin_ne h j.r.kin (by decide) rfl, fun e => kin_ne j.r.kin j.s.kin (by decide) e, fun e => kin_ne j.r.kin (j.s.gkin e).2 (by decide) rfl⟩
    · exact ⟨(j.r.gkin hb).1, fun h => kin_ne h (j.r.gkin hb).2 (by decide) rfl, fun e => kin_ne (j.r.gkin hb).2 j.s.kin (by decide) e, fun e => j.n b e hb⟩
  refine ⟨j.h0, j.s.farC k hM, hr, j.b.trans (k.below (fun b hb => (hM b hb).1) j.s.hb), ?_⟩
  intro b hb h2
  rcases n b h2 with h | h
  · exact j.n b hb h
  · have := (j.s.gkin hb).2.lt
    omega
theorem Jo.vin (j : Jo w0 w p g p2 g2 L L2) {A : Option Addr} {t : List Va} (hA : Vals w0 A t) : Vin w w0.heap.size A t := (Vin.of_arg hA (Nat.le_refl _)).below j.b (Nat.le_refl _) (Nat.le_refl _)
theorem Jo.vals (j : Jo w0 w p g p2 g2 L L2) {A : Option Addr} {t : List Va} (hA : Vals w0 A t) : Vals w A t := hA.below j.b (Nat.le_refl _)
end
theorem jput_s {w0 w : World} {p p2 : Nat} {g g2 : Option Nat} {L L2 : List (List Va)} (A : Option Addr) (c : Nat) (t : List Va) (hm : t.length ≤ maxLen) (hok : okL t) (hA : Vals w0 A t) (j : Jo w0 w p g p2 g2 L L2) :
    Calls Tryz.prog 67 #[.pointer (some ⟨p, 0, none⟩), .slice A t.length c] w fun e w' => e = .returned (eV (putE L t)) ∧ ∃ g', Jo w0 w' p g' p2 g2 (putL L t) L2 :=
  (spput_any _ p g L A c t hm hok w j.s (j.vals hA)).mono fun e w' ⟨h1, g', h2, h3, h4⟩ => ⟨h1, g', j.spc h3 h2 h4⟩
theorem jput_r {w0 w : World} {p p2 : Nat} {g g2 : Option Nat} {L L2 : List (List Va)} (A : Option Addr) (c : Nat) (t : List Va) (hc : t.length ≤ c) (hm : c ≤ maxLen) (hok : okL t) (hA : Vals w0 A t) (j : Jo w0 w p g p2 g2 L L2) :
    Calls Tryz.prog 33 #[.pointer (some ⟨p2, 0, none⟩), .slice A t.length c] w fun e w' => e = .returned (.int .i64 (putE L2 t)) ∧ ∃ g', Jo w0 w' p g p2 g' L (putL L2 t) :=
  (rput_any _ p2 g2 L2 A c t hc hm hok w j.r (j.vin hA)).mono fun e w' ⟨h1, g', h2, h3, h4⟩ => ⟨h1, g', j.rsp h3 h2 h4⟩
theorem jget_r {w0 w : World} {p p2 : Nat} {g g2 : Option Nat} {L L2 : List (List Va)} (A : Option Addr) (c : Nat) (a : List Va) (hm : a.length ≤ maxLen) (hok : okL a) (hA : Vals w0 A a) (x : Bool) (j : Jo w0 w p g p2 g2 L L2) :
    Calls Tryz.prog 34 #[.pointer (some ⟨p2, 0, none⟩), .slice A a.length c, .bool x] w fun e w' => ∃ B C, e = .returned (.tuple #[.slice B (rT a L2).length C, .int .i64 (finE a L2)]) ∧ Vin w' w0.heap.size B (rT a L2) ∧ ∃ g', Jo w0 w' p g p2 g' L (if x = true then rL a L2 else L2) := by
  by_cases h : finE a L2 = 0
  · obtain ⟨k, hk, hp, h1, h2⟩ := fin_at h
    rw [h, h1, h2]
    cases x with
    | false => exact (rget_read _ p2 g2 L2 A c a hm hok w j.r (j.vals hA) k hk hp h).mono fun e w' ⟨B, C, e1, e2, e3, e4, e5, e6⟩ => ⟨B, C, e1, ⟨e2, fun _ => e5⟩, g2, by rw [if_neg (by decide)]; exact j.keep e6⟩
    | true => exact (rget_take _ p2 g2 L2 A c a hm hok w j.r (j.vals hA) k hk hp h).mono fun e w' ⟨B, C, g', e1, e2, e3, e4, e5, e6, e7, e8⟩ => ⟨B, C, e1, ⟨e2, fun _ => e5⟩, g', by rw [if_pos rfl]; exact j.rsp e7 e6 e8⟩
  · rw [rT, rL, if_neg h, if_neg h]
    refine (rget_no _ p2 g2 L2 A c a hm hok w j.r (j.vals hA) x h).mono fun e w' ⟨e1, e2⟩ => ⟨none, 0, e1, vin_nil, g2, ?_⟩
    rw [ite_self]
    exact j.keep e2
theorem jtake_s {w0 w : World} {p p2 : Nat} {g g2 : Option Nat} {L L2 : List (List Va)} (A : Option Addr) (c : Nat) (a : List Va) (hm : a.length ≤ maxLen) (hok : okL a) (hA : Vals w0 A a) (j : Jo w0 w p g p2 g2 L L2) :
    Calls Tryz.prog 65 #[.pointer (some ⟨p, 0, none⟩), .slice A a.length c] w fun e w' => ∃ B C, e = .returned (.tuple #[.slice B (rT a L).length C, eV (finE a L)]) ∧ Vals w' B (rT a L) ∧ Chg p g w w' ∧ Jo w0 w' p g p2 g2 (rL a L) L2 := by
  by_cases h : finE a L = 0
  · obtain ⟨k', hk', hp', h1, h2⟩ := fin_at h
    obtain ⟨k, hk, hp, _, _, hcl⟩ := sptake_ok _ p g L A c a hm hok w j.s (j.vals hA) h
    obtain rfl : k = k' := by omega
    rw [h, h1, h2, eV_zero]
    exact hcl.mono fun e w' ⟨B, C, e1, e2, e3, e4, e5, e6, e7⟩ => ⟨B, C, e1, e2, e7, j.spc e7 e6 (Nw.refl _ _)⟩
  · rw [rT, rL, if_neg h, if_neg h, eV_of h]
    exact (sptake_no _ p g L A c a hm hok w j.s (j.vals hA) h).mono fun e w' ⟨e1, e2⟩ => ⟨none, 0, e1, vals_nil, Chg.of_below e2, j.keep e2⟩
theorem jall_s {w0 w : World} {p p2 : Nat} {g g2 : Option Nat} {L L2 : List (List Va)} (j : Jo w0 w p g p2 g2 L L2) :
    Calls Tryz.prog 51 #[.pointer (some ⟨p, 0, none⟩)] w fun e w' => ∃ A' c', e = .returned (.slice A' L.length c') ∧ Many Vals w' A' L ∧ Below w.heap.size w w' :=
  (spall_any _ p g L w j.s).mono fun e w' ⟨A', c', e1, e2, e3⟩ => ⟨A', c', e1, e2.many, e3⟩
/-- the reference's list is read -/
theorem Jo.list {w0 w : World} {p p2 : Nat} {g g2 : Option Nat} {L L2 : List (List Va)} (j : Jo w0 w p g p2 g2 L L2) : ∃ E n, w.cell? ⟨p2, 0, none⟩ = some (.slice E L2.length n) ∧ Many Vals w E L2 ∧ L2.length ≤ 20 ∧ p2 < w.heap.size := by
  obtain ⟨E, n, q1, q2, q3⟩ := j.r.there
  exact ⟨E, n, q1.cell (i := 0) rfl, q3.many, j.r.len, j.r.lt⟩
set_option maxHeartbeats 800000 in
set_option maxRecDepth 100000 in
theorem jread_s {w0 w : World} {p p2 : Nat} {g g2 : Option Nat} {L L2 : List (List Va)} (A : Option Addr) (c : Nat) (a : List Va) (hm : a.length ≤ maxLen) (hok : okL a) (hA : Vals w0 A a) (j : Jo w0 w p g p2 g2 L L2) :
    Calls Tryz.prog 63 #[.pointer (some ⟨p, 0, none⟩), .slice A a.length c] w fun e w' => ∃ B C, e = .returned (.tuple #[.slice B (rT a L).length C, eV (finE a L)]) ∧ Vals w' B (rT a L) ∧ Below w.heap.size w w' := by
  obtain ⟨E, n, q1, q2, q3⟩ := j.s.there
  have q1 : AtP w p (.slice E L.length n) := q1
  have hl := j.s.len
  have c1 := spfind_any p A c a hm hok E n L (by unfold maxLen; omega) w (j.vals hA) q3.many q1.cell
  by_cases h : finE a L = 0
  · obtain ⟨k, hk, hp, h1, h2⟩ := fin_at h
    rw [finV, if_pos h, h, eV_zero, hp] at c1
    rw [h, h1, eV_zero]
    have hmem : gg L k ∈ L := by simp only [gg, List.getD_eq_getElem?_getD, List.getElem?_eq_getElem hk, Option.getD_some]; exact List.getElem_mem hk
    obtain ⟨z0, z5⟩ := tu_len (j.s.ok _ hmem).2
    have cc := fun (W : World) (B : Option Addr) (C : Nat) (hW : Vals W B (gg L k)) => clone_any B C (gg L k) z0 (by omega) W hW
    have hb0 := j.s.hb
    have C1 := Lib.hid c1; have CC := Lib.hid cc; have HB0 := Lib.hid hb0; clear c1 cc z0 z5 hmem h1 h2 h hp j hb0 q2 hA hok hm
    go_enter Tryz.func63, Tryz.ntmps63
    go_wp2_with (first | (go_at_call 88; refine C1.out.mono ?_; rintro e w1 ⟨rfl, hb1⟩; have hc1 := (q1.below hb1).cell; have q4 := q3.keep vals_stay HB0.out hb1; obtain ⟨b, B, C, rfl, hcc, hv, hC1, hC2, hin⟩ := q4.vat hk; have HV := Lib.hid hv; clear hv hin q4) | (go_at_call 40; refine (CC.out _ _ _ HV.out).mono ?_; rintro e w2 ⟨A2, c2, rfl, ho2, hb2⟩; have HO2 := Lib.hid ho2; clear ho2))
    go_ret2
    exact ⟨A2, c2, rfl, HO2.out.vals, bcl hb1 hb2⟩
  · rw [finV, if_neg h, eV_of h] at c1
    rw [rT, if_neg h, eV_of h]
    generalize finE a L = X at *
    have C1 := Lib.hid c1; clear c1 h j q1 q2 q3 hA hok hm
    go_enter Tryz.func63, Tryz.ntmps63
    go_wp2_with (go_at_call 88; refine C1.out.mono ?_; rintro e w1 ⟨rfl, hb1⟩)
    go_ret2
    exact ⟨none, 0, rfl, vals_nil, hb1⟩
end Go.Proofs.YtfelefkmbbfdjaaGreatDoor
