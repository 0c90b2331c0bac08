/- Package log: record, step, Do where nothing is redone; package mirror: Again. -/
import Derived.Test.YtpgemofkolmabaaGreatDoorLogNew
namespace Go.Proofs.YtpgemofkolmabaaGreatDoor
open Go.ChangeShapes Go.WideShapes Go.ChangeAt Go.RowKit Go.Joins Go.Deep Go.Maps Go.WideMaps
set_option linter.unusedVariables false

theorem strs_four {W : World} {b : Nat} {x y z t : ByteArray} (h : AtB W b #[.string x, .string y, .string z, .string t] 9) : Strs W (some ⟨b, 0, none⟩) [x, y, z, t] := fun _ => ⟨b, 0, rfl, h.lt, fun i hi j hj => by
  obtain rfl : j = 0 := by omega
  have hi4 : i < 4 := hi
  rcases (show i = 0 ∨ i = 1 ∨ i = 2 ∨ i = 3 by omega) with rfl | rfl | rfl | rfl <;> exact h.cell rfl⟩
set_option maxHeartbeats 1600000 in
set_option maxRecDepth 100000 in
theorem rec_any (a : Ak) (h : Rcd a) (A : Option Addr) (c : Nat) (w : World) (ht : ∀ W, Below w.heap.size w W → TT W) (hA : Vals w A a.t) :
    Calls Tryz.prog 42 #[akv a A c] w fun e w' => e = .returned (.string (recB a)) ∧ Below w.heap.size w w' := by
  obtain ⟨_, h5, hr⟩ := rgt_of h.li
  have h1 := h.w0; have h2 := h.w1; have h3 := h.q0; have h4 := h.q1; have h6 := h.d0; have h7 := h.d1
  have ci1 := fun (W : World) (hb : Below w.heap.size w W) => itoa_any a.w (by omega) (by omega) W (ht W hb)
  have ci2 := fun (W : World) (hb : Below w.heap.size w W) => itoa_any a.q (by omega) (by omega) W (ht W hb)
  have ci3 := fun (W : World) (hb : Below w.heap.size w W) => itoa_any a.d (by omega) (by omega) W (ht W hb)
  have ct := fun (W : World) (hb : Below w.heap.size w W) => tword_any A c a.t (by omega) hr W (hA.below hb (Nat.le_refl _)) (ht W hb)
  have cj := fun (W : World) (B : Nat) (hB : AtB W B #[.string (itB a.w), .string (itB a.q), .string (itB a.d), .string (lin a.t)] 9) => join_any (some ⟨B, 0, none⟩) 4 [itB a.w, itB a.q, itB a.d, lin a.t] ⟨#[32]⟩ W (strs_four hB) (Nat.le_refl _) (show 4 ≤ 1000000 by decide) (by have := rcB_size h; unfold rcB at this; omega)
  have hsz := rcB_size h
  have hrec : recB a = rcB a ++ ⟨#[10]⟩ := rfl
  rw [show jn [itB a.w, itB a.q, itB a.d, lin a.t] ⟨#[32]⟩ = rcB a from rfl] at cj
  rw [show (ByteArray.mk (Lib.itoa a.w).toArray) = itB a.w from rfl] at ci1
  rw [show (ByteArray.mk (Lib.itoa a.q).toArray) = itB a.q from rfl] at ci2
  rw [show (ByteArray.mk (Lib.itoa a.d).toArray) = itB a.d from rfl] at ci3
  rw [hrec]
  generalize rcB a = rc at *
  generalize itB a.w = x1 at *
  generalize itB a.q = x2 at *
  generalize itB a.d = x3 at *
  generalize lin a.t = x4 at *
  obtain ⟨W1, hW1⟩ : ∃ W1, W1 = w.alloc (.cells #[.int .i64 a.w, .int .i64 a.q, .int .i64 a.d, .slice A a.t.length c] 33) := ⟨_, rfl⟩
  have hb01 : Below w.heap.size w W1 := by rw [hW1]; exact bal1 _ _
  have B1 : AtB W1 w.heap.size #[.int .i64 a.w, .int .i64 a.q, .int .i64 a.d, .slice A a.t.length c] 33 := by rw [hW1]; exact AtB.new _ _ _
  have CI1 := Lib.hid ci1; have CI2 := Lib.hid ci2; have CI3 := Lib.hid ci3; have CT := Lib.hid ct; have CJ := Lib.hid cj
  have HB := Lib.hid hb01; have HW := Lib.hid hW1; have BX := Lib.hid B1
  have cells := fun (W : World) (hW : Below W1.heap.size W1 W) => And.intro ((BX.out.below hW BX.out.lt).cell (i := 0) rfl) (And.intro ((BX.out.below hW BX.out.lt).cell (i := 1) rfl) (And.intro ((BX.out.below hW BX.out.lt).cell (i := 2) rfl) ((BX.out.below hW BX.out.lt).cell (i := 3) rfl)))
  have HCELL := Lib.hid cells
  clear ci1 ci2 ci3 ct cj hb01 hW1 B1 cells ht hA h h5 hr h1 h2 h3 h4 h6 h7 hrec
  obtain ⟨x, q', d, t⟩ := a
  simp only [akv] at *
  have hb00 := Below.refl W1.heap.size W1
  have HB0 := Lib.hid hb00
  clear hb00
  obtain ⟨d0, d1, d2, d3⟩ := HCELL.out W1 HB0.out
  go_enter Tryz.func42, Tryz.ntmps42
  go_wp2_with fail
  rw [← HW.out]
  go_region_held3 (fun w' => w'.cell? ⟨w.heap.size, 0, none⟩ = some (.int .i64 x) ∧ w'.cell? ⟨w.heap.size, 1, none⟩ = some (.int .i64 q') ∧ w'.cell? ⟨w.heap.size, 2, none⟩ = some (.int .i64 d) ∧ w'.cell? ⟨w.heap.size, 3, none⟩ = some (.slice A t.length c)) (first | exact ⟨d0, d1, d2, d3⟩ | go_keep) ((first
    | (go_at_call 82; (with_reducible refine (CI1.out _ (bdr HB.out)).mono ?_); rintro e w2 ⟨rfl, hb2⟩; have HB2 := Lib.hid (bcl (bdr HB0.out) hb2); clear hb2 d0 d1 d2 d3; obtain ⟨d0, d1, d2, d3⟩ := HCELL.out w2 HB2.out)
    | (go_at_call 82; (with_reducible refine (CI2.out _ (bcl HB.out HB2.out)).mono ?_); rintro e w3 ⟨rfl, hb3⟩; have HB3 := Lib.hid (bcl HB2.out hb3); clear hb3 d0 d1 d2 d3; obtain ⟨d0, d1, d2, d3⟩ := HCELL.out w3 HB3.out)
    | (go_at_call 82; (with_reducible refine (CI3.out _ (bcl HB.out HB3.out)).mono ?_); rintro e w4 ⟨rfl, hb4⟩; have HB4 := Lib.hid (bcl HB3.out hb4); clear hb4 d0 d1 d2 d3; obtain ⟨d0, d1, d2, d3⟩ := HCELL.out w4 HB4.out)
    | (go_at_call 79; (with_reducible refine (CT.out _ (bcl HB.out HB4.out)).mono ?_); rintro e w5 ⟨rfl, hb5⟩; have HB5 := Lib.hid (bcl HB4.out hb5); clear hb5 d0 d1 d2 d3; obtain ⟨d0, d1, d2, d3⟩ := HCELL.out w5 HB5.out)))
  go_wp2_with (go_at_call 83; refine (CJ.out _ _ (AtB.new _ _ _)).mono ?_; rintro e w6 ⟨rfl, hb6⟩; have HB6 := Lib.hid (bcl (bal (bcl HB.out HB5.out) _) hb6); clear hb6)
  go_ret
  exact ⟨rfl, HB6.out⟩
section
variable {w w' : World} {base P p q m : Nat} {g : Option Nat} {R : List Ru} {s : Cs} {b : ByteArray} {sf mn : Nat} {lf : Int} {st : Bool}
/-- the steps that are left, one later -/
def lfN (lf : Int) : Int := max (-1) (lf - 1)
set_option maxHeartbeats 800000 in
theorem lgstep_any (h : Lg w base P p q g m R s b sf mn lf st) (h0 : -1 ≤ lf) (h1 : lf ≤ 9223372036854775807) :
    Calls Tryz.prog 43 #[.pointer (some ⟨P, 0, none⟩)] w fun e w' => e = .returned (.bool (decide (lf = 0))) ∧ Lg w' base P p q g m R s b sf mn (lfN lf) (decide (lf = 0)) ∧ Chs (fun x => x = P) w w' := by
  obtain ⟨_, _, _, _, c5, c6⟩ := h.cells
  have f5 := h.frozen 5; have f6 := h.frozen 6
  have hl := h.pkin.lt
  have HH := Lib.hid h
  have fin : ∀ W, W = (w.setCell ⟨P, 6, none⟩ (.bool (decide (lf = 0)))).setCell ⟨P, 5, none⟩ (.int .i64 (lfN lf)) → Lg W base P p q g m R s b sf mn (lfN lf) (decide (lf = 0)) ∧ Chs (fun x => x = P) w W ∧ W.cell? ⟨P, 6, none⟩ = some (.bool (decide (lf = 0))) := fun W hW => by
    have hc : Chs (fun x => x = P) w W := by rw [hW]; exact (Chs.set w ⟨P, 6, none⟩ _).trans (Chs.set _ ⟨P, 5, none⟩ _) (fun b hb => .inl hb)
    have hl : Lg W base P p q g m R s b sf mn (lfN lf) (decide (lf = 0)) := HH.out.wrote hc fun A c hA => by rw [hW]; exact (hA.set 6 _).set 5 _
    exact ⟨hl, hc, hl.cells.2.2.2.2.2⟩
  have FIN := Lib.hid fin
  clear h fin
  rcases (show lf = -1 ∨ lf = 0 ∨ 0 < lf by omega) with rfl | rfl | hp
  · rw [show decide ((-1 : Int) = 0) = false from rfl, show lfN (-1) = -1 by decide] at FIN ⊢
    go_enter Tryz.func43, Tryz.ntmps43
    go_wp2_with fail
    obtain ⟨q1, q2, q3⟩ := FIN.out _ rfl
    go_wp2_with fail
    go_ret
    exact ⟨rfl, q1, q2⟩
  · rw [show decide ((0 : Int) = 0) = true from rfl, show lfN 0 = -1 by decide] at FIN ⊢
    go_enter Tryz.func43, Tryz.ntmps43
    go_wp2_with fail
    obtain ⟨q1, q2, q3⟩ := FIN.out _ rfl
    go_wp2_with fail
    go_ret
    exact ⟨rfl, q1, q2⟩
  · have e1 : (lf == 0) = false := beq_eq_false_iff_ne.2 (by omega)
    rw [show decide (lf = 0) = false from decide_eq_false (by omega), show lfN lf = max (-1) (lf - 1) from rfl] at FIN ⊢
    go_enter Tryz.func43, Tryz.ntmps43
    go_wp2_with fail
    obtain ⟨q1, q2, q3⟩ := FIN.out _ rfl
    go_wp2_with fail
    go_ret
    exact ⟨rfl, q1, q2⟩
end
end Go.Proofs.YtpgemofkolmabaaGreatDoor
