/- LogAgain: the walk. -/
import Derived.Test.YtpgemofkolmabaaGreatDoorLogDo2
import Derived.Test.YtpgemofkolmabaaGreatDoorDoorT
import Derived.WalkKit
import Derived.WalkLawsBesides
import Derived.WalkSpells
import Derived.RegionTactic
import Derived.Deep.QuietTactic
import Derived.BigQuiet
import Derived.Outline
namespace Go.Proofs.YtpgemofkolmabaaGreatDoor.logAgain
open Go.ChangeShapes Go.WideShapes Go.ChangeAt Go.RowKit Go.Joins Go.Deep
set_option linter.unusedVariables false

def star : List Va := [⟨2, 0, ⟨#[]⟩⟩]
def R3 : List Ru := [⟨0, -1, star, true⟩, ⟨1, -1, star, true⟩, ⟨2, -1, star, true⟩]
def vn (n : Int) : Va := ⟨0, n, ⟨#[]⟩⟩
def an (n seq : Int) : Ak := ⟨1, seq, 0, [vn n]⟩
theorem r3 : rulE R3 = 0 := by rfl
theorem let3 (n : Int) : letR R3 1 0 [vn n] = true := by rfl
theorem va_in {n : Int} (h : -1000000 ≤ n ∧ n ≤ 1000000) : vaE (vn n) = 0 := by
  unfold vaE vn
  rw [if_neg (by simp; omega), if_neg (by simp), if_neg]
  simp [okS, ByteArray.size]
theorem va_out {n : Int} (h : ¬ (-1000000 ≤ n ∧ n ≤ 1000000)) : vaE (vn n) = 1 := by
  unfold vaE vn
  rw [if_pos (by simp; omega)]
theorem tu_v (v : Va) (hk : v.k ≠ 2) : tuE [v] = vaE v := by
  have h1 : liE [v] = vaE v := rfl
  unfold tuE
  rw [h1]
  by_cases e : vaE v = 0
  · rw [if_neg (fun h => h e), if_neg, e]
    rw [Bool.not_eq_true]
    exact anyB_false.2 fun i hi => by
      obtain rfl : i = 0 := by simpa using hi
      exact hk
  · rw [if_pos e]
theorem qc_v (n seq : Int) : qcE (an n seq) = vaE (vn n) := (show qcE (an n seq) = tuE [vn n] from rfl).trans (tu_v _ (by simp [vn]))
theorem okS' : okL star := fun i hi => by
  obtain rfl : i = 0 := by simpa [star] using hi
  decide
theorem okV (n : Int) : okL [vn n] := fun i hi => by
  obtain rfl : i = 0 := by simpa using hi
  show (⟨#[]⟩ : ByteArray).size ≤ maxLen
  decide
theorem okR3 : okR R3 := fun i hi => by
  have : i = 0 ∨ i = 1 ∨ i = 2 := by simp [R3] at hi; omega
  rcases this with rfl | rfl | rfl
  · exact ⟨okS', by show I64 _; unfold I64; decide, by show I64 _; unfold I64; decide⟩
  · exact ⟨okS', by show I64 _; unfold I64; decide, by show I64 _; unfold I64; decide⟩
  · exact ⟨okS', by show I64 _; unfold I64; decide, by show I64 _; unfold I64; decide⟩
theorem rx_lit (W : World) {base b g : Nat} (h : Vin W base (some ⟨b, 0, none⟩) star) (hb : base ≤ W.heap.size) (hg : g = W.heap.size) :
    RX (W.alloc (.cells #[.int .i64 0, .int .i64 (-1), .slice (some ⟨b, 0, none⟩) 1 1, .bool true, .int .i64 1, .int .i64 (-1), .slice (some ⟨b, 0, none⟩) 1 1, .bool true, .int .i64 2, .int .i64 (-1), .slice (some ⟨b, 0, none⟩) 1 1, .bool true] 50)) base (some ⟨g, 0, none⟩) [(⟨0, -1, star, true⟩, some ⟨b, 0, none⟩, 1), (⟨1, -1, star, true⟩, some ⟨b, 0, none⟩, 1), (⟨2, -1, star, true⟩, some ⟨b, 0, none⟩, 1)] := by
  subst hg
  have hv := h.chsV hb (Chs.of_below (fun _ => False) (bal1 W (.cells #[.int .i64 0, .int .i64 (-1), .slice (some ⟨b, 0, none⟩) 1 1, .bool true, .int .i64 1, .int .i64 (-1), .slice (some ⟨b, 0, none⟩) 1 1, .bool true, .int .i64 2, .int .i64 (-1), .slice (some ⟨b, 0, none⟩) 1 1, .bool true] 50))) (fun _ h => h.elim)
  refine ⟨fun _ => ⟨W.heap.size, 0, rfl, by simp, fun j u hj => ?_⟩, fun x hx => ?_⟩
  · have := (AtB.new W #[.int .i64 0, .int .i64 (-1), .slice (some ⟨b, 0, none⟩) 1 1, .bool true, .int .i64 1, .int .i64 (-1), .slice (some ⟨b, 0, none⟩) 1 1, .bool true, .int .i64 2, .int .i64 (-1), .slice (some ⟨b, 0, none⟩) 1 1, .bool true] 50).cell (i := j) (v := u) (by simpa [rxCells, rxv, star] using hj)
    simpa using this
  · simp at hx
    rcases hx with rfl | rfl | rfl <;> exact ⟨hv, by simp [star], (show (1 : Nat) ≤ maxLen by decide)⟩
theorem lit1 (W : World) (v : Va) {g : Nat} (hg : g = W.heap.size) : Vals (W.alloc (.cells #[.int .i64 v.k, .int .i64 v.n, .string v.s] 30)) (some ⟨g, 0, none⟩) [v] := lit_vals W [v] 30 hg
theorem vin_lit (W : World) {base : Nat} (v : Va) : Vin (W.alloc (.cells #[.int .i64 v.k, .int .i64 v.n, .string v.s] 30)) base (some ⟨W.heap.size, 0, none⟩) [v] := ⟨lit1 W v rfl, fun _ a ha => .inr (by injection ha with ha; subst ha; exact (AtB.new _ _ _).kin)⟩
theorem open_any (w : World) : Calls Tryz.prog 11 #[] w fun e w' => e = .returned (.slice (some ⟨w.heap.size + 1, 0, none⟩) 3 3) ∧ RX w' w.heap.size (some ⟨w.heap.size + 1, 0, none⟩) [(⟨0, -1, star, true⟩, some ⟨w.heap.size, 0, none⟩, 1), (⟨1, -1, star, true⟩, some ⟨w.heap.size, 0, none⟩, 1), (⟨2, -1, star, true⟩, some ⟨w.heap.size, 0, none⟩, 1)] ∧ Below w.heap.size w w' := by
  have hx := rx_lit _ (vin_lit w (base := w.heap.size) ⟨2, 0, ⟨#[]⟩⟩) (bal1 w _).size (g := w.heap.size + 1) (by simp)
  have HX := Lib.hid hx
  clear hx
  go_enter Tryz.func11, Tryz.ntmps11
  go_wp2_with fail
  go_ret
  exact ⟨rfl, HX.out, (by repeat (first | exact Below.refl _ _ | assumption | refine bal ?_ _ | refine bdn ?_ _ | refine bdr ?_ | refine bcl ?_ (by assumption)))⟩
theorem ag0 (a : Ak) : agB Cs.zero a = false := by simp [agB, Cs.zero]
theorem do_in {n seq : Int} (h : -1000000 ≤ n ∧ n ≤ 1000000) (hs : seq = 1) : doE R3 Cs.zero (an n seq) = 0 ∧ doS R3 Cs.zero (an n seq) = ⟨#[111, 107]⟩ := by
  subst hs
  have h0 : qcE (an n 1) = 0 := (qc_v n 1).trans (va_in h)
  have h2 : doE R3 Cs.zero (an n 1) = 0 := (doE_new h0 (ag0 _) (by rfl)).trans (by rw [nwE, if_pos (show (an n 1).d = 0 from rfl)]; exact if_pos (let3 n))
  exact ⟨h2, (doS_new h2 (ag0 _)).trans (by rfl)⟩
theorem do_out {n seq : Int} (h : ¬ ((-1000000 ≤ n ∧ n ≤ 1000000) ∧ seq = 1)) : doE R3 Cs.zero (an n seq) ≠ 0 := by
  by_cases hr : -1000000 ≤ n ∧ n ≤ 1000000
  · have h0 : qcE (an n seq) = 0 := (qc_v n seq).trans (va_in hr)
    rw [doE_seq h0 (ag0 _) (fun e => h ⟨hr, by simpa [an, Cs.zero] using e⟩)]
    decide
  · have h0 : qcE (an n seq) = 1 := (qc_v n seq).trans (va_out hr)
    rw [doE_bad (by rw [h0]; decide), h0]; decide
theorem again_in {n seq : Int} (h : doE R3 Cs.zero (an n seq) = 0) : agB (doC R3 Cs.zero (an n seq)) (an n seq) = true := by
  obtain ⟨_, h2 | ⟨_, h3, _⟩⟩ := doE_zero h
  · rw [ag0] at h2; cases h2
  · rw [doC_new h (ag0 _), agB]
    simp only [if_true, decide_true, Bool.true_and, decide_eq_true_eq]
    rw [h3]; show (0 : Int) < (Cs.zero.F _).1 + 1
    simp [Cs.zero]
theorem Lg.lts {w : World} {base P p q m : Nat} {g : Option Nat} {R : List Ru} {s : Cs} {b : ByteArray} {sf mn : Nat} {lf : Int} {st : Bool} (h : Lg w base P p q g m R s b sf mn lf st) : ∀ x, LM P p q g m x → x < w.heap.size := fun x hx => by
  rcases hx with rfl | hx
  · exact h.pkin.lt
  · exact h.cpy.lts x hx
set_option maxHeartbeats 3200000 in
set_option maxRecDepth 100000 in
theorem walk (w : World) (ht : TT w) (n : Int) (hn : I64 n) (seq : Int) (hq : I64 seq) :
    Calls Tryz.prog 3 #[.int .i64 n, .int .i64 seq] w fun e w' => e = .returned (.bool true) ∧ Below w.heap.size w w' := by
  have htt : ∀ W, Below w.heap.size w W → TT W := fun W h => tab_stays (g := 5) (by kernel_rfl) ht h (Nat.le_refl _)
  have co := open_any w
  have cn := fun (W : World) (hW : Below w.heap.size w W) (hX : RX W w.heap.size (some ⟨w.heap.size + 1, 0, none⟩) [(⟨0, -1, star, true⟩, some ⟨w.heap.size, 0, none⟩, 1), (⟨1, -1, star, true⟩, some ⟨w.heap.size, 0, none⟩, 1), (⟨2, -1, star, true⟩, some ⟨w.heap.size, 0, none⟩, 1)]) =>
    lgnew_ok (w := W) (base := w.heap.size) hW.size (some ⟨w.heap.size + 1, 0, none⟩) 3 _ hX r3 okR3
  have i1 : I64 1 := WalkArith.wf_i64 (show (-9223372036854775808 : Int) ≤ 1 ∧ (1 : Int) ≤ 9223372036854775807 by decide)
  have CO := Lib.hid co; have CN := Lib.hid cn
  -- the ask, written out
  have lit := fun (W : World) => vin_lit W (base := w.heap.size) (vn n)
  have box := fun (W : World) => And.intro (AtB.new (W.alloc (.cells #[.int .i64 0, .int .i64 n, .string ⟨#[]⟩] 30)) #[.int .i64 1, .int .i64 seq, .int .i64 0, .slice (some ⟨W.heap.size, 0, none⟩) 1 1] 33) (bal1 (W.alloc (.cells #[.int .i64 0, .int .i64 n, .string ⟨#[]⟩] 30)) (.cells #[.int .i64 1, .int .i64 seq, .int .i64 0, .slice (some ⟨W.heap.size, 0, none⟩) 1 1] 33))
  have LIT := Lib.hid lit; have BOX := Lib.hid box
  clear co cn lit box
  by_cases hr : (-1000000 ≤ n ∧ n ≤ 1000000) ∧ seq = 1
  · obtain ⟨hE, hS⟩ := do_in hr.1 hr.2
    have hA := again_in hE
    obtain ⟨a1, a2, a3⟩ := do_again (R := R3) Cok.zero hE
    rw [hS] at a2
    have c1 := fun (W : World) (hW : Below w.heap.size w W) (P p q m : Nat) (hL : Lg W w.heap.size P p q none m R3 Cs.zero ⟨#[]⟩ 0 0 (-1) false) (A : Option Addr) (hV : Vin W w.heap.size A [vn n]) =>
      lgdo_new hL (fun W' h => htt W' (hW.trans h)) (by decide) (an n seq) A 1 (show 1 ≤ maxLen by decide) (okV n) i1 hq hV hE (ag0 _) (by decide) (by decide) (by decide) (by decide) (by decide) (by decide)
    rw [hS] at c1
    have c2 := fun (W : World) (hW : Below w.heap.size w W) (P p q m : Nat) (g : Option Nat) (hL : Lg W w.heap.size P p q g m R3 (doC R3 Cs.zero (an n seq)) (⟨#[]⟩ ++ recB (an n seq)) 0 (0 + 1) (lfN (-1)) false) (A : Option Addr) (hV : Vals W A [vn n]) =>
      lgdo_no hL (fun W' h => htt W' (hW.trans h)) (by rw [doC_new hE (ag0 _)]; exact (show 0 + 1 ≤ 1000000 by decide)) (an n seq) A 1 (show 1 ≤ maxLen by decide) (okV n) i1 hq hV (.inr hA)
    rw [a1, a2, eV_zero] at c2
    have hsz : 2 ≤ ((⟨#[]⟩ : ByteArray) ++ recB (an n seq)).size := by
      rw [size_app]; have := recB_four (an n seq); omega
    have C1 := Lib.hid c1; have C2 := Lib.hid c2
    clear c1 c2 hE hS hA a1 a2 a3 hr htt ht hn hq i1
    generalize doC R3 Cs.zero (an n seq) = S1 at *
    generalize (⟨#[]⟩ : ByteArray) ++ recB (an n seq) = rb at *
    have hsz2 : decide ((2 : Int) ≤ (rb.size : Int)) = true := by simp; omega
    have hszz : ((rb.size : Int) == (rb.size : Int)) = true := by simp
    simp only [an, akv] at *
    go_enter Tryz.func3, Tryz.ntmps3
    go_wp2_with (first
      | (go_at_call 11; refine CO.out.mono ?_; rintro e w1 ⟨rfl, hX, hb1⟩; have HX := Lib.hid hX; have HB1 := Lib.hid hb1; clear hX hb1)
      | (go_at_call 10; refine (CN.out _ HB1.out HX.out).mono ?_; rintro e w2 ⟨P, p, q, m, rfl, hL2, hb2, _⟩; have HL2 := Lib.hid hL2; have HB2 := Lib.hid (bcl HB1.out hb2); clear hL2 hb2))
    obtain ⟨k1, k2⟩ := BOX.out w2
    have kl := LIT.out w2
    have kb := bal1 w2 (.cells #[.int .i64 0, .int .i64 n, .string ⟨#[]⟩] 30)
    obtain ⟨W3, hW3⟩ : ∃ W3, W3 = (w2.alloc (.cells #[.int .i64 0, .int .i64 n, .string ⟨#[]⟩] 30)).alloc (.cells #[.int .i64 1, .int .i64 seq, .int .i64 0, .slice (some ⟨w2.heap.size, 0, none⟩) 1 1] 33) := ⟨_, rfl⟩
    rw [← hW3]
    rw [← hW3] at k1 k2
    rw [World.size_alloc] at k1
    have hbA := bcl kb k2
    have HL3 := Lib.hid (HL2.out.keep hbA)
    have HV3 := Lib.hid (kl.chsV (Nat.le_trans HB2.out.size kb.size) (Chs.of_below (fun _ => False) k2) (fun _ h => h.elim))
    have HB3 := Lib.hid (bcl HB2.out hbA)
    have K3 := Lib.hid k1
    have HNO := Lib.hid (show ¬ LM P p q none m (w2.heap.size + 1) from fun e => absurd (Lg.lts HL2.out _ e) (by omega))
    clear hW3 k1 k2 kl kb hbA HB2 HL2
    refine (C1.out W3 HB3.out P p q m HL3.out _ HV3.out).mono ?_
    rintro e w4 ⟨rfl, g4, hL4, hk4, hn4⟩
    have HL4 := Lib.hid hL4
    have HB4 := Lib.hid (HB3.out.trans (hk4.below (fun b hb => (HL3.out.mine b hb).1) HB3.out.size))
    have HV4 := Lib.hid (HV3.out.chsV HB3.out.size hk4 (fun x hx => ⟨(HL3.out.mine x hx).1, (HL3.out.mine x hx).2.1⟩))
    have k4 := K3.out.chs hk4 HNO.out
    have e0 : w4.cell? ⟨w2.heap.size + 1, 0, none⟩ = some (.int .i64 1) := k4.cell rfl
    have e1 : w4.cell? ⟨w2.heap.size + 1, 1, none⟩ = some (.int .i64 seq) := k4.cell rfl
    have e2 : w4.cell? ⟨w2.heap.size + 1, 2, none⟩ = some (.int .i64 0) := k4.cell rfl
    have e3 : w4.cell? ⟨w2.heap.size + 1, 3, none⟩ = some (.slice (some ⟨w2.heap.size, 0, none⟩) 1 1) := k4.cell rfl
    clear hL4 hk4 hn4 k4 HL3 HV3 HB3 K3 HNO C1
    go_wp2_with (first
      | (go_at_call 13; (with_reducible refine (lgbytes_any HL5.out).mono ?_); rintro e w' ⟨rfl, rfl⟩)
      | (go_at_call 13; (with_reducible refine (lgbytes_any HL4.out).mono ?_); rintro e w' ⟨rfl, rfl⟩)
      | (go_at_call 12; refine (C2.out w4 HB4.out P p q m g4 HL4.out _ HV4.out.1).mono ?_; rintro e w5 ⟨rfl, g5, hL5, hk5, hn5⟩; have HL5 := Lib.hid hL5; have HB5 := Lib.hid (HB4.out.trans (hk5.below (fun b hb => (HL4.out.mine b hb).1) HB4.out.size)); clear hL5 hk5 hn5))
    go_ret
    exact ⟨ret_true (by first | rfl | (simp; done) | (simp; omega)), HB5.out⟩
  · have hE := do_out hr
    have c1 := fun (W : World) (hW : Below w.heap.size w W) (P p q m : Nat) (hL : Lg W w.heap.size P p q none m R3 Cs.zero ⟨#[]⟩ 0 0 (-1) false) (A : Option Addr) (hV : Vals W A [vn n]) =>
      lgdo_no hL (fun W' h => htt W' (hW.trans h)) (by decide) (an n seq) A 1 (show 1 ≤ maxLen by decide) (okV n) i1 hq hV (.inl hE)
    rw [eV_of hE, doS_no hE] at c1
    have cb := fun (W : World) (P p q m : Nat) (g : Option Nat) (hL : Lg W w.heap.size P p q g m R3 Cs.zero ⟨#[]⟩ 0 0 (-1) false) => (show Calls Tryz.prog 13 #[.pointer (some ⟨P, 0, none⟩)] W fun e w' => e = .returned (.int .i64 0) ∧ W = w' from lgbytes_any hL)
    have hx : (seq != 1) = true ∨ ((seq != 1) = false ∧ (decide (n < -1000000) = true ∨ (decide (n < -1000000) = false ∧ decide (1000000 < n) = true))) := by
      by_cases h1 : seq = 1
      · refine .inr ⟨by simp [h1], ?_⟩
        simp only [decide_eq_true_eq, decide_eq_false_iff_not]
        have h2 : ¬ (-1000000 ≤ n ∧ n ≤ 1000000) := fun h => hr ⟨h, h1⟩
        omega
      · exact .inl (bne_iff_ne.2 h1)
    have C1 := Lib.hid c1; have CB := Lib.hid cb
    clear c1 cb hr htt ht hn hq i1 hE
    generalize doE R3 Cs.zero (an n seq) = E at *
    simp only [an, akv] at *
    rcases hx with x1 | ⟨x1, x2 | ⟨x2, x3⟩⟩
    all_goals
      go_enter Tryz.func3, Tryz.ntmps3
      go_wp2_with (first
        | (go_at_call 11; refine CO.out.mono ?_; rintro e w1 ⟨rfl, hX, hb1⟩; have HX := Lib.hid hX; have HB1 := Lib.hid hb1; clear hX hb1)
        | (go_at_call 10; refine (CN.out _ HB1.out HX.out).mono ?_; rintro e w2 ⟨P, p, q, m, rfl, hL2, hb2, _⟩; have HL2 := Lib.hid hL2; have HB2 := Lib.hid (bcl HB1.out hb2); clear hL2 hb2))
      obtain ⟨k1, k2⟩ := BOX.out w2
      have kl := LIT.out w2
      have kb := bal1 w2 (.cells #[.int .i64 0, .int .i64 n, .string ⟨#[]⟩] 30)
      obtain ⟨W3, hW3⟩ : ∃ W3, W3 = (w2.alloc (.cells #[.int .i64 0, .int .i64 n, .string ⟨#[]⟩] 30)).alloc (.cells #[.int .i64 1, .int .i64 seq, .int .i64 0, .slice (some ⟨w2.heap.size, 0, none⟩) 1 1] 33) := ⟨_, rfl⟩
      rw [← hW3]
      rw [← hW3] at k1 k2
      rw [World.size_alloc] at k1
      have hbA := bcl kb k2
      have HL3 := Lib.hid (HL2.out.keep hbA)
      have HV3 := Lib.hid (kl.chsV (Nat.le_trans HB2.out.size kb.size) (Chs.of_below (fun _ => False) k2) (fun _ h => h.elim))
      have HB3 := Lib.hid (bcl HB2.out hbA)
      have K3 := Lib.hid k1
      have HNO := Lib.hid (show ¬ LM P p q none m (w2.heap.size + 1) from fun e => absurd (Lg.lts HL2.out _ e) (by omega))
      clear hW3 k1 k2 kl kb hbA HB2 HL2
      refine (C1.out W3 HB3.out P p q m HL3.out _ HV3.out.1).mono ?_
      rintro e w4 ⟨rfl, g4, hL4, hk4, hn4⟩
      have HL4 := Lib.hid hL4
      have HB4 := Lib.hid (HB3.out.trans (hk4.below (fun b hb => (HL3.out.mine b hb).1) HB3.out.size))
      clear hL4 hk4 hn4 HL3 HV3 HB3 K3 HNO C1
      go_wp2_with (go_at_call 13; refine (CB.out _ _ _ _ _ _ HL4.out).mono ?_; rintro e w' ⟨rfl, rfl⟩)
      go_ret
      exact ⟨ret_true (by first | rfl | (simp; done) | (simp; omega)), HB4.out⟩
end Go.Proofs.YtpgemofkolmabaaGreatDoor.logAgain
