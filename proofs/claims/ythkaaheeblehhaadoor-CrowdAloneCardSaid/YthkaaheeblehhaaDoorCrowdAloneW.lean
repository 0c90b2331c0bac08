/- CrowdAlone: the walk. -/
import Derived.Test.YthkaaheeblehhaaDoorCrAll
import Derived.Test.YthkaaheeblehhaaDoorVotePlain
import Derived.WalkKit
import Derived.WalkLawsBesides
import Derived.WalkSpells
import Derived.RegionTactic
import Derived.Deep.QuietTactic
import Derived.BigQuiet
import Derived.Outline
namespace Go.Proofs.YthkaaheeblehhaaDoor.crowdAlone
open Go.ChangeShapes Go.WideShapes Go.ChangeAt Go.RowKit Go.Joins Go.Deep
set_option linter.unusedVariables false

def star : List Va := [⟨2, 0, ⟨#[]⟩⟩]
def R3 : List Ru := [⟨0, -1, star, true⟩, ⟨1, -1, star, true⟩, ⟨2, -1, star, true⟩]
def vn (n : Int) : Va := ⟨0, n, ⟨#[]⟩⟩
def an (n : Int) : Ak := ⟨1, 1, 0, [vn n]⟩
theorem r3 : rulE R3 = 0 := by rfl
theorem let3 (n : Int) : letR R3 1 0 [vn n] = true := by rfl
theorem va_in {n : Int} (h : -1000000 ≤ n ∧ n ≤ 1000000) : vaE (vn n) = 0 := by
  unfold vaE vn
  rw [if_neg (by simp; omega), if_neg (by simp), if_neg]
  simp [okS, ByteArray.size]
theorem va_out {n : Int} (h : ¬ (-1000000 ≤ n ∧ n ≤ 1000000)) : vaE (vn n) = 1 := by
  unfold vaE vn
  rw [if_pos (by simp; omega)]
theorem tu_v (v : Va) (hk : v.k ≠ 2) : tuE [v] = vaE v := by
  have h1 : liE [v] = vaE v := rfl
  unfold tuE
  rw [h1]
  by_cases e : vaE v = 0
  · rw [if_neg (fun h => h e), if_neg, e]
    rw [Bool.not_eq_true]
    exact anyB_false.2 fun i hi => by
      obtain rfl : i = 0 := by simpa using hi
      exact hk
  · rw [if_pos e]
theorem qc_v (n : Int) : qcE (an n) = vaE (vn n) := (show qcE (an n) = tuE [vn n] from rfl).trans (tu_v _ (by simp [vn]))
theorem do_in {n : Int} (h : -1000000 ≤ n ∧ n ≤ 1000000) : doE R3 Cs.zero (an n) = 0 ∧ doS R3 Cs.zero (an n) = ⟨#[111, 107]⟩ := by
  have h0 : qcE (an n) = 0 := (qc_v n).trans (va_in h)
  have h1 : agB Cs.zero (an n) = false := by rfl
  have h2 : doE R3 Cs.zero (an n) = 0 := (doE_new h0 h1 (by rfl)).trans (by rw [nwE, if_pos (show (an n).d = 0 from rfl)]; exact if_pos (let3 n))
  exact ⟨h2, (doS_new h2 h1).trans (by rfl)⟩
theorem do_out {n : Int} (h : ¬ (-1000000 ≤ n ∧ n ≤ 1000000)) : doE R3 Cs.zero (an n) = 1 := by
  have h0 : qcE (an n) = 1 := (qc_v n).trans (va_out h)
  rw [doE_bad (by rw [h0]; decide), h0]
theorem okS' : okL star := fun i hi => by
  obtain rfl : i = 0 := by simpa [star] using hi
  decide
theorem okV (n : Int) : okL [vn n] := fun i hi => by
  obtain rfl : i = 0 := by simpa using hi
  show (⟨#[]⟩ : ByteArray).size ≤ maxLen
  decide
theorem okR3 : okR R3 := fun i hi => by
  have : i = 0 ∨ i = 1 ∨ i = 2 := by simp [R3] at hi; omega
  rcases this with rfl | rfl | rfl
  · exact ⟨okS', by show I64 _; unfold I64; decide, by show I64 _; unfold I64; decide⟩
  · exact ⟨okS', by show I64 _; unfold I64; decide, by show I64 _; unfold I64; decide⟩
  · exact ⟨okS', by show I64 _; unfold I64; decide, by show I64 _; unfold I64; decide⟩
/-- one alone wins -/
theorem win_one (t : ByteArray) : winV [t] 1 = .tuple #[.string t, .nilIface] := by
  have h := truth_wins [t] t 0 (by simp [bad, gs]) (by simp)
  simpa using h
theorem rx_lit (W : World) {base b g : Nat} (h : Vin W base (some ⟨b, 0, none⟩) star) (hb : base ≤ W.heap.size) (hg : g = W.heap.size) :
    RX (W.alloc (.cells #[.int .i64 0, .int .i64 (-1), .slice (some ⟨b, 0, none⟩) 1 1, .bool true, .int .i64 1, .int .i64 (-1), .slice (some ⟨b, 0, none⟩) 1 1, .bool true, .int .i64 2, .int .i64 (-1), .slice (some ⟨b, 0, none⟩) 1 1, .bool true] 42)) base (some ⟨g, 0, none⟩) [(⟨0, -1, star, true⟩, some ⟨b, 0, none⟩, 1), (⟨1, -1, star, true⟩, some ⟨b, 0, none⟩, 1), (⟨2, -1, star, true⟩, some ⟨b, 0, none⟩, 1)] := by
  subst hg
  have hv := h.chsV hb (Chs.of_below (fun _ => False) (bal1 W (.cells #[.int .i64 0, .int .i64 (-1), .slice (some ⟨b, 0, none⟩) 1 1, .bool true, .int .i64 1, .int .i64 (-1), .slice (some ⟨b, 0, none⟩) 1 1, .bool true, .int .i64 2, .int .i64 (-1), .slice (some ⟨b, 0, none⟩) 1 1, .bool true] 42))) (fun _ h => h.elim)
  refine ⟨fun _ => ⟨W.heap.size, 0, rfl, by simp, fun j u hj => ?_⟩, fun x hx => ?_⟩
  · have := (AtB.new W #[.int .i64 0, .int .i64 (-1), .slice (some ⟨b, 0, none⟩) 1 1, .bool true, .int .i64 1, .int .i64 (-1), .slice (some ⟨b, 0, none⟩) 1 1, .bool true, .int .i64 2, .int .i64 (-1), .slice (some ⟨b, 0, none⟩) 1 1, .bool true] 42).cell (i := j) (v := u) (by simpa [rxCells, rxv, star] using hj)
    simpa using this
  · simp at hx
    rcases hx with rfl | rfl | rfl <;> exact ⟨hv, by simp [star], (show (1 : Nat) ≤ maxLen by decide)⟩
theorem lit1 (W : World) (v : Va) {g : Nat} (hg : g = W.heap.size) : Vals (W.alloc (.cells #[.int .i64 v.k, .int .i64 v.n, .string v.s] 40)) (some ⟨g, 0, none⟩) [v] := lit_vals W [v] 40 hg
theorem vin_lit (W : World) {base : Nat} (v : Va) : Vin (W.alloc (.cells #[.int .i64 v.k, .int .i64 v.n, .string v.s] 40)) base (some ⟨W.heap.size, 0, none⟩) [v] := ⟨lit1 W v rfl, fun _ a ha => .inr (by injection ha with ha; subst ha; exact (AtB.new _ _ _).kin)⟩
theorem open_any (w : World) : Calls Tryd.prog 15 #[] w fun e w' => e = .returned (.slice (some ⟨w.heap.size + 1, 0, none⟩) 3 3) ∧ RX w' w.heap.size (some ⟨w.heap.size + 1, 0, none⟩) [(⟨0, -1, star, true⟩, some ⟨w.heap.size, 0, none⟩, 1), (⟨1, -1, star, true⟩, some ⟨w.heap.size, 0, none⟩, 1), (⟨2, -1, star, true⟩, some ⟨w.heap.size, 0, none⟩, 1)] ∧ Below w.heap.size w w' := by
  have hx := rx_lit _ (vin_lit w (base := w.heap.size) ⟨2, 0, ⟨#[]⟩⟩) (bal1 w _).size (g := w.heap.size + 1) (by simp)
  have HX := Lib.hid hx
  clear hx
  go_enter Tryd.func15, Tryd.ntmps15
  go_wp2_with fail
  go_ret
  exact ⟨rfl, HX.out, (by repeat (first | exact Below.refl _ _ | assumption | refine bal ?_ _ | refine bdn ?_ _ | refine bdr ?_ | refine bcl ?_ (by assumption)))⟩
theorem strs_one {W : World} {b : Nat} {x : ByteArray} (h : AtB W b #[.string x] 9) : Strs W (some ⟨b, 0, none⟩) [x] := fun _ => ⟨b, 0, rfl, h.lt, fun i hi j hj => by
  obtain rfl : i = 0 := by simpa using hi
  obtain rfl : j = 0 := by omega
  exact h.cell rfl⟩
/-- what the crowd of one answers -/
theorem do_one {w w2 : World} {p c : Nat} {A : Option Addr} {D : Nat → Dq} (ht : ∀ W, Below w.heap.size w W → TT W) (hb : Below w.heap.size w w2) (hC : Crw w2 w.heap.size p A c 1 D R3 (fun _ => Cs.zero)) (lie : ByteArray) (hls : lie.size ≤ maxLen) (n : Int) :
    Calls Tryd.prog 17 #[.pointer (some ⟨p, 0, none⟩), .agg #[.int .i64 1, .int .i64 1, .int .i64 0, .slice (some ⟨w2.heap.size, 0, none⟩) 1 1], .slice (some ⟨w2.heap.size + 1, 0, none⟩) 1 1]
      ((w2.alloc (.cells #[.int .i64 0, .int .i64 n, .string ⟨#[]⟩] 40)).alloc (.cells #[.string lie] 9)) fun e w' =>
      e = .returned (if -1000000 ≤ n ∧ n ≤ 1000000 then .tuple #[.string (if lie = ⟨#[]⟩ then ⟨#[111, 107]⟩ else lie), .nilIface] else .tuple #[.string ⟨#[]⟩, errV 1]) ∧ Below w.heap.size w w' := by
  have hb1 : Below w2.heap.size w2 (w2.alloc (.cells #[.int .i64 0, .int .i64 n, .string ⟨#[]⟩] 40)) := bal1 _ _
  have hv1 : Vin (w2.alloc (.cells #[.int .i64 0, .int .i64 n, .string ⟨#[]⟩] 40)) w.heap.size (some ⟨w2.heap.size, 0, none⟩) [vn n] := vin_lit w2 (vn n)
  have hb2 := bal1 (w2.alloc (.cells #[.int .i64 0, .int .i64 n, .string ⟨#[]⟩] 40)) (.cells #[.string lie] 9)
  obtain ⟨W3, hW⟩ : ∃ W3, W3 = (w2.alloc (.cells #[.int .i64 0, .int .i64 n, .string ⟨#[]⟩] 40)).alloc (.cells #[.string lie] 9) := ⟨_, rfl⟩
  rw [← hW] at hb2 ⊢
  have hv : Vin W3 w.heap.size (some ⟨w2.heap.size, 0, none⟩) [vn n] := hv1.chsV (Nat.le_trans hb.size hb1.size) (Chs.of_below (fun _ => False) hb2) (fun _ h => h.elim)
  have hsz : (w2.alloc (.cells #[.int .i64 0, .int .i64 n, .string ⟨#[]⟩] 40)).heap.size = w2.heap.size + 1 := by simp
  have hl : AtB W3 (w2.heap.size + 1) #[.string lie] 9 := by rw [← hsz, hW]; exact AtB.new _ _ _
  have hC3 := (hC.keep hb1).keep hb2
  have hb3 := bcl (bcl hb hb1) hb2
  have h := crdo_any hC3 (Nat.le_refl 1) (by decide) (fun W hW => ht W (hb3.trans hW)) (by decide) (an n) (some ⟨w2.heap.size, 0, none⟩) 1 (by show 1 ≤ maxLen; decide) (okV n) (WalkArith.wf_i64 (show (-9223372036854775808 : Int) ≤ 1 ∧ (1 : Int) ≤ 9223372036854775807 by decide)) hv
    (some ⟨w2.heap.size + 1, 0, none⟩) 1 [lie] (Nat.le_refl 1) (fun W hk => strs_one (hl.chs hk fun e => hC3.nk (by decide) (by decide) (by decide) _ e hl.kin)) (fun i hi => by
      obtain rfl : i = 0 := by simpa using hi
      exact hls)
  refine h.mono fun e w' ⟨h1, D', h2, h3, _⟩ => ⟨?_, hb3.trans (h3.below (fun b hb => (hC3.mine b hb).1) hb3.size)⟩
  rw [h1]
  by_cases hr : -1000000 ≤ n ∧ n ≤ 1000000
  · rw [if_pos hr, if_pos (do_in hr).1, (do_in hr).2]
    have h4 : sayL [lie] ⟨#[111, 107]⟩ 1 = [if lie = ⟨#[]⟩ then ⟨#[111, 107]⟩ else lie] := by
      show [sy [lie] ⟨#[111, 107]⟩ 0] = _
      unfold sy
      by_cases e : lie = ⟨#[]⟩
      · rw [if_neg (fun h => h.2 e), if_pos e]
      · rw [if_pos ⟨by simp, e⟩, if_neg e]; rfl
    rw [h4, show (((1 : Nat) : Int) - 1) / 3 + 1 = 1 by decide, win_one]
  · rw [if_neg hr, if_neg (by rw [do_out hr]; decide), do_out hr]
set_option maxHeartbeats 3200000 in
set_option maxRecDepth 100000 in
theorem walk (w : World) (ht : TT w) (lie : ByteArray) (hls : lie.size ≤ maxLen) (n : Int) (hn : I64 n) :
    Calls Tryd.prog 5 #[.string lie, .int .i64 n] w fun e w' => e = .returned (.bool true) ∧ Below w.heap.size w w' := by
  have htt : ∀ W, Below w.heap.size w W → TT W := fun W h => tab_stays (g := 2) (by kernel_rfl) ht h (Nat.le_refl _)
  have co := open_any w
  have cn := fun (W : World) (hW : Below w.heap.size w W) (hX : RX W w.heap.size (some ⟨w.heap.size + 1, 0, none⟩) [(⟨0, -1, star, true⟩, some ⟨w.heap.size, 0, none⟩, 1), (⟨1, -1, star, true⟩, some ⟨w.heap.size, 0, none⟩, 1), (⟨2, -1, star, true⟩, some ⟨w.heap.size, 0, none⟩, 1)]) =>
    crnew_ok (w := W) (base := w.heap.size) hW.size 1 (Nat.le_refl 1) (by decide) (some ⟨w.heap.size + 1, 0, none⟩) 3 _ hX r3 okR3
  have cnd := fun (W : World) (p : Nat) (A : Option Addr) (c : Nat) (D : Nat → Dq) (hC : Crw W w.heap.size p A c 1 D R3 (fun _ => Cs.zero)) => crneed_any hC (Nat.le_refl 1) (by decide)
  rw [show (((1 : Nat) : Int) - 1) / 3 + 1 = 1 by decide] at cnd
  have cd := fun (W : World) (p c : Nat) (A : Option Addr) (D : Nat → Dq) (hW : Below w.heap.size w W) (hC : Crw W w.heap.size p A c 1 D R3 (fun _ => Cs.zero)) => do_one htt hW hC lie hls n
  have CO := Lib.hid co; have CN := Lib.hid cn; have CND := Lib.hid cnd
  clear co cn cnd htt ht hls
  by_cases hr : -1000000 ≤ n ∧ n ≤ 1000000
  · rw [if_pos hr] at cd
    by_cases e : lie = ⟨#[]⟩
    · subst e
      rw [if_pos rfl] at cd
      have CD := Lib.hid cd
      clear cd hr
      go_enter Tryd.func5, Tryd.ntmps5
      go_wp2_with (first
        | (go_at_call 15; refine CO.out.mono ?_; rintro e w1 ⟨rfl, hx1, hb1⟩; have HX1 := Lib.hid hx1; have HB1 := Lib.hid hb1; clear hx1 hb1)
        | (go_at_call 14; refine (CN.out _ HB1.out HX1.out).mono ?_; rintro e w2 ⟨p, A, c, D, rfl, hC2, hb2, _, _⟩; have HC2 := Lib.hid hC2; have HB2 := Lib.hid (bcl HB1.out hb2); clear hC2 hb2)
        | (go_at_call 16; refine (CND.out _ p A c D HC2.out).mono ?_; rintro e w3 ⟨rfl, rfl⟩)
        | (go_at_call 17; refine (CD.out _ p c A D HB2.out HC2.out).mono ?_; rintro e w4 ⟨rfl, hb4⟩))
      go_ret
      exact ⟨rfl, hb4⟩
    · rw [if_neg e] at cd
      have CD := Lib.hid cd
      have q := str_same lie
      clear cd hr e
      go_enter Tryd.func5, Tryd.ntmps5
      go_wp2_with (first
        | (go_at_call 15; refine CO.out.mono ?_; rintro e w1 ⟨rfl, hx1, hb1⟩; have HX1 := Lib.hid hx1; have HB1 := Lib.hid hb1; clear hx1 hb1)
        | (go_at_call 14; refine (CN.out _ HB1.out HX1.out).mono ?_; rintro e w2 ⟨p, A, c, D, rfl, hC2, hb2, _, _⟩; have HC2 := Lib.hid hC2; have HB2 := Lib.hid (bcl HB1.out hb2); clear hC2 hb2)
        | (go_at_call 16; refine (CND.out _ p A c D HC2.out).mono ?_; rintro e w3 ⟨rfl, rfl⟩)
        | (go_at_call 17; refine (CD.out _ p c A D HB2.out HC2.out).mono ?_; rintro e w4 ⟨rfl, hb4⟩))
      go_ret
      exact ⟨rfl, hb4⟩
  · rw [if_neg hr] at cd
    have CD := Lib.hid cd
    have hx : decide (n < -1000000) = true ∨ (decide (n < -1000000) = false ∧ decide (1000000 < n) = true) := by
      simp only [decide_eq_true_eq, decide_eq_false_iff_not]; omega
    clear cd hr
    rcases hx with x1 | ⟨x1, x2⟩
    all_goals
      go_enter Tryd.func5, Tryd.ntmps5
      go_wp2_with (first
        | (go_at_call 15; refine CO.out.mono ?_; rintro e w1 ⟨rfl, hx1, hb1⟩; have HX1 := Lib.hid hx1; have HB1 := Lib.hid hb1; clear hx1 hb1)
        | (go_at_call 14; refine (CN.out _ HB1.out HX1.out).mono ?_; rintro e w2 ⟨p, A, c, D, rfl, hC2, hb2, _, _⟩; have HC2 := Lib.hid hC2; have HB2 := Lib.hid (bcl HB1.out hb2); clear hC2 hb2)
        | (go_at_call 16; refine (CND.out _ p A c D HC2.out).mono ?_; rintro e w3 ⟨rfl, rfl⟩)
        | (go_at_call 17; refine (CD.out _ p c A D HB2.out HC2.out).mono ?_; rintro e w4 ⟨rfl, hb4⟩))
      go_ret
      exact ⟨rfl, hb4⟩
end Go.Proofs.YthkaaheeblehhaaDoor.crowdAlone
