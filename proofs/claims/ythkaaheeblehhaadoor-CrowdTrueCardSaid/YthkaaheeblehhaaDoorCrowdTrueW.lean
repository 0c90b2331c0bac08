/- CrowdTrue: the walk. -/
import Derived.Test.YthkaaheeblehhaaDoorCrAll
import Derived.Test.YthkaaheeblehhaaDoorVotePlain
import Derived.WalkKit
import Derived.WalkLawsBesides
import Derived.WalkSpells
import Derived.RegionTactic
import Derived.Deep.QuietTactic
import Derived.BigQuiet
import Derived.Outline
namespace Go.Proofs.YthkaaheeblehhaaDoor.crowdTrue
open Go.ChangeShapes Go.WideShapes Go.ChangeAt Go.RowKit Go.Joins Go.Deep
set_option linter.unusedVariables false

def star : List Va := [⟨2, 0, ⟨#[]⟩⟩]
def R4 : List Ru := [⟨1, -1, star, true⟩]
def four : List Va := [⟨0, 4, ⟨#[]⟩⟩]
def a4 : Ak := ⟨1, 1, 1, four⟩
def l4 : List ByteArray := [⟨#[]⟩, ⟨#[55]⟩]
def none4 : ByteArray := ⟨#[110, 111, 110, 101]⟩
theorem r4 : rulE R4 = 0 := by rfl
theorem d4 : doE R4 Cs.zero a4 = 0 := by rfl
theorem s4 : doS R4 Cs.zero a4 = none4 := by rfl
theorem okS : okL star := fun i hi => by
  obtain rfl : i = 0 := by simpa [star] using hi
  decide
theorem ok4 : okL four := fun i hi => by
  obtain rfl : i = 0 := by simpa [four] using hi
  decide
theorem okR4 : okR R4 := fun i hi => by
  obtain rfl : i = 0 := by simpa [R4] using hi
  exact ⟨okS, by show I64 _; unfold I64; decide, by show I64 _; unfold I64; decide⟩
theorem win4 : winV (sayL l4 none4 4) 2 = .tuple #[.string none4, .nilIface] := by
  have h := truth_wins (sayL l4 none4 4) none4 1 (by decide) (by rw [sayL_length]; decide)
  simpa using h
/-- what is said is the truth but where one lies -/
theorem bad_say (ls : List ByteArray) (t : ByteArray) (n : Nat) : ∀ k, k ≤ n → bad (sayL ls t n) t k ≤ bad ls ⟨#[]⟩ k := by
  intro k
  induction k with
  | zero => intro _; exact Nat.le_refl _
  | succ k ih =>
    intro hk
    have h1 := ih (by omega)
    rw [bad, bad, sayL_at _ _ (by omega : k < n)]
    have h2 : (if sy ls t k = t then 0 else 1) ≤ if gs ls k = ⟨#[]⟩ then 0 else 1 := by
      by_cases e : gs ls k = ⟨#[]⟩
      · rw [if_pos e, if_pos]
        · exact Nat.le_refl _
        · rw [sy, if_neg (fun h => h.2 e)]
      · rw [if_neg e]; split <;> omega
    omega
/-- with no more liars than may be the truth wins -/
theorem win_true (ls : List ByteArray) (t : ByteArray) (n f : Nat) (hf : 3 * f + 1 ≤ n) (hb : bad ls ⟨#[]⟩ n ≤ f) : winV (sayL ls t n) ((f : Int) + 1) = .tuple #[.string t, .nilIface] := by
  refine truth_wins _ t f ?_ (by rw [sayL_length]; omega)
  rw [sayL_length]
  exact Nat.le_trans (bad_say ls t n n (Nat.le_refl _)) hb
theorem doC_n (R : List Ru) (s : Cs) (a : Ak) : (doC R s a).n ≤ s.n + 1 := by
  unfold doC; split
  · omega
  · exact Nat.le_refl _
theorem gs_rep {n i : Nat} (h : i < n) : (gs (List.replicate n ⟨#[]⟩) i).size ≤ maxLen := by
  have : gs (List.replicate n ⟨#[]⟩) i = ⟨#[]⟩ := by simp [gs, h]
  rw [this]; exact Nat.zero_le _
/-- a slice of texts that the law fills -/
def LB (w : World) (b : Nat) (ls : List ByteArray) : Prop := AtB w b (ls.map Value.string).toArray 9
theorem LB.strs {w : World} {b : Nat} {ls : List ByteArray} (h : LB w b ls) : Strs w (some ⟨b, 0, none⟩) ls := fun _ => ⟨b, 0, rfl, h.lt, fun i hi j hj => by
  obtain rfl : j = 0 := by omega
  have := h.cell (i := i) (v := .string (gs ls i)) (by simp [gs, hi])
  simpa using this⟩
theorem LB.set {w : World} {b : Nat} {ls : List ByteArray} (h : LB w b ls) (i : Nat) (x : ByteArray) : LB (w.setCell ⟨b, i, none⟩ (.string x)) b (setS ls i x) := by
  have h2 := AtB.set h i (.string x)
  have e : (ls.map Value.string).toArray.setIfInBounds i (.string x) = ((setS ls i x).map Value.string).toArray := by
    unfold setS; simp [List.map_set]
  rw [e] at h2; exact h2
/-- a crowd and a copy beside it -/
structure CT (w0 w : World) (p : Nat) (A : Option Addr) (c n : Nat) (D : Nat → Dq) (p2 q2 : Nat) (g2 : Option Nat) (m2 : Nat) (R : List Ru) (s s2 : Cs) : Prop where
  b : Below w0.heap.size w0 w
  c : Crw w w0.heap.size p A c n D R (fun _ => s)
  x : Cpy w w0.heap.size p2 q2 g2 m2 R s2
  d : ∀ b, CrM D n b → ¬ CM p2 q2 g2 m2 b
section
variable {w0 w w' : World} {p c n p2 q2 m2 : Nat} {A : Option Addr} {D D' : Nat → Dq} {g2 g' : Option Nat} {R : List Ru} {s s2 s' : Cs}
theorem CT.keep (j : CT w0 w p A c n D p2 q2 g2 m2 R s s2) (k : Below w.heap.size w w') : CT w0 w' p A c n D p2 q2 g2 m2 R s s2 := ⟨bcl j.b k, j.c.keep k, j.x.keep k, j.d⟩
theorem CT.copy (j : CT w0 w p A c n D p2 q2 g2 m2 R s s2) (hc : Cpy w' w0.heap.size p2 q2 g' m2 R s') (k : Chs (CM p2 q2 g2 m2) w w') (hn : Nw g2 g' w.heap.size) : CT w0 w' p A c n D p2 q2 g' m2 R s s' := by
  refine ⟨j.b.trans (k.below j.x.own j.x.hb), j.c.far k j.x.mine (fun b hb e => j.d b e hb) fun b hb => ⟨fun e => ?_, fun e => ?_⟩, hc, fun b hb h2 => ?_⟩
  · subst e; exact j.x.nk (t := 104) (by decide) (by decide) (by decide) _ hb j.c.there.kin
  · exact j.x.nk (by decide) (by decide) (by decide) b hb (own_block_of j.c.arr e).2
  · rcases nw_cm hn (Nat.le_refl _) h2 with h | h
    · exact j.d b hb h
    · have := j.c.lts b hb; omega
theorem CT.crowd (j : CT w0 w p A c n D p2 q2 g2 m2 R s s2) (hc : Crw w' w0.heap.size p A c n D' R (fun _ => s')) (k : Chs (CrM D n) w w') (hn : ∀ b, CrM D' n b → CrM D n b ∨ w.heap.size ≤ b) : CT w0 w' p A c n D' p2 q2 g2 m2 R s' s2 := by
  refine ⟨j.b.trans (k.below (fun b hb => (j.c.mine b hb).1) j.c.hb), hc, j.x.apart k j.c.mine j.d, fun b hb h2 => ?_⟩
  rcases hn b hb with h | h
  · exact j.d b h h2
  · have := j.x.lts b h2; omega
/-- the law's own texts have changed -/
theorem CT.texts {M : Nat → Prop} (j : CT w0 w p A c n D p2 q2 g2 m2 R s s2) (k : Chs M w w') (hM : ∀ b, M b → w0.heap.size ≤ b ∧ kin w b 9) : CT w0 w' p A c n D p2 q2 g2 m2 R s s2 :=
  ⟨j.b.trans (k.below (fun b hb => (hM b hb).1) j.c.hb), j.c.other k hM (by decide) (by decide) (by decide) (by decide) (by decide) (by decide) (by decide),
    j.x.apart k (fun b hb => ⟨(hM b hb).1, fun e => absurd (kin.ne (hM b hb).2 e) (by decide), fun e => absurd (kin.ne (hM b hb).2 e) (by decide)⟩) (fun b hb e => j.x.nk (by decide) (by decide) (by decide) b e (hM b hb).2), j.d⟩
end
theorem crnew_range (n : Int) (hn : copB n = false) (RA : Option Addr) (l rc : Nat) (w : World) :
    Calls Tryd.prog 14 #[.int .i64 n, .slice RA l rc] w fun e w' => e = .returned (.tuple #[.pointer none, errV 1]) ∧ w = w' := by
  have cc := copies_any n
  rw [hn] at cc
  have CC := Lib.hid cc
  clear cc hn
  go_enter Tryd.func14, Tryd.ntmps14
  go_wp2_with (go_at_call 48; refine (CC.out _).mono ?_; rintro e w1 ⟨rfl, rfl⟩)
  go_ret2
  exact ⟨rfl, rfl⟩
set_option maxHeartbeats 800000 in
set_option maxRecDepth 100000 in
theorem crnew_rules (n : Nat) (n1 : 1 ≤ n) (n7 : n ≤ 7) (RA : Option Addr) (rc : Nat) (l : List Ru) (hm : l.length ≤ maxLen) (w : World) (hA : Rls w RA l) (hr : rulE l ≠ 0) (ho : okR l) :
    Calls Tryd.prog 14 #[.int .i64 n, .slice RA l.length rc] w fun e w' => e = .returned (.tuple #[.pointer none, errV (rulE l)]) ∧ Below w.heap.size w w' := by
  have cc := copies_any (n : Int)
  rw [show copB (n : Int) = true from copB_true.2 ⟨by omega, by omega⟩] at cc
  have cn := fun (W : World) (hW : Below w.heap.size w W) => cpnew_no (w := W) RA rc l hm (hA.below hW (Nat.le_refl _)) hr ho
  have CC := Lib.hid cc; have CN := Lib.hid cn
  have i1 : (0 : Int) < (n : Int) := by omega
  clear cc cn hA hr ho hm
  generalize rulE l = E at *
  have hb0 : Below w.heap.size w (w.alloc (.cells #[.slice none 0 0] 104)) := bal1 _ _
  have HB0 := Lib.hid hb0
  clear hb0
  go_enter Tryd.func14, Tryd.ntmps14
  go_wp2_with (go_at_call 48; refine (CC.out _).mono ?_; rintro e w1 ⟨rfl, rfl⟩)
  go_loopw [7, 8, 16] (fun _ _ s16 wr => s16 = .int .i64 0 ∧ wr = w.alloc (.cells #[.slice none 0 0] 104)) (fun _ _ _ _ => 0)
  case atStart => exact ⟨rfl, rfl⟩
  case round =>
    obtain ⟨rfl, rfl⟩ := hrel
    go_wp2_with (go_at_call 9; refine (CN.out _ HB0.out).mono ?_; rintro e w2 ⟨rfl, hb2⟩)
    go_ret2
    exact ⟨rfl, bcl HB0.out hb2⟩
theorem vin_lit (W : World) {base : Nat} (v : Va) : Vin (W.alloc (.cells #[.int .i64 v.k, .int .i64 v.n, .string v.s] 40)) base (some ⟨W.heap.size, 0, none⟩) [v] :=
  ⟨lit_vals W [v] 40 rfl, fun _ a ha => .inr (by injection ha with ha; subst ha; exact (AtB.new _ _ _).kin)⟩
/-- what the crowd of four answers -/
theorem do_four {w w2 : World} {p c : Nat} {A : Option Addr} {D : Nat → Dq} (ht : ∀ W, Below w.heap.size w W → TT W) (hb : Below w.heap.size w w2) (hC : Crw w2 w.heap.size p A c 4 D R4 (fun _ => Cs.zero)) :
    Calls Tryd.prog 17 #[.pointer (some ⟨p, 0, none⟩), .agg #[.int .i64 1, .int .i64 1, .int .i64 1, .slice (some ⟨w2.heap.size, 0, none⟩) 1 1], .slice (some ⟨w2.heap.size + 1, 0, none⟩) 2 2]
      ((w2.alloc (.cells #[.int .i64 0, .int .i64 4, .string ⟨#[]⟩] 40)).alloc (.cells #[.string ⟨#[]⟩, .string ⟨#[55]⟩] 9)) fun e w' =>
      e = .returned (.tuple #[.string none4, .nilIface]) ∧ Below w.heap.size w w' := by
  have hb1 : Below w2.heap.size w2 (w2.alloc (.cells #[.int .i64 0, .int .i64 4, .string ⟨#[]⟩] 40)) := bal1 _ _
  have hv1 : Vin (w2.alloc (.cells #[.int .i64 0, .int .i64 4, .string ⟨#[]⟩] 40)) w.heap.size (some ⟨w2.heap.size, 0, none⟩) four := vin_lit w2 ⟨0, 4, ⟨#[]⟩⟩
  have hb2 := bal1 (w2.alloc (.cells #[.int .i64 0, .int .i64 4, .string ⟨#[]⟩] 40)) (.cells #[.string ⟨#[]⟩, .string ⟨#[55]⟩] 9)
  obtain ⟨W3, hW⟩ : ∃ W3, W3 = (w2.alloc (.cells #[.int .i64 0, .int .i64 4, .string ⟨#[]⟩] 40)).alloc (.cells #[.string ⟨#[]⟩, .string ⟨#[55]⟩] 9) := ⟨_, rfl⟩
  rw [← hW] at hb2 ⊢
  have hv : Vin W3 w.heap.size (some ⟨w2.heap.size, 0, none⟩) four := hv1.chsV (Nat.le_trans hb.size hb1.size) (Chs.of_below (fun _ => False) hb2) (fun _ h => h.elim)
  have hsz : (w2.alloc (.cells #[.int .i64 0, .int .i64 4, .string ⟨#[]⟩] 40)).heap.size = w2.heap.size + 1 := by simp
  have hl : LB W3 (w2.heap.size + 1) l4 := by rw [← hsz, hW]; exact AtB.new _ _ _
  have hC3 := (hC.keep hb1).keep hb2
  have hb3 := bcl (bcl hb hb1) hb2
  have h := crdo_any hC3 (by decide) (by decide) (fun W hW => ht W (hb3.trans hW)) (by decide) a4 (some ⟨w2.heap.size, 0, none⟩) 1 (by show 1 ≤ maxLen; decide) ok4 (WalkArith.wf_i64 (show (-9223372036854775808 : Int) ≤ 1 ∧ (1 : Int) ≤ 9223372036854775807 by decide)) hv
    (some ⟨w2.heap.size + 1, 0, none⟩) 2 l4 (by decide) (fun W hk => LB.strs (show LB W _ l4 from AtB.chs hl hk fun e => hC3.nk (by decide) (by decide) (by decide) _ e (AtB.kin hl))) (fun i hi => by
      have : i = 0 ∨ i = 1 := by simp [l4] at hi; omega
      rcases this with rfl | rfl
      · show (⟨#[]⟩ : ByteArray).size ≤ maxLen
        decide
      · show (⟨#[55]⟩ : ByteArray).size ≤ maxLen
        decide)
  refine h.mono fun e w' ⟨h1, D', h2, h3, _⟩ => ⟨?_, hb3.trans (h3.below (fun b hb => (hC3.mine b hb).1) hb3.size)⟩
  rw [h1, if_pos d4, s4, show (((4 : Nat) : Int) - 1) / 3 + 1 = 2 by decide, win4]
set_option maxRecDepth 100000 in
theorem mk_any (n : Nat) (n1 : 1 ≤ n) (n7 : n ≤ 7) (W : World) : (Instr.makeSlice 51 (.int .i64 n) (.int .i64 n)).run Tryd.prog W = .ok (.slice (some ⟨W.heap.size, 0, none⟩) n n) (W.alloc (.cells ((List.replicate n ⟨#[]⟩).map Value.string).toArray 9)) := by
  have : n = 1 ∨ n = 2 ∨ n = 3 ∨ n = 4 ∨ n = 5 ∨ n = 6 ∨ n = 7 := by omega
  rcases this with rfl | rfl | rfl | rfl | rfl | rfl | rfl
  · exact (show (Instr.makeSlice 51 (.int .i64 1) (.int .i64 1)).run Tryd.prog W = .ok (.slice (some ⟨W.heap.size, 0, none⟩) 1 1) (W.alloc (.cells #[.string ⟨#[]⟩] 9)) from by kernel_rfl)
  · exact (show (Instr.makeSlice 51 (.int .i64 2) (.int .i64 2)).run Tryd.prog W = .ok (.slice (some ⟨W.heap.size, 0, none⟩) 2 2) (W.alloc (.cells #[.string ⟨#[]⟩, .string ⟨#[]⟩] 9)) from by kernel_rfl)
  · exact (show (Instr.makeSlice 51 (.int .i64 3) (.int .i64 3)).run Tryd.prog W = .ok (.slice (some ⟨W.heap.size, 0, none⟩) 3 3) (W.alloc (.cells #[.string ⟨#[]⟩, .string ⟨#[]⟩, .string ⟨#[]⟩] 9)) from by kernel_rfl)
  · exact (show (Instr.makeSlice 51 (.int .i64 4) (.int .i64 4)).run Tryd.prog W = .ok (.slice (some ⟨W.heap.size, 0, none⟩) 4 4) (W.alloc (.cells #[.string ⟨#[]⟩, .string ⟨#[]⟩, .string ⟨#[]⟩, .string ⟨#[]⟩] 9)) from by kernel_rfl)
  · exact (show (Instr.makeSlice 51 (.int .i64 5) (.int .i64 5)).run Tryd.prog W = .ok (.slice (some ⟨W.heap.size, 0, none⟩) 5 5) (W.alloc (.cells #[.string ⟨#[]⟩, .string ⟨#[]⟩, .string ⟨#[]⟩, .string ⟨#[]⟩, .string ⟨#[]⟩] 9)) from by kernel_rfl)
  · exact (show (Instr.makeSlice 51 (.int .i64 6) (.int .i64 6)).run Tryd.prog W = .ok (.slice (some ⟨W.heap.size, 0, none⟩) 6 6) (W.alloc (.cells #[.string ⟨#[]⟩, .string ⟨#[]⟩, .string ⟨#[]⟩, .string ⟨#[]⟩, .string ⟨#[]⟩, .string ⟨#[]⟩] 9)) from by kernel_rfl)
  · exact (show (Instr.makeSlice 51 (.int .i64 7) (.int .i64 7)).run Tryd.prog W = .ok (.slice (some ⟨W.heap.size, 0, none⟩) 7 7) (W.alloc (.cells #[.string ⟨#[]⟩, .string ⟨#[]⟩, .string ⟨#[]⟩, .string ⟨#[]⟩, .string ⟨#[]⟩, .string ⟨#[]⟩, .string ⟨#[]⟩] 9)) from by kernel_rfl)
set_option maxHeartbeats 12800000 in
set_option maxRecDepth 100000 in
theorem walk (w : World) (ht : TT w) (N : Int) (hN : I64 N) (RA : Option Addr) (rc : Nat) (R : List Ru) (hn1 : R.length ≤ rc) (hm1 : rc ≤ maxLen) (hR : Rls w RA R) (hokr : okR R)
    (A : Option Addr) (c : Nat) (l : List Ak) (hn2 : l.length ≤ c) (hm2 : c ≤ maxLen) (hA : Aks w A l) (hok : okA l)
    (WA : Option Addr) (wc : Nat) (who : List Int) (hn3 : who.length ≤ wc) (hm3 : wc ≤ maxLen) (hW : Ints w WA who) (_ : ∀ i, i < who.length → I64 (gi who i))
    (YA : Option Addr) (yc : Nat) (lie : List ByteArray) (hn4 : lie.length ≤ yc) (hm4 : yc ≤ maxLen) (hY : Strs w YA lie) (hys : ∀ i, i < lie.length → (gs lie i).size ≤ maxLen) :
    Calls Tryd.prog 6 #[.int .i64 N, .slice RA R.length rc, .slice A l.length c, .slice WA who.length wc, .slice YA lie.length yc] w fun e w' => e = .returned (.bool true) ∧ Below w.heap.size w w' := by
  have hw63 : who.length ≤ 9223372036854775807 := by unfold maxLen at hm3; omega
  obtain ⟨X, rfl, hX⟩ := RX.of_arg hR (Nat.le_refl w.heap.size)
  rw [List.length_map]
  have htt : ∀ W, Below w.heap.size w W → TT W := fun W h => tab_stays (g := 2) (by kernel_rfl) ht h (Nat.le_refl _)
  have hb1 := bal1 w (.cells #[.int .i64 2, .int .i64 0, .string ⟨#[]⟩] 40)
  have hx := (lit_rule (w.alloc (.cells #[.int .i64 2, .int .i64 0, .string ⟨#[]⟩] 40)) (base := w.heap.size) hb1.size ⟨1, -1, star, true⟩ (some ⟨w.heap.size, 0, none⟩) 1 (vin_lit w ⟨2, 0, ⟨#[]⟩⟩) (Nat.le_refl 1) (by decide) (g := w.heap.size + 1) (by simp)).rx
  have hb2 := bal hb1 (.cells #[.int .i64 1, .int .i64 (-1), .slice (some ⟨w.heap.size, 0, none⟩) 1 1, .bool true] 42)
  have cn := crnew_ok (base := w.heap.size) hb2.size 4 (by decide) (by decide) (some ⟨w.heap.size + 1, 0, none⟩) 1 _ hx r4 okR4
  have cnd := fun (W : World) (p : Nat) (A : Option Addr) (c : Nat) (D : Nat → Dq) (hC : Crw W w.heap.size p A c 4 D R4 (fun _ => Cs.zero)) => crneed_any hC (by decide) (by decide)
  rw [show (((4 : Nat) : Int) - 1) / 3 + 1 = 2 by decide] at cnd
  have cd := fun (W : World) (p c : Nat) (A : Option Addr) (D : Nat → Dq) (hW : Below w.heap.size w W) (hC : Crw W w.heap.size p A c 4 D R4 (fun _ => Cs.zero)) => do_four htt hW hC
  rw [show none4 = ⟨#[110, 111, 110, 101]⟩ from rfl] at cd
  have CN := Lib.hid cn; have CND := Lib.hid cnd; have CD := Lib.hid cd; have HB2 := Lib.hid hb2
  have HR := Lib.hid hR; have HOKR := Lib.hid hokr; have HA := Lib.hid hA; have HOK := Lib.hid hok; have HTT := Lib.hid htt; have HWH := Lib.hid hW; have HY := Lib.hid hY; have HYS := Lib.hid hys; have HX := Lib.hid hX
  clear cn cnd cd hb1 hb2 hx hX hR hokr hA hok htt ht hW hY hys
  go_enter Tryd.func6, Tryd.ntmps6
  go_wp2_with fail
  refine CN.out.mono ?_
  rintro e w2 ⟨p, A1, c1, D, rfl, hC2, hb2, _, _⟩
  have HC2 := Lib.hid hC2; have HB3 := Lib.hid (bcl HB2.out hb2)
  clear hC2 hb2
  go_wp2_with (go_at_call 16; refine (CND.out _ p A1 c1 D HC2.out).mono ?_; rintro e w3 ⟨rfl, rfl⟩)
  refine (CD.out _ p c1 A1 D HB3.out HC2.out).mono ?_
  rintro e w4 ⟨rfl, hb4⟩
  have HB4 := Lib.hid hb4
  clear hb4 HC2 HB3 CN CND CD HB2
  by_cases hN7 : 1 ≤ N ∧ N ≤ 7
  · obtain ⟨n, rfl⟩ := Int.eq_ofNat_of_zero_le (show 0 ≤ N by omega)
    have n1 : 1 ≤ n := by omega
    have n7 : n ≤ 7 := by omega
    by_cases er : rulE (X.map (·.1)) = 0
    · have cn := fun (W : World) (hW : Below w.heap.size w W) => crnew_ok (w := W) (base := w.heap.size) hW.size n n1 n7 RA rc X (HX.out.below (Nat.le_refl _) hW) er HOKR.out
      have cx := fun (W : World) (hW : Below w.heap.size w W) => cpnew_ok (w := W) (base := w.heap.size) hW.size RA rc X (HX.out.below (Nat.le_refl _) hW) er HOKR.out
      have CN := Lib.hid cn; have CX := Lib.hid cx
      clear cn cx er hN7
      have y1 : decide ((n : Int) < 1) = false := by simp; omega
      have y2 : decide (7 < (n : Int)) = false := by simp; omega
      go_wp2_with fail
      refine (CN.out _ HB4.out).mono ?_
      rintro e w5 ⟨p, A1, c1, D, rfl, hC1, hb1, _, _⟩
      have HC1 := Lib.hid hC1; have HB5 := Lib.hid (bcl HB4.out hb1)
      clear hC1 hb1
      go_wp2_with fail
      refine (CX.out _ HB5.out).mono ?_
      rintro e w6 ⟨p2, q2, m2, rfl, hC2, hb2, h1, h2, h3⟩
      have HJ0 : Hid (CT w w6 p A1 c1 n D p2 q2 none m2 (X.map (·.1)) Cs.zero Cs.zero) := Lib.hid ⟨bcl HB5.out hb2, HC1.out.keep hb2, hC2, new_cm HC1.out.lts h1 h2 h3⟩
      clear hC2 hb2 h1 h2 h3 HC1 HB5 HB4 CN CX
      go_wp2_with fail
      go_loopw [18, 19, 20, 21, 22, 23, 24, 25] (fun s18 _ _ _ _ _ _ _ wr => ∃ (k : Nat) (D : Nat → Dq) (g2 : Option Nat) (s : Cs), k ≤ l.length ∧ k ≤ 30 ∧ s.n ≤ k ∧ s18 = .int .i64 k ∧ Hid (CT w wr p A1 c1 n D p2 q2 g2 m2 (X.map (·.1)) s s)) (fun s18 _ _ _ _ _ _ _ _ => 31 - (intOf s18).toNat)
      case atStart => exact ⟨0, D, none, Cs.zero, Nat.zero_le _, by omega, Nat.le_refl _, rfl, HJ0⟩
      case round =>
        clear HJ0
        obtain ⟨k, D, g2, s, hkl, hk30, hsn, rfl, HJ⟩ := hrel
        by_cases t1 : k < l.length
        · by_cases t2 : k < 30
          · obtain ⟨wo, hwo⟩ : ∃ wo : World, wo = wr := ⟨_, rfl⟩
            subst hwo
            have mk := mk_any n n1 n7 wo
            obtain ⟨ba, oa, B, C, rfl, hbl, c0, c1', c2, c3, hv, hb1, hb2⟩ := HA.out.at_ t1
            obtain ⟨hokt, w1, w2', w3⟩ := HOK.out k t1
            have i0 : (0 : Int) ≤ (k : Int) := by omega
            have i1 : (k : Int) < (l.length : Nat) := by omega
            have i30 : (k : Int) < 30 := by omega
            have cells := fun (W : World) (hW : Below w.heap.size w W) => And.intro ((hW.cell (p := ⟨ba, oa + k * 4, none⟩) hbl).trans c0) (And.intro ((hW.cell (p := ⟨ba, oa + k * 4 + 1, none⟩) hbl).trans c1') (And.intro ((hW.cell (p := ⟨ba, oa + k * 4 + 2, none⟩) hbl).trans c2) ((hW.cell (p := ⟨ba, oa + k * 4 + 3, none⟩) hbl).trans c3)))
            have ns := doC_n (X.map (·.1)) s (ak l k)
            generalize ak l k = a at *
            have hbA := bal1 wo (.cells ((List.replicate n ⟨#[]⟩).map Value.string).toArray 9)
            have hlb : LB (wo.alloc (.cells ((List.replicate n ⟨#[]⟩).map Value.string).toArray 9)) wo.heap.size (List.replicate n ⟨#[]⟩) := AtB.new _ _ _
            obtain ⟨wa, hwa⟩ : ∃ wa, wa = wo.alloc (.cells ((List.replicate n ⟨#[]⟩).map Value.string).toArray 9) := ⟨_, rfl⟩
            rw [← hwa] at mk hbA hlb
            clear hwa
            have cnd := fun (W : World) (hC : Crw W w.heap.size p A1 c1 n D (X.map (·.1)) (fun _ => s)) => crneed_any hC n1 n7
            obtain ⟨f, hf⟩ : ∃ f : Nat, ((n : Int) - 1) / 3 = f := ⟨(n - 1) / 3, by omega⟩
            rw [hf] at cnd
            have hf3 : 3 * f + 1 ≤ n := by omega
            have hf2 : (f : Int) ≤ 2 := by omega
            have hja := HJ.out.keep hbA
            have HLB := Lib.hid hlb; have HJA := Lib.hid hja; have CND := Lib.hid cnd; have HCELL := Lib.hid cells; have HV := Lib.hid hv; have HOKT := Lib.hid hokt; have HW2 := Lib.hid w2'; have HT := Lib.hid (Nat.le_trans hb1 hb2); have NS := Lib.hid ns
            have HF := Lib.hid hf; have HNB := Lib.hid (show w.heap.size ≤ wo.heap.size from HJ.out.b.size)
            clear hlb hja hbA cnd cells hv hokt w1 w2' w3 c0 c1' c2 c3 HJ ns hf hb1 hb2
            go_upto_block 2 with fail
            go_cut [20, 21] (fun _ _ wx => ∃ (L : List ByteArray), L.length = n ∧ Hid (bad L ⟨#[]⟩ n ≤ f) ∧ Hid (∀ i, i < L.length → (gs L i).size ≤ maxLen) ∧ Hid (LB wx wo.heap.size L) ∧ Hid (CT w wx p A1 c1 n D p2 q2 g2 m2 (X.map (·.1)) s s))
            case first =>
              go_wp2_with fail
              go_loopw [20, 21] (fun s20 s21 wx => ∃ (m j : Nat) (L : List ByteArray), s20 = .int .i64 m ∧ s21 = .int .i64 j ∧ j ≤ who.length ∧ m ≤ f ∧ L.length = n ∧ Hid (bad L ⟨#[]⟩ n ≤ m) ∧ Hid (∀ i, i < L.length → (gs L i).size ≤ maxLen) ∧ Hid (LB wx wo.heap.size L) ∧ Hid (CT w wx p A1 c1 n D p2 q2 g2 m2 (X.map (·.1)) s s)) (fun _ s21 _ => who.length - (intOf s21).toNat)
              case atStart => exact ⟨0, 0, _, rfl, rfl, Nat.zero_le _, Nat.zero_le _, List.length_replicate, Lib.hid (by rw [bad_all _ _ _ (Nat.le_refl _)]; exact Nat.le_refl _), Lib.hid (fun i hi => gs_rep (by rwa [List.length_replicate] at hi)), HLB, HJA⟩
              case round =>
                obtain ⟨m, j, L, rfl, rfl, hj, hm, hL, HBAD, HGS, HLB2, HJ2⟩ := hrel
                have cn2 := CND.out wr HJ2.out.c
                have CN2 := Lib.hid cn2
                clear cn2
                by_cases u1 : j < who.length
                · have j0 : (0 : Int) ≤ (j : Int) := by omega
                  have j1 : (j : Int) < (who.length : Nat) := by omega
                  by_cases u2 : m < f
                  · have m1 : (m : Int) < (f : Int) := by omega
                    obtain ⟨bw, ow, rfl, hwl, cw⟩ := (HWH.out.below HJ2.out.b (Nat.le_refl _)).at_ u1
                    generalize gi who j = a0 at *
                    obtain ⟨tb, htb⟩ : ∃ tb : Bool, tb = true ↔ (∃ x : Nat, a0 = (x : Int) ∧ x < n ∧ gs L x = ⟨#[]⟩ ∧ k < lie.length) := by
                      by_cases h : ∃ x : Nat, a0 = (x : Int) ∧ x < n ∧ gs L x = ⟨#[]⟩ ∧ k < lie.length
                      · exact ⟨true, by simp only [h]⟩
                      · exact ⟨false, by simp only [h]; simp⟩
                    have HTB := Lib.hid htb
                    clear htb
                    have HCW := Lib.hid cw
                    clear cw
                    go_upto_region 19 with (go_at_call 16; refine CN2.out.mono ?_; rintro e w7 ⟨rfl, rfl⟩)
                    go_cut [136] (fun s136 wx => s136 = .bool tb ∧ wx = wr)
                    case first =>
                      by_cases v0 : 0 ≤ a0
                      · obtain ⟨x, rfl⟩ := Int.eq_ofNat_of_zero_le v0
                        have hcw := HCW.out
                        by_cases v1 : x < n
                        · have x1 : (x : Int) < (n : Int) := by omega
                          have hlc : wr.cell? ⟨wo.heap.size, x, none⟩ = some (.string (gs L x)) := HLB2.out.cell (i := x) (by simp [gs, hL, v1])
                          by_cases v2 : gs L x = ⟨#[]⟩
                          · rw [v2] at hlc
                            by_cases v3 : k < lie.length
                            · have hsy : tb = true := HTB.out.2 ⟨x, rfl, v1, v2, v3⟩
                              have k3 : (k : Int) < (lie.length : Nat) := by omega
                              subst hsy
                              clear v0 v2 HTB
                              go_wp2_with fail
                              go_meet
                              case rel => exact ⟨rfl, by first | rfl | trivial⟩
                            · have hsy : tb = false := by rw [← Bool.not_eq_true, HTB.out]; rintro ⟨y, _, _, _, h⟩; exact v3 h
                              have k3 : decide ((k : Int) < (lie.length : Nat)) = false := by simp; omega
                              subst hsy
                              clear v0 v2 HTB
                              go_wp2_with fail
                              go_meet
                              case rel => exact ⟨rfl, by first | rfl | trivial⟩
                          · have hsy : tb = false := by rw [← Bool.not_eq_true, HTB.out]; rintro ⟨y, e, _, h, _⟩; obtain rfl : x = y := by omega
                                                        exact v2 h
                            have he := emp_test (size_pos v2)
                            generalize gs L x = gx at *
                            subst hsy
                            clear v0 v2 HTB
                            go_wp2_with fail
                            go_meet
                            case rel => exact ⟨rfl, by first | rfl | trivial⟩
                        · have hsy : tb = false := by rw [← Bool.not_eq_true, HTB.out]; rintro ⟨y, e, h, _, _⟩; omega
                          have x1 : decide ((x : Int) < (n : Int)) = false := by simp; omega
                          subst hsy
                          clear v0 HTB
                          go_wp2_with fail
                          go_meet
                          case rel => exact ⟨rfl, by first | rfl | trivial⟩
                      · have hsy : tb = false := by rw [← Bool.not_eq_true, HTB.out]; rintro ⟨y, e, h, _, _⟩; omega
                        have hcw := HCW.out
                        have x1 : decide ((0 : Int) ≤ a0) = false := by simp; omega
                        subst hsy
                        clear v0 HTB
                        go_wp2_with fail
                        go_meet
                        case rel => exact ⟨rfl, by first | rfl | trivial⟩
                    case rest =>
                      obtain ⟨rfl, rfl⟩ := hcut
                      obtain ⟨w8, hw⟩ : ∃ w8 : World, w8 = wc := ⟨_, rfl⟩
                      subst hw
                      cases tb with
                      | true =>
                        obtain ⟨x, hx, v1, v2, v3⟩ := HTB.out.1 rfl
                        subst hx
                        obtain ⟨by_, oy, rfl, hyl, cy⟩ := (HY.out.below HJ2.out.b (Nat.le_refl _)).at_ v3
                        have hcw := HCW.out
                        have x0 : (0 : Int) ≤ (x : Int) := by omega
                        have x1 : (x : Int) < (n : Int) := by omega
                        have k3 : (k : Int) < (lie.length : Nat) := by omega
                        have hlb8 := HLB2.out
                        have hfr := AtB.frozen (show AtB w8 wo.heap.size _ 9 from hlb8) x
                        have hly := HYS.out k v3
                        generalize gs lie k = ly at *
                        have hset := hlb8.set x ly
                        have hbd : bad (setS L x ly) ⟨#[]⟩ n ≤ m + 1 := by
                          have := bad_set L ⟨#[]⟩ x ly (by omega) n
                          rw [if_pos v1] at this
                          have := HBAD.out
                          omega
                        have hct := HJ2.out.texts (Chs.set w8 ⟨wo.heap.size, x, none⟩ (.string ly)) (fun b hb => by subst hb; exact ⟨HNB.out, AtB.kin hlb8⟩)
                        have hgs : ∀ i, i < (setS L x ly).length → (gs (setS L x ly) i).size ≤ maxLen := fun i hi => by
                          rw [gs_set L x ly (by omega)]
                          split
                          · exact hly
                          · exact HGS.out i (by simpa [setS] using hi)
                        have hln : (setS L x ly).length = n := by simp [setS, hL]
                        have HSET := Lib.hid hset; have HBD := Lib.hid hbd; have HCT := Lib.hid hct; have HGS2 := Lib.hid hgs
                        have hlc : w8.cell? ⟨wo.heap.size, x, none⟩ = some (.string (gs L x)) := hlb8.cell (i := x) (by simp [gs, hL, v1])
                        clear hset hbd hct hgs hlb8 v2
                        go_wp2_with fail
                        go_region
                        go_wp2_with fail
                        go_roundw
                        case rel => exact ⟨m + 1, j + 1, setS L x ly, by go_num, by go_num, by omega, by omega, hln, HBD, HGS2, HSET, Lib.hid (HCT.out.keep (bdr (Below.refl _ _)))⟩
                        case measure => simp [intOf]; omega
                      | false =>
                        go_wp2_with fail
                        go_roundw
                        case rel => exact ⟨m, j + 1, L, rfl, by go_num, by omega, hm, hL, HBAD, HGS, HLB2, HJ2⟩
                        case measure => simp [intOf]; omega
                  · have m1 : ¬ (m : Int) < (f : Int) := by omega
                    go_wp2_with (go_at_call 16; refine CN2.out.mono ?_; rintro e w7 ⟨rfl, rfl⟩)
                    go_meet
                    case rel => exact ⟨L, hL, Lib.hid (Nat.le_trans HBAD.out hm), HGS, HLB2, HJ2⟩
                · have j1 : decide ((j : Int) < (who.length : Nat)) = false := by simp; omega
                  go_wp2_with fail
                  go_meet
                  case rel => exact ⟨L, hL, Lib.hid (Nat.le_trans HBAD.out hm), HGS, HLB2, HJ2⟩
            case rest =>
              obtain ⟨L, hL, HBAD, HGS, HLB2, HJ2⟩ := hcut
              obtain ⟨w8, hw⟩ : ∃ w8 : World, w8 = wc := ⟨_, rfl⟩
              subst hw
              clear HLB HJA CND
              obtain ⟨d0, d1, d2, d3⟩ := HCELL.out w8 HJ2.out.b
              have qS := str_same (doS (X.map (·.1)) s a)
              have cx := cpdo_any HJ2.out.x (fun W h => HTT.out W (HJ2.out.b.trans h)) (by omega) a B C HT.out HOKT.out HW2.out (HV.out.below HJ2.out.b (Nat.le_refl _))
              have cc := fun (W : World) (g2 : Option Nat) (s2 : Cs) (hJ : CT w W p A1 c1 n D p2 q2 g2 m2 (X.map (·.1)) s s2) (hL2 : LB W wo.heap.size L) => crdo_any hJ.c n1 n7 (fun W' h => HTT.out W' (hJ.b.trans h)) (by omega) a B C HT.out HOKT.out HW2.out ((Vin.of_arg HV.out (Nat.le_refl _)).below hJ.b (Nat.le_refl _) (Nat.le_refl _)) (some ⟨wo.heap.size, 0, none⟩) n L (by omega) (fun W' hk => LB.strs (show LB W' _ L from AtB.chs hL2 hk fun e => hJ.c.nk (by decide) (by decide) (by decide) _ e (AtB.kin hL2))) HGS.out
              rw [hL, HF.out] at cc
              by_cases e0 : doE (X.map (·.1)) s a = 0
              · have hwin := fun t => win_true L t n f hf3 HBAD.out
                rw [e0, eV_zero] at cx
                rw [if_pos e0] at cc
                simp only [hwin] at cc
                have CX := Lib.hid cx; have CC := Lib.hid cc
                clear cx cc hwin e0
                obtain ⟨x, q', d, t⟩ := a
                simp only [akv] at *
                generalize doC (X.map (·.1)) s ⟨x, q', d, t⟩ = s' at *
                generalize doS (X.map (·.1)) s ⟨x, q', d, t⟩ = S at *
                go_wp2_with fail
                refine CX.out.mono ?_
                rintro e w9 ⟨rfl, g3, hca, hka, hna⟩
                have HJ9 := Lib.hid (HJ2.out.copy hca hka hna)
                have HL9 := Lib.hid (show LB w9 wo.heap.size L from AtB.chs HLB2.out hka fun e => HJ2.out.x.nk (by decide) (by decide) (by decide) _ e (AtB.kin HLB2.out))
                obtain ⟨d0, d1, d2, d3⟩ := HCELL.out w9 HJ9.out.b
                clear hca hka hna
                go_wp2_with fail
                refine (CC.out w9 g3 _ HJ9.out HL9.out).mono ?_
                rintro e w10 ⟨rfl, D', hcb, hkb, hnb⟩
                have HJ10 := Lib.hid (HJ9.out.crowd hcb hkb hnb)
                clear hcb hkb hnb d0 d1 d2 d3
                go_wp2_with fail
                go_quiet (fail)
                go_wp2_with fail
                go_roundw
                case rel => exact ⟨k + 1, D', g3, s', by omega, by omega, Nat.le_trans NS.out (by omega), by go_num, Lib.hid (HJ10.out.keep (bdn (Below.refl _ _) _))⟩
                case measure => simp [intOf]; omega
              · have hC : doC (X.map (·.1)) s a = s := doC_no e0
                rw [eV_of e0, hC, doS_no e0] at cx
                rw [if_neg e0, hC] at cc
                have CX := Lib.hid cx; have CC := Lib.hid cc
                clear cx cc hC qS
                generalize doE (X.map (·.1)) s a = E at *
                clear e0
                obtain ⟨x, q', d, t⟩ := a
                simp only [akv] at *
                go_wp2_with fail
                refine CX.out.mono ?_
                rintro e w9 ⟨rfl, g3, hca, hka, hna⟩
                have HJ9 := Lib.hid (HJ2.out.copy hca hka hna)
                have HL9 := Lib.hid (show LB w9 wo.heap.size L from AtB.chs HLB2.out hka fun e => HJ2.out.x.nk (by decide) (by decide) (by decide) _ e (AtB.kin HLB2.out))
                obtain ⟨d0, d1, d2, d3⟩ := HCELL.out w9 HJ9.out.b
                clear hca hka hna
                go_wp2_with fail
                refine (CC.out w9 g3 _ HJ9.out HL9.out).mono ?_
                rintro e w10 ⟨rfl, D', hcb, hkb, hnb⟩
                have HJ10 := Lib.hid (HJ9.out.crowd hcb hkb hnb)
                clear hcb hkb hnb d0 d1 d2 d3
                go_wp2_with fail
                go_quiet (fail)
                go_wp2_with fail
                go_roundw
                case rel => exact ⟨k + 1, D', g3, s, by omega, by omega, by omega, by go_num, Lib.hid (HJ10.out.keep (bdn (Below.refl _ _) _))⟩
                case measure => simp [intOf]; omega
          · have hf : decide ((k : Int) < 30) = false := by simp; omega
            go_wp2_with fail
            go_ret
            exact ⟨rfl, HJ.out.b⟩
        · have hf : decide ((k : Int) < (l.length : Nat)) = false := by simp; omega
          go_wp2_with fail
          go_ret
          exact ⟨rfl, HJ.out.b⟩
    · have cn := fun (W : World) (hW : Below w.heap.size w W) => crnew_rules n n1 n7 RA rc (X.map (·.1)) (Nat.le_trans hn1 hm1) W ((HX.out.below (Nat.le_refl _) hW).rls) er HOKR.out
      have cx := fun (W : World) (hW : Below w.heap.size w W) => cpnew_no (w := W) RA rc (X.map (·.1)) (Nat.le_trans hn1 hm1) (HX.out.below (Nat.le_refl _) hW).rls er HOKR.out
      rw [List.length_map] at cn cx
      have CN := Lib.hid cn; have CX := Lib.hid cx
      clear cn cx er hN7
      generalize rulE (X.map (·.1)) = E at *
      go_wp2_with (first | (go_at_call 14; refine (CN.out _ HB4.out).mono ?_; rintro e w5 ⟨rfl, hb1⟩; have HB5 := Lib.hid (bcl HB4.out hb1); clear hb1) | (go_at_call 9; refine (CX.out _ HB5.out).mono ?_; rintro e w6 ⟨rfl, hb2⟩; have HB6 := Lib.hid (bcl HB5.out hb2); clear hb2))
      go_ret
      exact ⟨rfl, HB6.out⟩
  · have hcb : copB N = false := by rw [← Bool.not_eq_true, copB_true]; exact hN7
    have cx : ∀ (W : World) (hW : Below w.heap.size w W), Calls Tryd.prog 9 #[.slice RA X.length rc] W fun e w' => ∃ v u, e = .returned (.tuple #[v, u]) ∧ Below W.heap.size W w' := fun W hW => by
      by_cases er : rulE (X.map (·.1)) = 0
      · exact (cpnew_ok (w := W) (base := w.heap.size) hW.size RA rc X (HX.out.below (Nat.le_refl _) hW) er HOKR.out).mono fun e w' ⟨p, q, m, h1, _, h2, _⟩ => ⟨_, _, h1, h2⟩
      · have h := cpnew_no (w := W) RA rc (X.map (·.1)) (Nat.le_trans hn1 hm1) (HX.out.below (Nat.le_refl _) hW).rls er HOKR.out
        rw [List.length_map] at h
        exact h.mono fun e w' ⟨h1, h2⟩ => ⟨_, _, h1, h2⟩
    have CN := Lib.hid (fun W => crnew_range N hcb RA X.length rc W); have CX := Lib.hid cx
    clear cx hcb hN7
    go_wp2_with (first | (go_at_call 14; refine (CN.out _).mono ?_; rintro e w5 ⟨rfl, rfl⟩) | (go_at_call 9; refine (CX.out _ HB4.out).mono ?_; rintro e w6 ⟨v, u, rfl, hb2⟩; have HB6 := Lib.hid (bcl HB4.out hb2); clear hb2))
    go_ret
    exact ⟨rfl, HB6.out⟩
end Go.Proofs.YthkaaheeblehhaaDoor.crowdTrue
