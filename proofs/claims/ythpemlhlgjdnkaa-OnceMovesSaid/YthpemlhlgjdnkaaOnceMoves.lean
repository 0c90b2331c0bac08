/- OnceMovesSaid: WHAT IS MOVED IS THERE, AND NOT HERE: for every list of tuples and tuple asked for. -/
import Derived.Test.YthpemlhlgjdnkaaOnce
import Derived.Test.YthpemlhlgjdnkaaVArg
import Derived.Test.YthpemlhlgjdnkaaRows
import Derived.WalkKit
import Derived.ProofKit
import Derived.OpenShut
import Derived.ShutString
import Derived.ChangeOld
import Derived.WalkLawsBesides
import Derived.WalkSpells
import Derived.RegionTactic
import Derived.ChangeAlike
namespace Go.Proofs.Ythpemlhlgjdnkaa.onceMoves
open Go.ChangeShapes Go.WideShapes Go.ChangeAt Go.RowKit
set_option linter.unusedVariables false

/-- what is there when the first k are put -/
def pls (l : List (List Va)) : Nat → List (List Va)
  | 0 => []
  | k + 1 => putL (pls l k) (gg l k)
/-- the end: behind Move -/
theorem done {w : World} {base p1 p2 : Nat} {a : List Va} {L M1 M2 : List (List Va)} {n : Nat} {g1 g2 : Option Nat} (h : Moved w base p1 p2 a L [] n M1 M2 g1 g2) (e : plc a M1 < 0 ∨ M2.length = 20) (hL : L.length ≤ 20) :
    cnt a M1 M1.length = 0 ∧ cnt a M2 M2.length = n ∧ M2.length = n ∧ M1.length + n = L.length := by
  obtain ⟨h1, h2⟩ := h.mv.len
  have h3 := h.mv.cnt
  simp only [List.length_nil, Nat.zero_add, cnt] at h2 h3
  refine ⟨?_, h3, h2, h1⟩
  rcases e with e | e
  · exact plc_none e
  · have : M1.length = 0 := by omega
    rw [this]; rfl
theorem count_spc (base p : Nat) (g : Option Nat) (L : List (List Va)) (A : Option Addr) (c : Nat) (a : List Va) (hm : a.length ≤ maxLen) (hok : okL a) (h : liE a = 0) (x : Nat) (hx : cnt a L L.length = x) (w : World) (hS : Spc w base p g L) (hA : Vals w A a) :
    Calls Try.prog 23 #[.pointer (some ⟨p, 0, none⟩), .slice A a.length c] w fun e w' => e = .returned (.tuple #[.int .i64 x, .nilIface]) ∧ Below w.heap.size w w' := by
  obtain ⟨E, n, q1, q2, q3⟩ := hS.there
  have hl := hS.len
  have := spcount_any p A c a hm hok E n L (by unfold maxLen; omega) w hA q3.many (cell_of_one q1).1
  rw [h, if_pos rfl, hx] at this
  exact this
theorem all_spc (base p : Nat) (g : Option Nat) (L : List (List Va)) (n : Nat) (hn : L.length = n) (w : World) (hS : Spc w base p g L) :
    Calls Try.prog 22 #[.pointer (some ⟨p, 0, none⟩)] w fun e w' => ∃ A' c', e = .returned (.slice A' n c') ∧ Below w.heap.size w w' := by
  subst hn
  exact (spall_any base p g L w hS).mono fun e w' ⟨A', c', h1, _, h2⟩ => ⟨A', c', h1, h2⟩
set_option maxHeartbeats 1600000 in
set_option maxRecDepth 100000 in
theorem walk (w : World) (A : Option Addr) (c : Nat) (l : List (List Va)) (hc : l.length ≤ c) (hm : c ≤ maxLen) (hA : Many Vals w A l) (hok : ∀ i, i < l.length → okL (gg l i)) (A2 : Option Addr) (c2 : Nat) (a : List Va) (hc2 : a.length ≤ c2) (hm2 : c2 ≤ maxLen) (hA2 : Vals w A2 a) (hok2 : okL a) :
    Calls Try.prog 6 #[.slice A l.length c, .slice A2 a.length c2] w fun e w' => e = .returned (.bool true) ∧ Below w.heap.size w w' := by
  have cn := fun (v1 v2 : Value) (W : World) => move_no v1 v2 none 0 [] (by simp) (fun i hi => absurd hi (by simp)) W (Sl.zero) (by decide)
  rw [show liE [] = 5 by decide, List.length_nil] at cn
  have CN := Lib.hid cn; have HOK := Lib.hid hok; have HO2 := Lib.hid hok2
  have hma : a.length ≤ maxLen := by omega
  have hml : l.length ≤ maxLen := by omega
  clear cn hok hok2
  unfold maxLen at hml
  go_enter Try.func6, Try.ntmps6
  go_wp2_with (first | (go_at_call 20; refine (spnew _).mono ?_; rintro e w' ⟨rfl, rfl⟩) | (go_at_call 19; refine (CN.out _ _ _).mono ?_; rintro e w3 ⟨rfl, hb3⟩))
  obtain ⟨WN, hWN⟩ : ∃ WN, WN = (w3.alloc (.cells #[.slice none 0 0] 76)).alloc (.cells #[.slice none 0 0] 76) := ⟨_, rfl⟩
  have hb4 : Below w.heap.size w w3 := (bal (bal1 w _) _).trans (hb3.mono (by simp; omega))
  have hbN : Below w.heap.size w WN := by rw [hWN]; exact bal (bal hb4 _) _
  have hSa : Spc WN w.heap.size w3.heap.size none [] := by rw [hWN]; exact (Spc.new w3 hb4.size).keep (bal1 _ _)
  have hSb : Spc WN w.heap.size (w3.heap.size + 1) none [] := by
    have := Spc.new (w3.alloc (.cells #[.slice none 0 0] 76)) (base := w.heap.size) (le_al hb4.size _)
    rw [show (w3.alloc (.cells #[.slice none 0 0] 76)).heap.size = w3.heap.size + 1 by simp] at this
    rw [hWN]; exact this
  rw [← hWN]
  have hne : w3.heap.size ≠ w3.heap.size + 1 := by omega
  generalize w3.heap.size = pa at *
  generalize pa + 1 = pb at *
  have HSA := Lib.hid hSa; have HSB := Lib.hid hSb; have HNE := Lib.hid hne
  clear hb3 hb4 hWN hSa hSb hne
  go_loopw [9] (fun i wr => ∃ (k : Nat) (g : Option Nat), k ≤ l.length ∧ k ≤ 20 ∧ i = .int .i64 k ∧ Hid (Spc wr w.heap.size pa g (pls l k)) ∧ Hid (Spc wr w.heap.size pb none []) ∧ Below w.heap.size w wr) (fun i _ => 20 - (intOf i).toNat)
  case atStart => exact ⟨0, none, by omega, by omega, rfl, HSA.out, HSB.out, hbN⟩
  case round =>
    obtain ⟨k, g, hk, hk2, rfl, hS1, hS2, hb⟩ := hrel
    by_cases hgo : k < l.length ∧ k < 20
    · obtain ⟨hlt, hlt2⟩ := hgo
      have hq : decide ((k : Int) < 20) = true := by simp; omega
      obtain ⟨b, off, B, C, rfl, hbl, hcc, hv, hC1, hC2⟩ := (many_below hA hb).vat (i := k) hlt
      have cp := spput_any w.heap.size pa g (pls l k) B C (gg l k) (by omega) (HOK.out k hlt) wr hS1.out hv
      have CP := Lib.hid cp; clear cp
      generalize eV (putE (pls l k) (gg l k)) = V at *
      go_wp2_with (first | (go_at_call 21; refine CP.out.mono ?_; rintro e w5 ⟨rfl, g', hS3, hx, hnw⟩))
      have hS4 := hS2.out.far hx HNE.out.symm hS1.out.kin hS1.out.hp (fun b e => ⟨(hS1.out.gkin e).1, (hS1.out.gkin e).2, by simp⟩)
      have hb5 := hb.trans (hS1.out.below hx)
      have HS3 := Lib.hid hS3; have HS4 := Lib.hid hS4
      clear hS3 hS4 hx hnw hq
      go_roundw
      case rel => exact ⟨k + 1, g', by omega, by omega, by go_num, HS3, HS4, hb5⟩
      case measure => simp [intOf]; omega
    · obtain ⟨L, hL⟩ : ∃ L, L = pls l k := ⟨_, rfl⟩
      rw [← hL] at hS1
      have hend : ¬ k < l.length ∨ k < l.length ∧ decide ((k : Int) < 20) = false := by
        by_cases h1 : k < l.length
        · exact .inr ⟨h1, by simp; omega⟩
        · exact .inl h1
      have hLl := hS1.out.len
      have ca := all_spc w.heap.size pa g L _ rfl wr hS1.out
      have hv0 := (Vin.of_arg hA2 (Nat.le_refl _)).below hb (Nat.le_refl _) (Nat.le_refl _)
      have HV := Lib.hid hv0
      have CA := Lib.hid ca
      clear ca hgo hL
      by_cases h : liE a = 0
      · have cm := fun (W : World) (S1 : Spc W w.heap.size pa g L) (S2 : Spc W w.heap.size pb none []) (V : Vin W w.heap.size A2 a) => move_any w.heap.size pa pb g none L [] HNE.out A2 c2 a hma HO2.out W V S1 S2 (fun b e => by simp) h
        have CM := Lib.hid cm
        have HL := Lib.hid h
        clear cm h
        rcases hend with hend | ⟨hend, hq⟩
        all_goals
          go_wp2_with (first | (go_at_call 22; refine CA.out.mono ?_; rintro e w5 ⟨A5, c5, rfl, hb5⟩) | (go_at_call 19; refine (CM.out _ (hS1.out.keep hb5) (hS2.out.keep hb5) (HV.out.below hb5 (Nat.le_refl _) hb.size)).mono ?_; rintro e w6 ⟨n, M1, M2, g2, rfl, hmv, hend, hb6⟩; have HMV := Lib.hid hmv; have HD := Lib.hid (done hmv hend hLl); clear hmv hend))
          have hb7 := (hb.trans (hb5.mono hb.size)).trans hb6
          refine (count_spc _ _ _ M1 A2 c2 a hma HO2.out HL.out 0 HD.out.1 _ HMV.out.one (hA2.below hb7 (Nat.le_refl _))).mono ?_
          rintro e w8 ⟨rfl, hb8⟩
          go_wp2_with fail
          refine (count_spc _ _ _ M2 A2 c2 a hma HO2.out HL.out n HD.out.2.1 _ (HMV.out.two.keep hb8) (hA2.below (bcl hb7 hb8) (Nat.le_refl _))).mono ?_
          rintro e w9 ⟨rfl, hb9⟩
          go_wp2_with fail
          refine (all_spc _ _ _ M2 n HD.out.2.2.1 _ ((HMV.out.two.keep hb8).keep hb9)).mono ?_
          rintro e w10 ⟨A10, c10, rfl, hb10⟩
          obtain ⟨m, hm1⟩ : ∃ m, M1.length = m := ⟨_, rfl⟩
          have hmn : ((m : Int) + n == (L.length : Int)) = true := by
            have := HD.out.2.2.2; simp; omega
          have hmw : (IntKind.i64.wrap ((m : Int) + n)) = m + n := by
            have := HD.out.2.2.2
            rw [IntKind.wrap_i64]; omega
          go_wp2_with fail
          refine (all_spc _ _ _ M1 m hm1 _ (((HMV.out.one.keep hb8).keep hb9).keep hb10)).mono ?_
          rintro e w11 ⟨A11, c11, rfl, hb11⟩
          go_wp2_with fail
          go_ret
          exact ⟨ret_true (by first | rfl | (simp; done) | (simp; omega)), bcl (bcl (bcl (bcl hb7 hb8) hb9) hb10) hb11⟩
      · have cm := fun (v1 v2 : Value) (W : World) (V : Vals W A2 a) => move_no v1 v2 A2 c2 a hma HO2.out W V h
        have cl := fun (W : World) (V : Vals W A2 a) => tlike_any A2 c2 a hma HO2.out W V
        rw [eV_of h] at cl
        generalize liE a = E at *
        have CM := Lib.hid cm; have CL := Lib.hid cl
        clear cm cl h
        rcases hend with hend | ⟨hend, hq⟩
        all_goals
          go_wp2_with (first | (go_at_call 22; refine CA.out.mono ?_; rintro e w5 ⟨A5, c5, rfl, hb5⟩) | (go_at_call 19; refine (CM.out _ _ _ (hA2.below (bcl hb hb5) (Nat.le_refl _))).mono ?_; rintro e w6 ⟨rfl, hb6⟩) | (go_at_call 12; refine (CL.out _ (hA2.below (bcl (bcl hb hb5) hb6) (Nat.le_refl _))).mono ?_; rintro e w7 ⟨rfl, hb7⟩))
          refine (all_spc _ _ _ L L.length rfl _ (((hS1.out.keep hb5).keep hb6).keep hb7)).mono ?_
          rintro e w8 ⟨A8, c8, rfl, hb8⟩
          go_wp2_with fail
          go_ret
          exact ⟨ret_true (by first | rfl | (simp; done) | (simp; omega)), bcl (bcl (bcl (bcl hb hb5) hb6) hb7) hb8⟩

/-! ### the row's frame -/
theorem own : ownKnob Try.prog.godebug = none := by kernel_rfl
theorem laidOut : laidOutB Try.prog = true := by kernel_rfl

set_option maxRecDepth 100000 in
theorem lifted (os : Os) (started : os.Started) (H : Type) (enc : TypeId × Value → H) :
    ReturnsInHanded {} Try.checked os 6 .any (Rows.onceMovesSpec.pre6 enc Try.prog Try.f6 Rows.onceMovesRow.domain false) (Rows.onceMovesSpec.post enc Try.prog Try.f6 false true false false) := by
  refine returnsInHanded_of_change (C := Try.checked) own started (by kernel_rfl) Try.func6
    (ChangeSpec.witness6 (enc := enc) (C := Try.checked) false ⟨#[], #[.slice none 0 0, .slice none 0 0], []⟩ 8 (by kernel_rfl) (by kernel_rfl) (by kernel_rfl) (by kernel_rfl)) ?_
  intro W base args ds gs before hval0 hW hcnd _
  have hval : ∀ (j : Nat) t v, Try.f6.params[j]? = some t → args[j]? = some v → Value.okWide Try.prog W .any base t v := hval0
  have hW' := hW
  obtain ⟨p, q, hA0, hV, rfl, hfz, hnd⟩ := hW
  have hA : DataW.TrodAll enc Try.prog W 0 (fun _ => true) true Try.f6.params.toList args.toList ds p := hA0
  rw [Try.params6] at hA hval
  obtain ⟨v0, vs0, d0, ds0, p0, q0, hargs, rfl, rfl, h0, r0⟩ := trodAll_cons hA
  obtain ⟨v1, vs1, d1, ds1, p1, q1, rfl, rfl, rfl, h1, r1⟩ := trodAll_cons r0
  obtain ⟨rfl, rfl, rfl⟩ := trodAll_nil r1
  obtain rfl : args = #[v0, v1] := by cases args; simp_all
  obtain ⟨rfl, rfl⟩ := trodVars_none hV
  have k0 := h0
  have lt0 : ∀ x ∈ p0, x.block < W.heap.size := by obtain ⟨m, hm⟩ := k0; exact DataW.trod_lt m _ _ _ hm
  obtain ⟨A0, c0, x0, rfl, hc0, hm0, hA0, w0⟩ := arg_Many (Q := Vals) (R := okL) Try.underlying42 (by kernel_rfl) (fun _ _ _ h => open_Vals Try.underlying32 Try.underlying23 (by kernel_rfl) (by kernel_rfl) Try.underlying3 Try.underlying3 Try.underlying9 h) (hval 0 42 v0 rfl rfl) h0
  have k1 := h1
  have lt1 : ∀ x ∈ p1, x.block < W.heap.size := by obtain ⟨m, hm⟩ := k1; exact DataW.trod_lt m _ _ _ hm
  obtain ⟨A1, c1, x1, rfl, hc1, hm1, hA1, w1⟩ := arg_Vals Try.underlying32 Try.underlying23 (by kernel_rfl) (by kernel_rfl) Try.underlying3 Try.underlying3 Try.underlying9 (hval 1 32 v1 rfl rfl) h1
  clear hA0 hval0
  refine (walk W A0 c0 x0 hc0 hm0 hA0 w0 A1 c1 x1 hc1 hm1 hA1 w1).mono fun e W' ⟨he, bel⟩ => ?_
  subst he
  exact ⟨_, rfl, _, _, _, [], _, [], hW', trodAll_mk1 (shut_bool Try.underlying4 _), (trodAll_cons_mk (Below.trod laidOut (by kernel_rfl) (of_decide_eq_true (by kernel_rfl)) k0 bel lt0) (trodAll_cons_mk (Below.trod laidOut (by kernel_rfl) (of_decide_eq_true (by kernel_rfl)) k1 bel lt1) trodAll_mk0)), rfl, bel.frame _, fun h => by cases h⟩

theorem over : Rows.onceMovesRow.holds Try.pinned (OpenSpec.ofChange Rows.onceMovesSpec) :=
  OpenClaim.holds_of_wide 6 Try.f6 rfl rfl rfl rfl rfl rfl rfl ⟨rfl, rfl, rfl, rfl, rfl⟩ rfl rfl rfl rfl rfl (by kernel_rfl) Try.func6 (by kernel_rfl)
    (of_decide_eq_true (by kernel_rfl)) (by unfold Func.isWrapper; first | (rw [if_pos (by decide +kernel)]; kernel_rfl) | (rw [if_neg (by decide +kernel)]; exact ⟨rfl, rfl⟩))
    (fun os started H enc _ => lifted os started H enc)

theorem proved : Rows.OnceMovesSaid := over
#print axioms proved

end Go.Proofs.Ythpemlhlgjdnkaa.onceMoves
