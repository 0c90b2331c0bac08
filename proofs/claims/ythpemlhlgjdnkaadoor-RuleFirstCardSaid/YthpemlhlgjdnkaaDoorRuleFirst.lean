/- RuleFirstCardSaid: THE FIRST DECIDES, outright: for every rules, ints, tuple, further rules and bool. -/
import Derived.Test.YthpemlhlgjdnkaaDoorRuOwn
import Derived.Test.YthpemlhlgjdnkaaDoorDoor
import Derived.Test.YthpemlhlgjdnkaaDoorTie
import Derived.Test.YthpemlhlgjdnkaaDoorCards
import Derived.WalkKit
import Derived.ProofKit
import Derived.OpenShut
import Derived.ShutString
import Derived.ChangeOld
import Derived.WalkLawsBesides
import Derived.WalkSpells
import Derived.RegionTactic
import Derived.ChangeAlike
import Derived.SevenTiedAt
import Derived.Deep.DeepCutAuto
import Derived.Outline
namespace Go.Proofs.YthpemlhlgjdnkaaDoor.ruleFirst
open Go.ChangeShapes Go.WideShapes Go.ChangeAt Go.RowKit
set_option linter.unusedVariables false

def star : Va := ⟨2, 0, ⟨#[]⟩⟩
def v1 : Va := ⟨0, 1, ⟨#[]⟩⟩
def r1 : Ru := ⟨0, 3, [star], true⟩
theorem ok1 {v : Va} (h : v.s.size ≤ maxLen) : okL [v] := fun i hi => by
  obtain rfl : i = 0 := by simpa using hi
  exact h
theorem lit1 (W : World) (v : Va) {g : Nat} (hg : g = W.heap.size) : Vals (W.alloc (.cells #[.int .i64 v.k, .int .i64 v.n, .string v.s] 28)) (some ⟨g, 0, none⟩) [v] := lit_vals W [v] 28 hg
theorem okr1 : okR [r1] := fun i hi => by
  obtain rfl : i = 0 := by simpa using hi
  exact ⟨ok1 (by decide), (by unfold I64; decide), (by unfold I64; decide)⟩
theorem okR_one (r : Ru) (h : okL r.a) (h1 : I64 r.d) (h2 : I64 r.o) : okR [r] := fun i hi => by
  obtain rfl : i = 0 := by simpa using hi
  exact ⟨h, h1, h2⟩
theorem rb1 : rbE [r1] 3 0 [v1] = 0 := by decide
theorem rb2 : rbE [r1] 4 0 [v1] = 0 := by decide
theorem le1 : letR [r1] 3 0 [v1] = true := by decide
theorem le2 : letR [r1] 4 0 [v1] = false := by decide
theorem okR_append {l m : List Ru} (h : okR l) (k : okR m) : okR (l ++ m) := fun i hi => by
  rw [List.length_append] at hi
  rcases Nat.lt_or_ge i l.length with h1 | h1
  · rw [ru_append_lt h1]; exact h i h1
  · have : ru (l ++ m) i = ru m (i - l.length) := by simp only [ru, List.getD_eq_getElem?_getD]; rw [List.getElem?_append_right h1]
    rw [this]; exact k _ (by omega)
/-- what May says: an error, or what it lets -/
def Mays (b : Bool) (v : Value) (x : Bool) : Prop := (v = .nilIface ∧ b = x) ∨ (∃ E : Int, v = errV E ∧ b = false)
theorem mays (E : Int) (x : Bool) : Mays (decide (E = 0) && x) (eV E) x := by
  by_cases e : E = 0
  · subst e; exact .inl ⟨rfl, by simp⟩
  · exact .inr ⟨E, eV_of e, by simp [e]⟩
theorem may_some (A : Option Addr) (cap : Nat) (l : List Ru) (n : Nat) (hn : l.length = n) (hm : l.length ≤ maxLen) (hok : okR l) (who deed : Int) (T : Option Addr) (c : Nat) (t : List Va) (hmt : t.length ≤ maxLen) (hokt : okL t) (w : World) (hA : Rls w A l) (hT : Vals w T t) (x : Bool) (hx : letR l who deed t = x) :
    ∃ b v, Mays b v x ∧ Calls Tryd.prog 34 #[.slice A n cap, .int .i64 who, .int .i64 deed, .slice T t.length c] w fun e w' => e = .returned (.tuple #[.bool b, v]) ∧ Below w.heap.size w w' := by
  subst hn; subst hx
  exact ⟨_, _, mays _ _, may_any A cap l hm hok who deed T c t hmt hokt w hA hT⟩
set_option maxHeartbeats 4000000 in
set_option maxRecDepth 100000 in
theorem walk (w : World) (hg : HG w) (A : Option Addr) (c : Nat) (l : List Ru) (hc : l.length ≤ c) (hm : c ≤ maxLen) (hA : Rls w A l) (hok : okR l) (rl : l.length * 48 ≤ reachBytes) (who : Int) (hwho : I64 who) (deed : Int) (hdeed : I64 deed)
    (T : Option Addr) (d : Nat) (t : List Va) (hc2 : t.length ≤ d) (hm2 : d ≤ maxLen) (hT : Vals w T t) (hokt : okL t) (rt : t.length * 32 ≤ reachBytes)
    (M : Option Addr) (cm : Nat) (more : List Ru) (hc3 : more.length ≤ cm) (hm3 : cm ≤ maxLen) (hM : Rls w M more) (hokm : okR more) (rm : more.length * 48 ≤ reachBytes) (may : Bool) :
    Calls Tryd.prog 10 #[.slice A l.length c, .int .i64 who, .int .i64 deed, .slice T t.length d, .slice M more.length cm, .bool may] w fun e w' => e = .returned (.bool true) ∧ Below w.heap.size w w' := by
  have hml : l.length ≤ maxLen := by omega
  have hmt : t.length ≤ maxLen := by omega
  obtain ⟨X, hX, hRX⟩ := RX.of_arg (base := w.heap.size) hA (Nat.le_refl _)
  obtain ⟨Y, hY, hRY⟩ := RX.of_arg (base := w.heap.size) hM (Nat.le_refl _)
  have hXL : X.length = l.length := by rw [← hX, List.length_map]
  have hYL : Y.length = more.length := by rw [← hY, List.length_map]
  -- the closed fact's own slice
  have hs0 := lit1 w star rfl
  have hr0 := lit_rule (w.alloc (.cells #[.int .i64 2, .int .i64 0, .string ⟨#[]⟩] 28)) (base := w.heap.size + 1) (by simp) r1 (some ⟨w.heap.size, 0, none⟩) 1 ⟨hs0, fun _ a ha => .inl (by injection ha with ha; subst ha; simp)⟩ (by decide) (by decide) (g := w.heap.size + 1) (by simp)
  have hb0 : Below w.heap.size w ((w.alloc (.cells #[.int .i64 2, .int .i64 0, .string ⟨#[]⟩] 28)).alloc (.cells #[.int .i64 0, .int .i64 3, .slice (some ⟨w.heap.size, 0, none⟩) 1 1, .bool true] 64)) := bal (bal1 _ _) _
  have hr1 : Rls ((w.alloc (.cells #[.int .i64 2, .int .i64 0, .string ⟨#[]⟩] 28)).alloc (.cells #[.int .i64 0, .int .i64 3, .slice (some ⟨w.heap.size, 0, none⟩) 1 1, .bool true] 64)) (some ⟨w.heap.size + 1, 0, none⟩) [r1] := hr0.rx.rls
  have c1 : ∀ W g, g = W.heap.size → Rls W (some ⟨w.heap.size + 1, 0, none⟩) [r1] → Calls Tryd.prog 34 #[.slice (some ⟨w.heap.size + 1, 0, none⟩) 1 1, .int .i64 3, .int .i64 0, .slice (some ⟨g, 0, none⟩) 1 1] (W.alloc (.cells #[.int .i64 0, .int .i64 1, .string ⟨#[]⟩] 28)) fun e w' => e = .returned (.tuple #[.bool true, .nilIface]) ∧ Below (W.alloc (.cells #[.int .i64 0, .int .i64 1, .string ⟨#[]⟩] 28)).heap.size (W.alloc (.cells #[.int .i64 0, .int .i64 1, .string ⟨#[]⟩] 28)) w' := fun W g hg hR => by
    have := may_any (some ⟨w.heap.size + 1, 0, none⟩) 1 [r1] (by decide) okr1 3 0 (some ⟨g, 0, none⟩) 1 [v1] (by decide) (ok1 (by decide)) _ (hR.below (bal1 W _) (Nat.le_refl _)) (lit1 W v1 hg)
    rw [rb1, le1] at this
    exact this
  have c2 : ∀ W g, g = W.heap.size → Rls W (some ⟨w.heap.size + 1, 0, none⟩) [r1] → Calls Tryd.prog 34 #[.slice (some ⟨w.heap.size + 1, 0, none⟩) 1 1, .int .i64 4, .int .i64 0, .slice (some ⟨g, 0, none⟩) 1 1] (W.alloc (.cells #[.int .i64 0, .int .i64 1, .string ⟨#[]⟩] 28)) fun e w' => e = .returned (.tuple #[.bool false, .nilIface]) ∧ Below (W.alloc (.cells #[.int .i64 0, .int .i64 1, .string ⟨#[]⟩] 28)).heap.size (W.alloc (.cells #[.int .i64 0, .int .i64 1, .string ⟨#[]⟩] 28)) w' := fun W g hg hR => by
    have := may_any (some ⟨w.heap.size + 1, 0, none⟩) 1 [r1] (by decide) okr1 4 0 (some ⟨g, 0, none⟩) 1 [v1] (by decide) (ok1 (by decide)) _ (hR.below (bal1 W _) (Nat.le_refl _)) (lit1 W v1 hg)
    rw [rb2, le2] at this
    exact this
  have c3 := fun W (hb : Below w.heap.size w W) => may_any A c l hml hok who deed T d t hmt hokt W (hA.below hb (Nat.le_refl _)) (hT.below hb (Nat.le_refl _))
  have c4 := fun W (hb : Below w.heap.size w W) => first_any A c l hml hok who deed T d t hmt hokt W (hA.below hb (Nat.le_refl _)) (hT.below hb (Nat.le_refl _))
  have HG0 := Lib.hid hg; have HX := Lib.hid hRX; have HY := Lib.hid hRY; have HXL := Lib.hid hXL; have HYL := Lib.hid hYL; have HXM := Lib.hid hX; have HYM := Lib.hid hY
  have HA := Lib.hid hA; have HT := Lib.hid hT; have HOK := Lib.hid hok; have HOT := Lib.hid hokt; have HOM := Lib.hid hokm; have HMT := Lib.hid hmt; have HD2 := Lib.hid hc2; have HMD := Lib.hid hm2
  have C1 := Lib.hid c1; have C2 := Lib.hid c2; have HR1 := Lib.hid hr1; have HB0 := Lib.hid hb0; have HWI := Lib.hid hwho; have HDI := Lib.hid hdeed
  clear hg hRX hRY hXL hYL hX hY hA hT hM hok hokt hokm c1 c2 hs0 hr0 hr1 hb0 hmt hml hwho hdeed hc hm hc2 hm2 hc3 hm3 rt
  by_cases h0 : rbE l who deed t = 0
  · have h8 : l.length ≤ 8 := by
      refine (rulE_zero ?_).1
      by_cases e : rulE l = 0
      · exact e
      · rw [rbE, if_pos e] at h0; exact h0
    rw [h0, eV_zero, decide_eq_true rfl, Bool.true_and] at c3
    have hlc : ∀ m, letR (⟨deed, who, t, m⟩ :: l) who deed t = m := fun m => letR_cons
    have HLC := Lib.hid hlc
    by_cases h1 : plcR l who deed t < 0
    · have hv2 : rfE l who deed t = 5 := by rw [rfE, h0, if_neg (by decide), if_pos h1]
      rw [rfV, hv2, if_neg (by decide), show eV 5 = errV 5 from rfl] at c4
      have hlet : letR l who deed t = false := by rw [letR, decide_eq_true h1]; rfl
      rw [hlet] at c3
      have C3 := Lib.hid c3; have C4 := Lib.hid c4
      clear c3 c4 hv2 h0 h1 hlet hlc
      go_enter Tryd.func10, Tryd.ntmps10
      go_wp2_with fail
      refine (C1.out _ _ (by simp) HR1.out).mono ?_
      rintro e w1 ⟨rfl, hb1⟩
      have hb1' := bcl (bal HB0.out (.cells #[.int .i64 0, .int .i64 1, .string ⟨#[]⟩] 28)) hb1
      have hr2 := (HR1.out.below (bal1 _ (.cells #[.int .i64 0, .int .i64 1, .string ⟨#[]⟩] 28)) (Nat.le_refl _)).below hb1 (Nat.le_refl _)
      have HR2 := Lib.hid hr2
      clear hr2 hb1
      go_wp2_with fail
      refine (C2.out w1 _ rfl HR2.out).mono ?_
      rintro e w2 ⟨rfl, hb2⟩
      have hb2' := bcl (bal hb1' (.cells #[.int .i64 0, .int .i64 1, .string ⟨#[]⟩] 28)) hb2
      clear hb2
      go_wp2_with fail
      refine (C3.out _ hb2').mono ?_
      rintro e w3 ⟨rfl, hb3⟩
      have hb5 := bcl hb2' hb3
      clear hb3
      go_wp2_with fail
      refine (C4.out _ hb5).mono ?_
      rintro e w4 ⟨rfl, hb4⟩
      have hb5 := bcl hb5 hb4
      clear hb4
      have hd5 : DG w w4 := ⟨HG0.out.below hb5, hb5⟩
      go_wp2_with (first
        | (go_at_call 24; refine (same_err _ w _ hd5).mono ?_; rintro e w5 ⟨rfl, hd6⟩; have hb5 := hd6.b; clear hd5 hd6)
        | (at_builtin; refine wpList_append_rules rfl _ _ rfl w.heap.size none 0 [] rfl ORX.nil A c X (by rw [HXL.out]; rfl) (HX.out.below (Nat.le_refl _) hb5) (by rw [HXL.out]; simp; omega) hb5.size ?_; intro A6 c6 w6 ho6 hb6; have hb6 := hb5.trans hb6; clear hb5; rw [List.nil_append] at ho6; have HO6 := Lib.hid ho6; clear ho6; simp only [List.length_nil, Nat.zero_add, HXL.out])
        | (at_builtin; refine wpList_append_rules rfl _ _ rfl w.heap.size A6 c6 X (by rw [HXL.out]; rfl) HO6.out M cm Y (by rw [HYL.out]; rfl) (HY.out.below (Nat.le_refl _) hb6) (by rw [HXL.out, HYL.out]; unfold reachBytes at rm; omega) hb6.size ?_; intro A7 c7 w7 ho7 hb7; have hb7 := hb6.trans hb7; clear hb6; have HO7 := Lib.hid ho7; clear ho7; simp only [HXL.out, HYL.out]))
      obtain ⟨b7, v7, hm7, cm7⟩ := may_some A7 c7 (l ++ more) (l.length + more.length) (by simp) (by unfold reachBytes at rm; simp; unfold maxLen; omega) (okR_append HOK.out HOM.out) who deed T d t HMT.out HOT.out w7 (by have := HO7.out.rx.rls; rwa [List.map_append, HXM.out, HYM.out] at this) (HT.out.below hb7 (Nat.le_refl _)) _ rfl
      have CM7 := Lib.hid cm7
      clear cm7
      rcases hm7 with ⟨rfl, rfl⟩ | ⟨E7, rfl, rfl⟩
      all_goals
        refine CM7.out.mono ?_
        rintro e w8 ⟨rfl, hb8⟩
        have hb8 := bcl hb7 hb8
        have hvt := (Vin.of_arg (base := w.heap.size) HT.out (Nat.le_refl _)).below hb8 (Nat.le_refl _) (Nat.le_refl _)
        have hl9 := lit_rule w8 (base := w.heap.size) hb8.size ⟨deed, who, t, may⟩ T d hvt HD2.out HMD.out (g := w8.heap.size) rfl
        have HL9 := Lib.hid hl9
        clear hvt hl9 hb7
        go_wp2_with (at_builtin; refine wpList_append_rules rfl _ _ rfl w.heap.size (some ⟨w8.heap.size, 0, none⟩) 1 [(⟨deed, who, t, may⟩, T, d)] rfl HL9.out A c X (by rw [HXL.out]; rfl) (HX.out.below (Nat.le_refl _) (bal hb8 _)) (by rw [HXL.out]; simp; omega) (bal hb8 _).size ?_; intro A9 c9 w9 ho9 hb9; have hq9 : Below w.heap.size w w9 := (bal hb8 _).trans hb9; clear hb8 hb9; have HO9 := Lib.hid ho9; clear ho9; simp only [List.length_singleton, HXL.out])
        obtain ⟨b9, v9, hm9, cm9⟩ := may_some A9 c9 (⟨deed, who, t, may⟩ :: l) (1 + l.length) (by simp; omega) (by simp; unfold maxLen; omega) (okR_append (l := [⟨deed, who, t, may⟩]) (okR_one ⟨deed, who, t, may⟩ HOT.out HDI.out HWI.out) HOK.out) who deed T d t HMT.out HOT.out w9 (by have := HO9.out.rx.rls; rwa [List.map_append, HXM.out] at this) (HT.out.below hq9 (Nat.le_refl _)) _ (HLC.out may)
        have CM9 := Lib.hid cm9
        clear cm9
        rcases hm9 with ⟨rfl, rfl⟩ | ⟨E9, rfl, rfl⟩
        all_goals
          refine CM9.out.mono ?_
          rintro e w10 ⟨rfl, hb10⟩
          have hb10 := bcl hq9 hb10
          clear hq9
          go_wp2_with fail
          go_ret
          exact ⟨ret_true (by first | rfl | (simp; done) | (simp; omega)), hb10⟩
    · have hv2 : rfE l who deed t = 0 := by rw [rfE, h0, if_neg (by decide), if_neg h1]
      rw [rfV, hv2, if_pos rfl, eV_zero] at c4
      obtain ⟨k, hk, hlt, _⟩ := plcR_at h1
      have hlm : letR l who deed t = (ru l k).m := by rw [letR, decide_eq_false h1, hk]; simp
      have hap : letR (l ++ more) who deed t = (ru l k).m := by rw [letR_append h1, hlm]
      rw [hk] at c4
      rw [hlm] at c3
      have HAP := Lib.hid hap
      have C3 := Lib.hid c3; have C4 := Lib.hid c4
      clear c3 c4 hv2 h0 h1 hlm hap hk hlc
      go_enter Tryd.func10, Tryd.ntmps10
      go_wp2_with fail
      refine (C1.out _ _ (by simp) HR1.out).mono ?_
      rintro e w1 ⟨rfl, hb1⟩
      have hb1' := bcl (bal HB0.out (.cells #[.int .i64 0, .int .i64 1, .string ⟨#[]⟩] 28)) hb1
      have hr2 := (HR1.out.below (bal1 _ (.cells #[.int .i64 0, .int .i64 1, .string ⟨#[]⟩] 28)) (Nat.le_refl _)).below hb1 (Nat.le_refl _)
      have HR2 := Lib.hid hr2
      clear hr2 hb1
      go_wp2_with fail
      refine (C2.out w1 _ rfl HR2.out).mono ?_
      rintro e w2 ⟨rfl, hb2⟩
      have hb2' := bcl (bal hb1' (.cells #[.int .i64 0, .int .i64 1, .string ⟨#[]⟩] 28)) hb2
      clear hb2
      go_wp2_with fail
      refine (C3.out _ hb2').mono ?_
      rintro e w3 ⟨rfl, hb3⟩
      have hb5 := bcl hb2' hb3
      clear hb3
      go_wp2_with fail
      refine (C4.out _ hb5).mono ?_
      rintro e w4 ⟨rfl, hb4⟩
      have hb5 := bcl hb5 hb4
      clear hb4
      go_wp2_with (first
        | (at_builtin; refine wpList_append_rules rfl _ _ rfl w.heap.size none 0 [] rfl ORX.nil A c X (by rw [HXL.out]; rfl) (HX.out.below (Nat.le_refl _) hb5) (by rw [HXL.out]; simp; omega) hb5.size ?_; intro A6 c6 w6 ho6 hb6; have hb6 := hb5.trans hb6; clear hb5; rw [List.nil_append] at ho6; have HO6 := Lib.hid ho6; clear ho6; simp only [List.length_nil, Nat.zero_add, HXL.out])
        | (at_builtin; refine wpList_append_rules rfl _ _ rfl w.heap.size A6 c6 X (by rw [HXL.out]; rfl) HO6.out M cm Y (by rw [HYL.out]; rfl) (HY.out.below (Nat.le_refl _) hb6) (by rw [HXL.out, HYL.out]; unfold reachBytes at rm; omega) hb6.size ?_; intro A7 c7 w7 ho7 hb7; have hb7 := hb6.trans hb7; clear hb6; have HO7 := Lib.hid ho7; clear ho7; simp only [HXL.out, HYL.out]))
      obtain ⟨b7, v7, hm7, cm7⟩ := may_some A7 c7 (l ++ more) (l.length + more.length) (by simp) (by unfold reachBytes at rm; simp; unfold maxLen; omega) (okR_append HOK.out HOM.out) who deed T d t HMT.out HOT.out w7 (by have := HO7.out.rx.rls; rwa [List.map_append, HXM.out, HYM.out] at this) (HT.out.below hb7 (Nat.le_refl _)) _ HAP.out
      have CM7 := Lib.hid cm7
      clear cm7
      rcases hm7 with ⟨rfl, rfl⟩ | ⟨E7, rfl, rfl⟩
      all_goals
        refine CM7.out.mono ?_
        rintro e w8 ⟨rfl, hb8⟩
        have hb8 := bcl hb7 hb8
        have hvt := (Vin.of_arg (base := w.heap.size) HT.out (Nat.le_refl _)).below hb8 (Nat.le_refl _) (Nat.le_refl _)
        have hl9 := lit_rule w8 (base := w.heap.size) hb8.size ⟨deed, who, t, may⟩ T d hvt HD2.out HMD.out (g := w8.heap.size) rfl
        have HL9 := Lib.hid hl9
        clear hvt hl9 hb7
        go_wp2_with (at_builtin; refine wpList_append_rules rfl _ _ rfl w.heap.size (some ⟨w8.heap.size, 0, none⟩) 1 [(⟨deed, who, t, may⟩, T, d)] rfl HL9.out A c X (by rw [HXL.out]; rfl) (HX.out.below (Nat.le_refl _) (bal hb8 _)) (by rw [HXL.out]; simp; omega) (bal hb8 _).size ?_; intro A9 c9 w9 ho9 hb9; have hq9 : Below w.heap.size w w9 := (bal hb8 _).trans hb9; clear hb8 hb9; have HO9 := Lib.hid ho9; clear ho9; simp only [List.length_singleton, HXL.out])
        obtain ⟨b9, v9, hm9, cm9⟩ := may_some A9 c9 (⟨deed, who, t, may⟩ :: l) (1 + l.length) (by simp; omega) (by simp; unfold maxLen; omega) (okR_append (l := [⟨deed, who, t, may⟩]) (okR_one ⟨deed, who, t, may⟩ HOT.out HDI.out HWI.out) HOK.out) who deed T d t HMT.out HOT.out w9 (by have := HO9.out.rx.rls; rwa [List.map_append, HXM.out] at this) (HT.out.below hq9 (Nat.le_refl _)) _ (HLC.out may)
        have CM9 := Lib.hid cm9
        clear cm9
        rcases hm9 with ⟨rfl, rfl⟩ | ⟨E9, rfl, rfl⟩
        all_goals
          refine CM9.out.mono ?_
          rintro e w10 ⟨rfl, hb10⟩
          have hb10 := bcl hq9 hb10
          clear hq9
          obtain ⟨gb, go, gB, gC, rfl, gl, d0, d1, d2, d3, _⟩ := (HA.out.below hb10 (Nat.le_refl _)).at_ (i := k) hlt
          go_wp2_with fail
          go_ret
          exact ⟨ret_true (by first | rfl | (simp; done) | (simp; omega)), hb10⟩
  · rw [eV_of h0, decide_eq_false h0, Bool.false_and] at c3
    generalize rbE l who deed t = E at *
    have C3 := Lib.hid c3
    clear c3 c4 h0
    go_enter Tryd.func10, Tryd.ntmps10
    go_wp2_with fail
    refine (C1.out _ _ (by simp) HR1.out).mono ?_
    rintro e w1 ⟨rfl, hb1⟩
    have hb1' := bcl (bal HB0.out (.cells #[.int .i64 0, .int .i64 1, .string ⟨#[]⟩] 28)) hb1
    have hr2 := (HR1.out.below (bal1 _ (.cells #[.int .i64 0, .int .i64 1, .string ⟨#[]⟩] 28)) (Nat.le_refl _)).below hb1 (Nat.le_refl _)
    have HR2 := Lib.hid hr2
    clear hr2 hb1
    go_wp2_with fail
    refine (C2.out w1 _ rfl HR2.out).mono ?_
    rintro e w2 ⟨rfl, hb2⟩
    have hb2' := bcl (bal hb1' (.cells #[.int .i64 0, .int .i64 1, .string ⟨#[]⟩] 28)) hb2
    clear hb2
    go_wp2_with fail
    refine (C3.out _ hb2').mono ?_
    rintro e w3 ⟨rfl, hb3⟩
    have hb5 := bcl hb2' hb3
    clear hb3
    go_wp2_with fail
    go_ret
    exact ⟨ret_true (by first | rfl | (simp; done) | (simp; omega)), hb5⟩

/-! ### the card's frame -/
set_option maxRecDepth 100000 in
theorem lifted (os : Os) (started : os.Started) (H : Type) (enc : TypeId × Value → H) :
    ReturnsInHanded {} Tryd.checked os 10 .any (fun w args => (Rows.ruleFirstSpec.pre enc Tryd.prog Tryd.f10 [] false w args ∧ laidMetH Tryd.prog laidL w) ∧ sizedMet enc Tryd.prog Tryd.f10 (OpenSpec.ofChange Rows.ruleFirstSpec) false w args) (Rows.ruleFirstSpec.post enc Tryd.prog Tryd.f10 false true false false) := by
  refine returnsInHanded_of_change_and (C := Tryd.checked) (X := fun w _ => laidMetH Tryd.prog laidL w) (fun _ _ _ hh h => h.of_heap hh) door.own started (by kernel_rfl) Tryd.func10
    (ChangeSpec.witness_at (enc := enc) (C := Tryd.checked) (os := os) (X := fun w _ => laidMetH Tryd.prog laidL w) false (laidWorld os) #[.slice none 0 0, .int .i64 0, .int .i64 0, .slice none 0 0, .slice none 0 0, .bool false] 8 rfl (by kernel_rfl) (by kernel_rfl) (by kernel_rfl) (by kernel_rfl) (by kernel_rfl) (laidWorld_met os _)) ?_
  intro W base args ds gs before hval0 hW _ hsz hL _
  have hg := handle_of_laid hL
  have hval : ∀ (j : Nat) t v, Tryd.f10.params[j]? = some t → args[j]? = some v → Value.okWide Tryd.prog W .any base t v := hval0
  have hW' := hW
  obtain ⟨p, q, hT0, hV, rfl, hfz, hnd⟩ := hW
  have hA : DataW.TrodAll enc Tryd.prog W 0 (fun _ => true) true Tryd.f10.params.toList args.toList ds p := hT0
  rw [Tryd.params10] at hA hval
  obtain ⟨v0, vs0, d0, ds0, p0, q0, hargs, rfl, rfl, h0, r0⟩ := trodAll_cons hA
  obtain ⟨v1, vs1, d1, ds1, p1, q1, rfl, rfl, rfl, h1, r1⟩ := trodAll_cons r0
  obtain ⟨v2, vs2, d2, ds2, p2, q2, rfl, rfl, rfl, h2, r2⟩ := trodAll_cons r1
  obtain ⟨v3, vs3, d3, ds3, p3, q3, rfl, rfl, rfl, h3, r3⟩ := trodAll_cons r2
  obtain ⟨v4, vs4, d4, ds4, p4, q4, rfl, rfl, rfl, h4, r4⟩ := trodAll_cons r3
  obtain ⟨v5, vs5, d5, ds5, p5, q5, rfl, rfl, rfl, h5, r5⟩ := trodAll_cons r4
  obtain ⟨rfl, rfl, rfl⟩ := trodAll_nil r5
  obtain rfl : args = #[v0, v1, v2, v3, v4, v5] := by cases args; simp_all
  obtain ⟨rfl, rfl⟩ := trodVars_none hV
  have k0 := h0
  have lt0 : ∀ x ∈ p0, x.block < W.heap.size := by obtain ⟨m, hm⟩ := k0; exact DataW.trod_lt m _ _ _ hm
  obtain ⟨A0, c0, x0, rfl, hc0, hm0, hA0, w0⟩ := arg_Rls Tryd.underlying57 Tryd.underlying64 (by kernel_rfl) (by kernel_rfl) Tryd.underlying3 Tryd.underlying3 Tryd.underlying29 Tryd.underlying4 Tryd.underlying28 (by kernel_rfl) (by kernel_rfl) Tryd.underlying3 Tryd.underlying3 Tryd.underlying9 (hval 0 57 v0 rfl rfl) h0
  have r0' := slice_reach Tryd.underlying57 k0 hsz 0 (by rw [Tryd.params10]; rfl) rfl
  rw [show Tryd.prog.bytesOf 64 = 48 by kernel_rfl] at r0'
  have k1 := h1
  have lt1 : ∀ x ∈ p1, x.block < W.heap.size := by obtain ⟨m, hm⟩ := k1; exact DataW.trod_lt m _ _ _ hm
  obtain ⟨x1, rfl, w1⟩ := arg_int Tryd.underlying3 (hval 1 3 v1 rfl rfl) h1
  have k2 := h2
  have lt2 : ∀ x ∈ p2, x.block < W.heap.size := by obtain ⟨m, hm⟩ := k2; exact DataW.trod_lt m _ _ _ hm
  obtain ⟨x2, rfl, w2⟩ := arg_int Tryd.underlying3 (hval 2 3 v2 rfl rfl) h2
  have k3 := h3
  have lt3 : ∀ x ∈ p3, x.block < W.heap.size := by obtain ⟨m, hm⟩ := k3; exact DataW.trod_lt m _ _ _ hm
  obtain ⟨A3, c3, x3, rfl, hc3, hm3, hA3, w3⟩ := arg_Vals Tryd.underlying29 Tryd.underlying28 (by kernel_rfl) (by kernel_rfl) Tryd.underlying3 Tryd.underlying3 Tryd.underlying9 (hval 3 29 v3 rfl rfl) h3
  have r3' := slice_reach Tryd.underlying29 k3 hsz 3 (by rw [Tryd.params10]; rfl) rfl
  rw [show Tryd.prog.bytesOf 28 = 32 by kernel_rfl] at r3'
  have k4 := h4
  have lt4 : ∀ x ∈ p4, x.block < W.heap.size := by obtain ⟨m, hm⟩ := k4; exact DataW.trod_lt m _ _ _ hm
  obtain ⟨A4, c4, x4, rfl, hc4, hm4, hA4, w4⟩ := arg_Rls Tryd.underlying57 Tryd.underlying64 (by kernel_rfl) (by kernel_rfl) Tryd.underlying3 Tryd.underlying3 Tryd.underlying29 Tryd.underlying4 Tryd.underlying28 (by kernel_rfl) (by kernel_rfl) Tryd.underlying3 Tryd.underlying3 Tryd.underlying9 (hval 4 57 v4 rfl rfl) h4
  have r4' := slice_reach Tryd.underlying57 k4 hsz 4 (by rw [Tryd.params10]; rfl) rfl
  rw [show Tryd.prog.bytesOf 64 = 48 by kernel_rfl] at r4'
  have k5 := h5
  have lt5 : ∀ x ∈ p5, x.block < W.heap.size := by obtain ⟨m, hm⟩ := k5; exact DataW.trod_lt m _ _ _ hm
  obtain ⟨x5, rfl⟩ := arg_bool Tryd.underlying4 (hval 5 4 v5 rfl rfl) h5
  clear hT0 hval0
  refine (walk W hg A0 c0 x0 hc0 hm0 hA0 w0 r0' x1 w1 x2 w2 A3 c3 x3 hc3 hm3 hA3 w3 r3' A4 c4 x4 hc4 hm4 hA4 w4 r4' x5).mono fun e W' ⟨he, bel⟩ => ?_
  subst he
  exact ⟨_, rfl, _, _, _, [], _, [], hW', trodAll_mk1 (shut_bool Tryd.underlying4 _), (trodAll_cons_mk (Below.trod door.laidOut (by kernel_rfl) (of_decide_eq_true (by kernel_rfl)) k0 bel lt0) (trodAll_cons_mk (Below.trod door.laidOut (by kernel_rfl) (of_decide_eq_true (by kernel_rfl)) k1 bel lt1) (trodAll_cons_mk (Below.trod door.laidOut (by kernel_rfl) (of_decide_eq_true (by kernel_rfl)) k2 bel lt2) (trodAll_cons_mk (Below.trod door.laidOut (by kernel_rfl) (of_decide_eq_true (by kernel_rfl)) k3 bel lt3) (trodAll_cons_mk (Below.trod door.laidOut (by kernel_rfl) (of_decide_eq_true (by kernel_rfl)) k4 bel lt4) (trodAll_cons_mk (Below.trod door.laidOut (by kernel_rfl) (of_decide_eq_true (by kernel_rfl)) k5 bel lt5) trodAll_mk0)))))), rfl, bel.frame _, fun h => by cases h⟩

theorem fr.fn : Tryd.prog.funcNamed Rows.ruleFirstRow.func = some 10 := by kernel_rfl
theorem fr.cl : joinedFacts Tryd.prog 10 Tryd.f10 Rows.ruleFirstSpec Rows.ruleFirstRow = true := by kernel_rfl
theorem fr.is : Tryd.f10.isInstance Tryd.prog Rows.ruleFirstRow.origin Rows.ruleFirstRow.targs := of_decide_eq_true (by kernel_rfl)
theorem fr.wr : Tryd.f10.isWrapper Tryd.prog Rows.ruleFirstRow.wrapper Rows.ruleFirstRow.mainSum := by
  unfold Func.isWrapper; first | (rw [if_pos (by decide +kernel)]; kernel_rfl) | (rw [if_neg (by decide +kernel)]; exact ⟨rfl, rfl⟩)
theorem over : Rows.RuleFirstSaid :=
  OpenClaim.holds_of_wide 10 Tryd.f10 rfl rfl rfl rfl rfl rfl rfl ⟨rfl, rfl, rfl, rfl, rfl⟩ rfl rfl rfl rfl rfl fr.fn Tryd.func10 fr.cl fr.is fr.wr
    (fun os started H enc _ => lifted os started H enc)

theorem fr.hw : Rows.ruleFirstRow.wfByText (OpenSpec.ofChange Rows.ruleFirstSpec) = true := by kernel_rfl
theorem fr.hm : Tryd.pinned.checked.prog.mainIs = some (Rows.ruleFirstCard.stood.harness.1, Rows.ruleFirstCard.stood.harness.2.toList) := by kernel_rfl
theorem fr.lk : true = Tryd.prog.looks [] := by kernel_rfl
theorem fr.ws : ([57, 3, 3, 29, 57, 4].all fun u => !Tryd.prog.wantsStandIn u) = true := by kernel_rfl
theorem fr.go : false = Rows.ruleFirstRow.goesBy Tryd.pinned.checked.prog := by kernel_rfl
theorem proved : Rows.RuleFirstCardSaid :=
  Claim7.holds_tied_plain_at .later [] [.handle] true Rows.ruleFirstCard.stood.harness true over (fun _ h => by cases h) fr.hw (fun _ h => by cases h) ruleFirst_row_tie rfl ⟨rfl, rfl⟩ fr.hm rfl
    (fun f fn hf hfn => by
      obtain rfl : f = 10 := Option.some.inj (fr.fn.symm.trans hf) |>.symm
      obtain rfl : fn = Tryd.f10 := (Option.some.inj (Tryd.func10.symm.trans hfn)).symm
      exact ⟨fr.lk, fun j t ht => by
        rw [Tryd.params10] at ht
        have hm : t ∈ [57, 3, 3, 29, 57, 4] := by simpa using Array.mem_of_getElem? ht
        exact (show Tryd.prog.wantsStandIn t = false by simpa using List.all_eq_true.1 fr.ws t hm)⟩)
    fr.go
#print axioms proved

end Go.Proofs.YthpemlhlgjdnkaaDoor.ruleFirst
