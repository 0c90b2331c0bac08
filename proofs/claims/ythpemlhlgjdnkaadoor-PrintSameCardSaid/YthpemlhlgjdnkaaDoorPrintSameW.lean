/- PrintSame: the plain law, and the walk. -/
import Derived.Test.YthpemlhlgjdnkaaDoorDigTup
import Derived.Test.YthpemlhlgjdnkaaDoorVOwn
import Derived.Test.YthpemlhlgjdnkaaDoorDoorT
import Derived.WalkKit
import Derived.WalkLawsBesides
import Derived.WalkSpells
import Derived.RegionTactic
import Derived.Deep.QuietTactic
import Derived.BigQuiet
import Derived.Deep.CutBlock
import Derived.Deep.DeepCutAuto
import Derived.Outline
namespace Go.Proofs.YthpemlhlgjdnkaaDoor.printSame
open Go.ChangeShapes Go.WideShapes Go.ChangeAt Go.RowKit Go.Joins
set_option linter.unusedVariables false

theorem dg5 : dgv ⟨0, 5, ⟨#[]⟩⟩ = 270 := by
  have hw : wrd ⟨0, 5, ⟨#[]⟩⟩ = ⟨#[53]⟩ := by rw [wrd, if_pos rfl]; show ByteArray.mk (Lib.itoa ((5 : Nat) : Int)).toArray = _; rw [Lib.itoa_nonneg, Lib.decDigits_one (by omega)]; rfl
  rw [dgv, hw]; decide
theorem ok5 : vaE ⟨0, 5, ⟨#[]⟩⟩ = 0 := by decide
theorem dg_sing (v : Va) : dgt [v] = dgv v := by
  have : lin [v] = wrd v := jn_one _ _
  rw [dgt, this]; rfl
theorem li_sing {v : Va} (h : vaE v = 0) : liE [v] = 0 := by
  rw [liE, if_neg (by simp), if_neg (by simp)]
  exact lsE_of fun i hi => by
    obtain rfl : i = 0 := by simpa using hi
    exact h
theorem hs_congr {s t : ByteArray} {k : Nat} (h : ∀ i, i < k → gB s i = gB t i) : hs s k = hs t k := by
  induction k with
  | zero => rfl
  | succ k ih => rw [hs, hs, ih fun i hi => h i (by omega), h k (by omega)]
theorem gB_opt (s : ByteArray) (i : Nat) : gB s i = (s.data.toList[i]?.map fun b => (b.toNat : Int)).getD 0 := by
  unfold gB
  split
  · rename_i h
    have : s.data.toList[i]? = some (s[i]'h) := by rw [Array.getElem?_toList]; exact Array.getElem?_eq_getElem h
    rw [this]; rfl
  · rename_i h
    have : s.data.toList[i]? = none := by rw [Array.getElem?_toList]; exact Array.getElem?_eq_none (Nat.not_lt.1 h)
    rw [this]; rfl
theorem gB_cons (c : UInt8) (s : ByteArray) (i : Nat) : gB ((ByteArray.mk #[c]) ++ s) (i + 1) = gB s i := by
  rw [gB_opt, gB_opt]; simp [ByteArray.data_append]
theorem gB_head (c : UInt8) (s : ByteArray) : gB ((ByteArray.mk #[c]) ++ s) 0 = c.toNat := by
  rw [gB_opt]; simp [ByteArray.data_append]
theorem gB_ext {s t : ByteArray} (hz : s.size = t.size) (h : ∀ i, i < s.size → gB s i = gB t i) : s = t := by
  refine bytes_eq (List.ext_getElem ?_ fun i h1 h2 => ?_)
  · exact hz
  · have h3 : i < s.size := h1
    have := h i h3
    rw [gB_opt, gB_opt, List.getElem?_eq_getElem h1, List.getElem?_eq_getElem h2] at this
    have h4 : ((s.data.toList[i]'h1).toNat : Int) = ((t.data.toList[i]'h2).toNat : Int) := this
    exact UInt8.toNat_inj.1 (by omega)
theorem gB_take (s : ByteArray) {n i : Nat} (h : i < n) : gB (s.extract 0 n) i = gB s i := by
  rw [gB_opt, gB_opt, ByteArray.data_extract]
  simp only [Array.toList_extract, List.extract_eq_take_drop, Nat.sub_zero, List.drop_zero]
  rw [List.getElem?_take, if_pos h]
/-- texts that differ in their last letter alone have numbers of their own -/
theorem last_other {s t : ByteArray} (hs1 : vaE ⟨1, 0, s⟩ = 0) (ht1 : vaE ⟨1, 0, t⟩ = 0) (hz : s.size = t.size) (h0 : 0 < s.size) (hp : s.extract 0 (s.size - 1) = t.extract 0 (s.size - 1)) (hne : s ≠ t) : dgv ⟨1, 0, s⟩ ≠ dgv ⟨1, 0, t⟩ := by
  have ok : ∀ u : ByteArray, vaE ⟨1, 0, u⟩ = 0 → ∀ i, i < u.size → 97 ≤ gB u i ∧ gB u i ≤ 122 := fun u h i hi => by
    unfold vaE at h
    split at h
    · cases h
    · split at h
      · cases h
      · split at h
        · cases h
        · rename_i h3
          have h4 : okS u = true := by
            cases e : okS u with
            | true => rfl
            | false => exact absurd (.inr (.inr e)) h3
          have := okS_true.1 h4 i hi
          simpa [letB] using this
  have e1 : ∀ i, i < s.size - 1 → gB s i = gB t i := fun i hi => by rw [← gB_take s hi, ← gB_take t hi, hp]
  have e2 : gB s (s.size - 1) ≠ gB t (s.size - 1) := fun e => hne (gB_ext hz fun i hi => by
    by_cases h : i < s.size - 1
    · exact e1 i h
    · obtain rfl : i = s.size - 1 := by omega
      exact e)
  have w1 : ∀ u : ByteArray, wrd ⟨1, 0, u⟩ = ⟨#[58]⟩ ++ u := fun u => by rw [wrd, if_neg (by simp), if_pos rfl]
  have z1 : ∀ u : ByteArray, ((ByteArray.mk #[58]) ++ u).size = u.size + 1 := fun u => by rw [ByteArray.size_append]; show 1 + u.size = _; omega
  obtain ⟨m, hm⟩ : ∃ m, s.size = m + 1 := ⟨s.size - 1, by omega⟩
  have hm2 : t.size = m + 1 := by omega
  have o1 := ok s hs1 m (by omega)
  have o2 := ok t ht1 m (by omega)
  rw [dgv, dgv, w1, w1, z1, z1, hm, hm2]
  have hc : hs ((ByteArray.mk #[58]) ++ s) (m + 1) = hs ((ByteArray.mk #[58]) ++ t) (m + 1) := hs_congr fun i hi => by
    cases i with
    | zero => rw [gB_head, gB_head]
    | succ i => rw [gB_cons, gB_cons]; exact e1 i (by omega)
  have u1 : ∀ u : ByteArray, hs ((ByteArray.mk #[58]) ++ u) (m + 1 + 1) = (31 * hs ((ByteArray.mk #[58]) ++ u) (m + 1) + gB u m) % 10007 := fun u => by
    conv => lhs; unfold hs
    rw [gB_cons]
  rw [u1, u1, hc]
  rw [show s.size - 1 = m by omega] at e2
  omega
theorem va_num {k n : Int} {s : ByteArray} (h : vaE ⟨k, n, s⟩ = 0) (e : k = 1) : n = 0 := by
  subst e
  unfold vaE at h
  split at h
  · cases h
  · split at h
    · cases h
    · split at h
      · cases h
      · rename_i h3
        exact Classical.not_not.1 fun hn => h3 (.inl ⟨by show (1 : Int) ≠ 0; decide, hn⟩)
set_option maxHeartbeats 3200000 in
set_option maxRecDepth 100000 in
theorem walk (w : World) (ht : TT w) (k1 n1 : Int) (s1 : ByteArray) (_ : I64 k1) (_ : I64 n1) (hs1 : s1.size ≤ maxLen) (k2 n2 : Int) (s2 : ByteArray) (_ : I64 k2) (_ : I64 n2) (hs2 : s2.size ≤ maxLen) :
    Calls Tryd.prog 18 #[.agg #[.int .i64 k1, .int .i64 n1, .string s1], .agg #[.int .i64 k2, .int .i64 n2, .string s2]] w fun e w' => e = .returned (.bool true) ∧ Below w.heap.size w w' := by
  have HTK := Lib.hid (fun (W : World) (h : Below w.heap.size w W) => tab_stays (g := 1) (by kernel_rfl) ht h (Nat.le_refl _))
  have c5 : ∀ W : World, TT W → Calls Tryd.prog 33 #[.agg #[.int .i64 0, .int .i64 5, .string ⟨#[]⟩]] W fun e w' => e = .returned (.tuple #[.int .i64 (if vaE ⟨0, 5, ⟨#[]⟩⟩ = 0 then dgv ⟨0, 5, ⟨#[]⟩⟩ else 0), eV (vaE ⟨0, 5, ⟨#[]⟩⟩)]) ∧ Below W.heap.size W w' := fun W T => digvalue_any ⟨0, 5, ⟨#[]⟩⟩ (show (0 : Nat) ≤ _ by omega) W T
  rw [ok5, if_pos rfl, eV_zero, dg5] at c5
  have cv : ∀ W : World, TT W → Calls Tryd.prog 33 #[.agg #[.int .i64 k1, .int .i64 n1, .string s1]] W fun e w' => e = .returned (.tuple #[.int .i64 (if vaE ⟨k1, n1, s1⟩ = 0 then dgv ⟨k1, n1, s1⟩ else 0), eV (vaE ⟨k1, n1, s1⟩)]) ∧ Below W.heap.size W w' := fun W T => digvalue_any ⟨k1, n1, s1⟩ hs1 W T
  have cw : ∀ W : World, TT W → Calls Tryd.prog 33 #[.agg #[.int .i64 k2, .int .i64 n2, .string s2]] W fun e w' => e = .returned (.tuple #[.int .i64 (if vaE ⟨k2, n2, s2⟩ = 0 then dgv ⟨k2, n2, s2⟩ else 0), eV (vaE ⟨k2, n2, s2⟩)]) ∧ Below W.heap.size W w' := fun W T => digvalue_any ⟨k2, n2, s2⟩ hs2 W T
  have cc := fun (W : World) => vcheck_any k1 n1 s1 hs1 W
  have C5 := Lib.hid c5
  have HS1 := Lib.hid hs1; have HS2 := Lib.hid hs2
  clear c5 ht hs1 hs2
  obtain ⟨W0, hW0⟩ : ∃ W0, W0 = w.alloc (.cells #[.int .i64 k1, .int .i64 n1, .string s1] 28) := ⟨_, rfl⟩
  obtain ⟨W1, hW1⟩ : ∃ W1, W1 = W0.alloc (.cells #[.int .i64 k2, .int .i64 n2, .string s2] 28) := ⟨_, rfl⟩
  have hb0 : Below w.heap.size w W0 := by rw [hW0]; exact bal1 _ _
  have hx0 : AtB W0 w.heap.size #[.int .i64 k1, .int .i64 n1, .string s1] 28 := by rw [hW0]; exact AtB.new _ _ _
  have hb1 : Below W0.heap.size W0 W1 := by rw [hW1]; exact bal1 _ _
  have HB := Lib.hid (bcl hb0 hb1)
  have HX := Lib.hid (hx0.below hb1 hx0.lt)
  have HY := Lib.hid (show AtB W1 W0.heap.size #[.int .i64 k2, .int .i64 n2, .string s2] 28 by rw [hW1]; exact AtB.new _ _ _)
  have hz0 : W0.heap.size = w.heap.size + 1 := by rw [hW0]; exact Array.size_push _
  rw [hz0] at HY
  clear hb0 hx0 hb1 hz0
  have YX := fun (W : World) (h : AtB W w.heap.size #[.int .i64 k1, .int .i64 n1, .string s1] 28) => (show W.cell? ⟨w.heap.size, 0, none⟩ = some (.int .i64 k1) ∧ W.cell? ⟨w.heap.size, 1, none⟩ = some (.int .i64 n1) ∧ W.cell? ⟨w.heap.size, 2, none⟩ = some (.string s1) from ⟨h.cell (i := 0) rfl, h.cell (i := 1) rfl, h.cell (i := 2) rfl⟩)
  have YY := fun (W : World) (h : AtB W (w.heap.size + 1) #[.int .i64 k2, .int .i64 n2, .string s2] 28) => (show W.cell? ⟨w.heap.size + 1, 0, none⟩ = some (.int .i64 k2) ∧ W.cell? ⟨w.heap.size + 1, 1, none⟩ = some (.int .i64 n2) ∧ W.cell? ⟨w.heap.size + 1, 2, none⟩ = some (.string s2) from ⟨h.cell (i := 0) rfl, h.cell (i := 1) rfl, h.cell (i := 2) rfl⟩)
  have HYX := Lib.hid YX; have HYY := Lib.hid YY
  clear YX YY
  by_cases e1 : vaE ⟨k1, n1, s1⟩ = 0
  · rw [e1, if_pos rfl, eV_zero] at cv
    have ct := fun (W : World) (A : Option Addr) (V : Vals W A [⟨k1, n1, s1⟩]) (T : TT W) => digtuple_any A 1 [⟨k1, n1, s1⟩] (by unfold maxLen; simp) (fun i hi => by
      obtain rfl : i = 0 := by simpa using hi
      exact HS1.out) W V T
    rw [li_sing e1, if_pos rfl, eV_zero, dg_sing] at ct
    have hr := hs_range (wrd ⟨k1, n1, s1⟩) (wrd ⟨k1, n1, s1⟩).size
    rw [show hs (wrd ⟨k1, n1, s1⟩) (wrd ⟨k1, n1, s1⟩).size = dgv ⟨k1, n1, s1⟩ from rfl] at hr
    obtain ⟨r0, r1⟩ := hr
    obtain ⟨z, hz⟩ : ∃ z, z = dgv ⟨k1, n1, s1⟩ := ⟨_, rfl⟩
    rw [← hz] at cv ct r0 r1
    have HZ := Lib.hid hz
    have d0 : decide (z < 0) = false := decide_eq_false (by omega)
    have d1 : decide (10006 < z) = false := decide_eq_false (by omega)
    have CV := Lib.hid cv; have CT := Lib.hid ct; have HE1 := Lib.hid e1
    clear cv ct cc hz e1 r0 r1
    by_cases e2 : vaE ⟨k2, n2, s2⟩ = 0
    · rw [e2, if_pos rfl, eV_zero] at cw
      obtain ⟨y, hy⟩ : ∃ y, y = dgv ⟨k2, n2, s2⟩ := ⟨_, rfl⟩
      rw [← hy] at cw
      have HYV := Lib.hid hy; have HE2 := Lib.hid e2
      have CW := Lib.hid cw
      clear cw hy e2
      go_enter Tryd.func18, Tryd.ntmps18
      go_upto_region 1 with fail
      rw [← hW0, ← hW1]
      clear hW0 hW1
      go_upto_region 4 with (go_at_call 33; refine (C5.out _ (HTK.out _ HB.out)).mono ?_; rintro e w2 ⟨rfl, hb2⟩; have HB2 := Lib.hid (bcl HB.out hb2); have HX2 := Lib.hid (HX.out.below hb2 HX.out.lt); have HY2 := Lib.hid (HY.out.below hb2 HY.out.lt); obtain ⟨x0, x1, x2⟩ := HYX.out _ HX2.out; clear hb2)
      go_upto_region 7 with (go_at_call 33; refine (CV.out _ (HTK.out _ HB2.out)).mono ?_; rintro e w3 ⟨rfl, hb3⟩; have HB3 := Lib.hid (bcl HB2.out hb3); have HX3 := Lib.hid (HX2.out.below hb3 HX2.out.lt); have HY3 := Lib.hid (HY2.out.below hb3 HY2.out.lt); obtain ⟨x0, x1, x2⟩ := HYX.out _ HX3.out; clear hb3)
      go_upto_region 10 with (go_at_call 64; refine (CT.out _ _ (lit_vals w3 [⟨k1, n1, s1⟩] _ rfl) (HTK.out _ (bal HB3.out _))).mono ?_; rintro e w5 ⟨rfl, hb5⟩; have HB5 := Lib.hid (bcl (bal HB3.out _) hb5); have HX5 := Lib.hid ((HX3.out.alloc _).below hb5 (HX3.out.alloc _).lt); have HY5 := Lib.hid ((HY3.out.alloc _).below hb5 (HY3.out.alloc _).lt); obtain ⟨y0, y1, y2⟩ := HYY.out _ HY5.out; clear hb5)
      go_upto_region 13 with (go_at_call 33; refine (CW.out _ (HTK.out _ HB5.out)).mono ?_; rintro e w6 ⟨rfl, hb6⟩; have HB6 := Lib.hid (bcl HB5.out hb6); have HX6 := Lib.hid (HX5.out.below hb6 HX5.out.lt); have HY6 := Lib.hid (HY5.out.below hb6 HY5.out.lt); clear hb6)
      clear x0 x1 x2 y0 y1 y2
      obtain ⟨x0, x1, x2⟩ := HYX.out _ HX6.out
      obtain ⟨y0, y1, y2⟩ := HYY.out _ HY6.out
      by_cases f1 : k1 = k2
      · by_cases f2 : n1 = n2
        · by_cases f3 : s1 = s2
          · have hq1 : (k1 == k2) = true := by simp [f1]
            have hq2 : (n1 == n2) = true := by simp [f2]
            have hq3 : (s1.toList == s2.toList) = true := by rw [f3]; exact str_same _
            have hyz : (y == z) = true := by rw [HYV.out, HZ.out, f1, f2, f3]; exact beq_self_eq_true _
            clear f1 f2 f3
            go_wp2_with fail
            try go_quiet (fail)
            go_wp2_with fail
            go_ret
            exact ⟨ret_true (by first | rfl | (simp; done) | (simp; omega)), by first | exact HB6.out | exact bdn HB6.out _⟩
          · have hq1 : (k1 == k2) = true := by simp [f1]
            have hq2 : (n1 == n2) = true := by simp [f2]
            have hq3 : (s1.toList == s2.toList) = false := str_other f3
            have HF3 := Lib.hid f3
            have HF1 := Lib.hid f1; have HF2 := Lib.hid f2
            by_cases g1 : k1 = 1
            · have p1 : (k1 != 1) = false := by simp [g1]
              have p2 : (k2 != 1) = false := by rw [← f1]; exact p1
              have HG1 := Lib.hid g1
              clear f1 f2 f3 g1
              by_cases g2 : s1.size = s2.size
              · have p3 : ((s1.size : Int) != (s2.size : Int)) = false := by simp [g2]
                have h0 : 0 < s1.size := by
                  rcases Nat.eq_zero_or_pos s1.size with h | h
                  · exact absurd (gB_ext g2 fun i hi => absurd hi (by omega)) HF3.out
                  · exact h
                have p4 : ((s1.size : Int) == 0) = false := beq_eq_false_iff_ne.2 (by omega)
                have HG2 := Lib.hid g2
                clear g2
                have b1 : 0 ≤ (s1.size : Int) - 1 := by omega
                have en : ((s1.size : Int) - 1).toNat = s1.size - 1 := by omega
                have hsl1 : ∀ wx : World, (Instr.slice 9 (.string s1) none (some (.int .i64 ((s1.size : Int) - 1))) none).run Tryd.prog wx = .ok (.string (s1.extract 0 (s1.size - 1))) wx := fun wx => by
                  have := run_slice_string_h (P := Tryd.prog) (w := wx) (t := 9) (s := s1) Tryd.underlying9 .i64 ((s1.size : Int) - 1) b1 (by omega)
                  rw [en] at this
                  exact this
                have hsl2 : ∀ wx : World, (Instr.slice 9 (.string s2) none (some (.int .i64 ((s1.size : Int) - 1))) none).run Tryd.prog wx = .ok (.string (s2.extract 0 (s1.size - 1))) wx := fun wx => by
                  have := run_slice_string_h (P := Tryd.prog) (w := wx) (t := 9) (s := s2) Tryd.underlying9 .i64 ((s1.size : Int) - 1) b1 (by have := HG2.out; omega)
                  rw [en] at this
                  exact this
                have hl1 : s1.size ≤ 12 := (vaE_kind HE1.out).2.2.2
                clear en
                by_cases g3 : s1.extract 0 (s1.size - 1) = s2.extract 0 (s1.size - 1)
                · have n1z : n1 = 0 := va_num HE1.out HG1.out
                  have n2z : n2 = 0 := va_num HE2.out (HF1.out ▸ HG1.out)
                  have hne : (y != z) = true := bne_iff_ne.2 (by
                    rw [HYV.out, HZ.out]
                    have h1 := HE1.out; have h2 := HE2.out
                    rw [HG1.out, n1z] at h1 ⊢
                    rw [← HF1.out, HG1.out, n2z] at h2 ⊢
                    exact fun e => last_other h1 h2 HG2.out h0 g3 HF3.out e.symm)
                  have p5 : ((s1.extract 0 (s1.size - 1)).toList == (s2.extract 0 (s1.size - 1)).toList) = true := by rw [g3]; exact str_same _
                  have p6 : ((s1.extract 0 (s1.size - 1)).toList != (s2.extract 0 (s1.size - 1)).toList) = false := by rw [bne, p5]; rfl
                  clear g3 n1z n2z
                  go_wp2_with fail
                  go_quiet (fail)
                  go_wp2_with fail
                  go_ret
                  exact ⟨ret_true (by first | rfl | (simp; done) | (simp; omega)), by first | exact HB6.out | exact bdn HB6.out _⟩
                · have p5 : ((s1.extract 0 (s1.size - 1)).toList == (s2.extract 0 (s1.size - 1)).toList) = false := str_other g3
                  have p6 : ((s1.extract 0 (s1.size - 1)).toList != (s2.extract 0 (s1.size - 1)).toList) = true := by rw [bne, p5]; rfl
                  clear g3
                  go_wp2_with fail
                  go_quiet (fail)
                  go_wp2_with fail
                  go_ret
                  exact ⟨ret_true (by first | rfl | (simp; done) | (simp; omega)), by first | exact HB6.out | exact bdn HB6.out _⟩
              · have p3 : ((s1.size : Int) != (s2.size : Int)) = true := bne_iff_ne.2 (by omega)
                clear g2
                go_wp2_with fail
                try go_quiet (fail)
                go_wp2_with fail
                go_ret
                exact ⟨ret_true (by first | rfl | (simp; done) | (simp; omega)), by first | exact HB6.out | exact bdn HB6.out _⟩
            · have p1 : (k1 != 1) = true := by simp [g1]
              clear f1 f2 f3 g1
              go_wp2_with fail
              try go_quiet (fail)
              go_wp2_with fail
              go_ret
              exact ⟨ret_true (by first | rfl | (simp; done) | (simp; omega)), by first | exact HB6.out | exact bdn HB6.out _⟩
        · have hq1 : (k1 == k2) = true := by simp [f1]
          have hq2 : (n1 == n2) = false := by simp [f2]
          have g1 : k1 ≠ 1 := fun e => by
            have h1 := va_num (HE1.out) e
            have h2 := va_num (HE2.out) (f1 ▸ e)
            exact f2 (h1.trans h2.symm)
          have p1 : (k1 != 1) = true := by simp [g1]
          clear f1 f2 g1
          go_wp2_with fail
          try go_quiet (fail)
          go_wp2_with fail
          go_ret
          exact ⟨ret_true (by first | rfl | (simp; done) | (simp; omega)), by first | exact HB6.out | exact bdn HB6.out _⟩
      · have hq1 : (k1 == k2) = false := by simp [f1]
        by_cases g1 : k1 = 1
        · have g2 : k2 ≠ 1 := fun e => f1 (g1.trans e.symm)
          have p1 : (k1 != 1) = false := by simp [g1]
          have p2 : (k2 != 1) = true := by simp [g2]
          clear f1 g1 g2
          go_wp2_with fail
          try go_quiet (fail)
          go_wp2_with fail
          go_ret
          exact ⟨ret_true (by first | rfl | (simp; done) | (simp; omega)), by first | exact HB6.out | exact bdn HB6.out _⟩
        · have p1 : (k1 != 1) = true := by simp [g1]
          clear f1 g1
          go_wp2_with fail
          try go_quiet (fail)
          go_wp2_with fail
          go_ret
          exact ⟨ret_true (by first | rfl | (simp; done) | (simp; omega)), by first | exact HB6.out | exact bdn HB6.out _⟩
    · rw [if_neg e2, eV_of e2] at cw
      generalize vaE ⟨k2, n2, s2⟩ = E at *
      have CW := Lib.hid cw
      clear cw e2
      go_enter Tryd.func18, Tryd.ntmps18
      go_upto_region 1 with fail
      rw [← hW0, ← hW1]
      clear hW0 hW1
      go_upto_region 4 with (go_at_call 33; refine (C5.out _ (HTK.out _ HB.out)).mono ?_; rintro e w2 ⟨rfl, hb2⟩; have HB2 := Lib.hid (bcl HB.out hb2); have HX2 := Lib.hid (HX.out.below hb2 HX.out.lt); have HY2 := Lib.hid (HY.out.below hb2 HY.out.lt); obtain ⟨x0, x1, x2⟩ := HYX.out _ HX2.out; clear hb2)
      go_upto_region 7 with (go_at_call 33; refine (CV.out _ (HTK.out _ HB2.out)).mono ?_; rintro e w3 ⟨rfl, hb3⟩; have HB3 := Lib.hid (bcl HB2.out hb3); have HX3 := Lib.hid (HX2.out.below hb3 HX2.out.lt); have HY3 := Lib.hid (HY2.out.below hb3 HY2.out.lt); obtain ⟨x0, x1, x2⟩ := HYX.out _ HX3.out; clear hb3)
      go_upto_region 10 with (go_at_call 64; refine (CT.out _ _ (lit_vals w3 [⟨k1, n1, s1⟩] _ rfl) (HTK.out _ (bal HB3.out _))).mono ?_; rintro e w5 ⟨rfl, hb5⟩; have HB5 := Lib.hid (bcl (bal HB3.out _) hb5); have HY5 := Lib.hid ((HY3.out.alloc _).below hb5 (HY3.out.alloc _).lt); obtain ⟨y0, y1, y2⟩ := HYY.out _ HY5.out; clear hb5)
      go_wp2_with (go_at_call 33; refine (CW.out _ (HTK.out _ HB5.out)).mono ?_; rintro e w6 ⟨rfl, hb6⟩; have HB6 := Lib.hid (bcl HB5.out hb6); clear hb6)
      go_ret
      exact ⟨ret_true (by first | rfl | (simp; done) | (simp; omega)), HB6.out⟩
  · rw [if_neg e1, eV_of e1] at cv
    rw [eV_of e1] at cc
    generalize vaE ⟨k1, n1, s1⟩ = E at *
    have CV := Lib.hid cv; have CC := Lib.hid cc
    clear cv cc cw e1
    go_enter Tryd.func18, Tryd.ntmps18
    go_upto_region 1 with fail
    rw [← hW0, ← hW1]
    clear hW0 hW1
    go_upto_region 4 with (go_at_call 33; refine (C5.out _ (HTK.out _ HB.out)).mono ?_; rintro e w2 ⟨rfl, hb2⟩; have HB2 := Lib.hid (bcl HB.out hb2); have HX2 := Lib.hid (HX.out.below hb2 HX.out.lt); have HY2 := Lib.hid (HY.out.below hb2 HY.out.lt); obtain ⟨x0, x1, x2⟩ := HYX.out _ HX2.out; clear hb2)
    go_wp2_with (first
      | (go_at_call 33; refine (CV.out _ (HTK.out _ HB2.out)).mono ?_; rintro e w3 ⟨rfl, hb3⟩; have HB3 := Lib.hid (bcl HB2.out hb3); have HX3 := Lib.hid (HX2.out.below hb3 HX2.out.lt); have HY3 := Lib.hid (HY2.out.below hb3 HY2.out.lt); obtain ⟨x0, x1, x2⟩ := HYX.out _ HX3.out; clear hb3)
      | (go_at_call 63; refine (CC.out _).mono ?_; rintro e w4 ⟨rfl, hb4⟩; have HB4 := Lib.hid (bcl HB3.out hb4); clear hb4))
    go_ret
    exact ⟨ret_true (by first | rfl | (simp; done) | (simp; omega)), HB4.out⟩
end Go.Proofs.YthpemlhlgjdnkaaDoor.printSame
