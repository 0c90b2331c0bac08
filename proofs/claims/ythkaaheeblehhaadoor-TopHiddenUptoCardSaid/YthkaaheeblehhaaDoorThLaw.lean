/- TopHidden: plain laws of covers, of shares that are all there or too few; a slice of one slice again and again. -/
import Derived.Test.YthkaaheeblehhaaDoorCoverFn
import Derived.Test.YthkaaheeblehhaaDoorSealPlain
import Derived.Test.YthkaaheeblehhaaDoorSpcTake
import Derived.Test.YthkaaheeblehhaaDoorOnce
import Derived.Test.YthkaaheeblehhaaDoorWin
import Derived.Test.YthkaaheeblehhaaDoorTopOne
namespace Go.Proofs.YthkaaheeblehhaaDoor.topHidden
open Go.ChangeShapes Go.WideShapes Go.ChangeAt Go.RowKit Go.Joins Go.Deep
set_option linter.unusedVariables false

/-! ### covers -/
def starV : Va := ⟨2, 0, ⟨#[]⟩⟩
theorem vaE_num {n : Int} (h0 : -1000000 ≤ n) (h1 : n ≤ 1000000) : vaE ⟨0, n, ⟨#[]⟩⟩ = 0 := by rw [vaE, if_neg (by simp; omega), if_neg (by simp), if_neg (by simp [okS_empty, ByteArray.size])]
theorem dgv_range (v : Va) : 0 ≤ dgv v ∧ dgv v ≤ 10006 := hs_range _ _
theorem vaE_cov {v cl : Va} {s : Int} (h : vaE v = 0) (hc : vaE cl = 0) : vaE (cov1 v s cl) = 0 := by
  unfold cov1
  split
  · exact hc
  · split
    · have := dgv_range v; exact vaE_num (by omega) (by omega)
    · exact h
theorem li_cov {t : List Va} {s : List Int} {cl : Va} (h : liE t = 0) (hc : vaE cl = 0) : liE (covL t s cl) = 0 := by
  obtain ⟨t0, t5, tv⟩ := tu_vaE h
  rw [liE, covL_length, if_neg (by omega), if_neg (by omega)]
  exact lsE_of fun i hi => by rw [va_covL hi]; exact vaE_cov (tv i hi) hc
theorem tu_cov {t : List Va} {s : List Int} (h : tuE t = 0) : tuE (covL t s Va.zero) = 0 := by
  obtain ⟨h1, h2⟩ := tuE_zero h
  rw [tuE, if_neg (by rw [li_cov h1 (by decide)]; decide), if_neg]
  rw [anyB_false.2 fun i hi => ?_]
  · decide
  · rw [covL_length] at hi
    rw [va_covL hi, cov1]
    split
    · decide
    · split
      · simp
      · exact anyB_false.1 h2 i hi
theorem okL_of {l : List Va} (h : ∀ i, i < l.length → vaE (va l i) = 0) : okL l := fun i hi => by have := (vaE_kind (h i hi)).2.2.2; unfold maxLen; omega
theorem okL_cov {t : List Va} {s : List Int} {cl : Va} (h : liE t = 0) (hc : vaE cl = 0) : okL (covL t s cl) := by
  obtain ⟨t0, t5, tv⟩ := tu_vaE h
  exact okL_of fun i hi => by rw [covL_length] at hi; rw [va_covL hi]; exact vaE_cov (tv i hi) hc
theorem fit_cov {l t : List Va} {s : List Int} (h : fitB l t = true) : fitB (covL l s starV) (covL t s Va.zero) = true := by
  obtain ⟨h1, h2⟩ := fitB_true.1 h
  refine fitB_true.2 ⟨by rw [covL_length, covL_length, h1], fun i hi => ?_⟩
  rw [covL_length] at hi
  rw [va_covL (by omega), va_covL hi]
  have h3 := h2 i hi
  unfold cov1
  by_cases e2 : gi s i = 2
  · rw [if_pos e2, if_pos e2]; exact likB_2 rfl
  · rw [if_neg e2, if_neg e2]
    by_cases k : (va l i).k = 2
    · rw [if_neg (by simp [k])]; exact likB_2 k
    · rw [likB_ne k] at h3
      have h3 := of_decide_eq_true h3
      rw [← h3]
      split
      · rw [likB_ne (by simp)]; exact decide_eq_true rfl
      · rw [likB_ne k]; exact decide_eq_true rfl
theorem tf_zero {l t : List Va} (h1 : liE l = 0) (h2 : tuE t = 0) : tfE l t = 0 := by rw [tfE, if_neg (by simp [h1]), h2]
/-! ### what is read of a space of one -/
def rT1 (a x : List Va) : List Va := if finE a [x] = 0 then x else []
theorem vals_nil1 {w : World} {B : Option Addr} : Vals w B [] := Sl.zero
theorem fin_one1 {a x : List Va} (hl : liE a = 0) (h : fitB a x = true) : finE a [x] = 0 := by
  have hk : plc a [x] = 0 := by
    unfold plc
    exact idx_some (k := 1) (by simp only [fst']; show (if fitB a (gg [x] 0) = true then _ else _) = _; rw [show gg [x] 0 = x from rfl, h]; rfl) (Nat.le_refl 1)
  rw [finE, if_neg (by simp [hl]), hk, if_neg (by decide)]
set_option maxHeartbeats 800000 in
theorem spread_g {base : Nat} (p : Nat) (g : Option Nat) (L : List (List Va)) (A : Option Addr) (c : Nat) (a : List Va) (hm : a.length ≤ maxLen) (hok : okL a) (w : World) (hS : Spc w base p g L) (hA : Vals w A a) (k : Nat) (hk : k < L.length) (hp : plc a L = (k : Int)) (h : finE a L = 0) :
    Calls Tryd.prog 24 #[.pointer (some ⟨p, 0, none⟩), .slice A a.length c] w fun e w' => ∃ B C, e = .returned (.tuple #[.slice B (gg L k).length C, .nilIface]) ∧ Vals w' B (gg L k) ∧ Below w.heap.size w w' := by
  obtain ⟨E, n, q1, q2, q3⟩ := hS.there
  have q1 : AtP w p (.slice E L.length n) := q1
  have hl := hS.len
  have c1 := spfind_any p A c a hm hok E n L (by unfold maxLen; omega) w hA q3.many q1.cell
  rw [finV, if_pos h, h, eV_zero, hp] at c1
  have hmem : gg L k ∈ L := by simp only [gg, List.getD_eq_getElem?_getD, List.getElem?_eq_getElem hk, Option.getD_some]; exact List.getElem_mem hk
  obtain ⟨z0, z5⟩ := tu_len (hS.ok _ hmem).2
  have cc := fun (W : World) (B : Option Addr) (C : Nat) (hW : Vals W B (gg L k)) => clone_any B C (gg L k) z0 (by omega) W hW
  have hb0 := hS.hb
  have C1 := Lib.hid c1; have CC := Lib.hid cc; have HB0 := Lib.hid hb0; clear c1 cc z0 z5 hmem h hp hS hb0 q2 hA hok hm
  go_enter Tryd.func24, Tryd.ntmps24
  go_wp2_with (first | (go_at_call 59; refine C1.out.mono ?_; rintro e w1 ⟨rfl, hb1⟩; have hc1 := (q1.below hb1).cell; have q4 := q3.keep vals_stay HB0.out hb1; obtain ⟨b, B, C, rfl, hcc, hv, hC1, hC2, hin⟩ := q4.vat hk; have HV := Lib.hid hv; clear hv hin q4) | (go_at_call 56; refine (CC.out _ _ _ HV.out).mono ?_; rintro e w2 ⟨A2, c2, rfl, ho2, hb2⟩; have HO2 := Lib.hid ho2; clear ho2))
  go_ret2
  exact ⟨A2, c2, rfl, HO2.out.vals, bcl hb1 hb2⟩
set_option maxHeartbeats 800000 in
theorem spread_n {base : Nat} (p : Nat) (g : Option Nat) (L : List (List Va)) (A : Option Addr) (c : Nat) (a : List Va) (hm : a.length ≤ maxLen) (hok : okL a) (w : World) (hS : Spc w base p g L) (hA : Vals w A a) (h : finE a L ≠ 0) :
    Calls Tryd.prog 24 #[.pointer (some ⟨p, 0, none⟩), .slice A a.length c] w fun e w' => e = .returned (.tuple #[.slice none 0 0, errV (finE a L)]) ∧ Below w.heap.size w w' := by
  obtain ⟨E, n, q1, q2, q3⟩ := hS.there
  have q1 : AtP w p (.slice E L.length n) := q1
  have hl := hS.len
  have c1 := spfind_any p A c a hm hok E n L (by unfold maxLen; omega) w hA q3.many q1.cell
  rw [finV, if_neg h, eV_of h] at c1
  generalize finE a L = X at *
  have C1 := Lib.hid c1; clear c1 h hS q1 q2 q3 hA hok hm
  go_enter Tryd.func24, Tryd.ntmps24
  go_wp2_with (go_at_call 59; refine C1.out.mono ?_; rintro e w1 ⟨rfl, hb1⟩)
  go_ret2
  exact ⟨rfl, hb1⟩
theorem spread_1 {base : Nat} (p : Nat) (g : Option Nat) (x : List Va) (A : Option Addr) (c : Nat) (a : List Va) (hm : a.length ≤ maxLen) (hok : okL a) (w : World) (hS : Spc w base p g [x]) (hA : Vals w A a) :
    Calls Tryd.prog 24 #[.pointer (some ⟨p, 0, none⟩), .slice A a.length c] w fun e w' => ∃ B C, e = .returned (.tuple #[.slice B (rT1 a x).length C, eV (finE a [x])]) ∧ Vals w' B (rT1 a x) ∧ Below w.heap.size w w' := by
  by_cases h : finE a [x] = 0
  · obtain ⟨k, hk, hp, _⟩ := plc_at (fin_zero h).2
    have hk0 : k = 0 := by simpa using hk
    subst hk0
    rw [h, rT1, if_pos h, eV_zero]
    exact spread_g p g [x] A c a hm hok w hS hA 0 hk hp h
  · rw [rT1, if_neg h, eV_of h]
    exact (spread_n p g [x] A c a hm hok w hS hA h).mono fun e w' ⟨h1, h2⟩ => ⟨none, 0, h1, vals_nil1, h2⟩
/-! ### all the shares, and too few -/
theorem seal_mid (t : ByteArray) (rest : List (List Int)) (n k : Nat) : sealL t rest n k = midL t rest n 0 n k := by
  unfold sealL midL mid
  refine List.map_congr_left fun i _ => ?_
  rw [List.drop_zero, List.take_of_length_le (by rw [dealL_length]; exact Nat.le_refl _)]
theorem few (l : List Sh) (need : Nat) (h : l.length < need) : oE [l] need 0 ≠ 0 := by
  have hj : joE l need ≠ 0 := by
    unfold joE
    split
    · decide
    · split
      · assumption
      · rw [if_pos (by omega)]; decide
  rw [oE, show gg [l] 0 = l from rfl, if_pos hj]
  exact hj
/-! ### one slice again and again -/
theorem infoIts' : (Tryd.prog.info? 53).map (fun i => (i.zero, i.size, i.bytes)) = some (some (.slice none 0 0), 1, 24) := by kernel_rfl
def Rep (w : World) (base : Nat) (v : Value) (A : Option Addr) (c k : Nat) : Prop := Win w base 53 1 (.slice A k c) k (List.replicate k v)
theorem wpList_append_rep {w : World} {ops : Array Oper} {rest : List Oper} {o : Oper} {a : Act} {Q : Exit → Act → World → Prop} (hgd : o.guard = none) (s x : Operand)
    (ho : o.op = .call { callee := .builtin .append, args := #[s, x], argTypes := #[65, 65] }) (base : Nat) (v : Value) (A : Option Addr) (c k : Nat) (hs : a.eval s = .slice A k c) (hown : Rep w base v A c k)
    (g : Nat) (hx : a.eval x = .slice (some ⟨g, 0, none⟩) 1 1) (h0 : w.cell? ⟨g, 0, none⟩ = some v) (h1 : v.oneCell' = true) (hn : k ≤ 2000000) (hbase : base ≤ w.heap.size)
    (h : ∀ A' c' w', Rep w' base v A' c' (k + 1) → Below base w w' → wpList Tryd.prog ops Q rest (a.put o.dst (.slice A' (k + 1) c')) w') : wpList Tryd.prog ops Q (o :: rest) a w :=
  wpList_plain hgd fun K hK => by
    have hw : Region.wanted o (yielded ops a.tmps) = true := by simp [Region.wanted, hgd]
    obtain ⟨i0, hi0, hz0, hz1, hz2⟩ := info_parts infoIts'
    obtain ⟨g', off, cap, w', hr, h2, h3, h4⟩ := run_append_win 65 o.type base 53 i0 (.slice none 0 0) 1 24 Tryd.underlying65 hi0 hz0 hz1 hz2 rfl (by decide) (.slice A k c) k _ hown ⟨g, 0, none⟩ 1 1 [v] rfl (fun j u hj => by
      match j, hj with
      | 0, hj => simp at hj; subst hj; exact h0) (by simpa using h1) (by omega) (by unfold maxLen; omega) (by omega) hbase
    unfold Oper.wp execOp
    simp only [ho, resolve, invoke, builtin, Sem.run_bind, Sem.run_pure, Result.andThen_ok, List.map_toArray, List.map_cons, List.map_nil, hs, hx, hr]
    refine hK _ _ (h _ cap w' ?_ ((Chs.grown h3).below (fun b hb => (Win.block hown hb).1) hbase))
    unfold Rep
    rw [List.replicate_succ']
    exact h2
theorem Rep.alloc {w : World} {base : Nat} {v : Value} {A : Option Addr} {c k : Nat} (h : Rep w base v A c k) (o : Obj) : Rep (w.alloc o) base v A c k := Win.keep h (bal1 _ _)
theorem Rep.many {w : World} {base : Nat} {C : Option Addr} {f : Nat} {r : List Int} {A : Option Addr} {c k : Nat} (h : Rep w base (.slice C r.length f) A c k) (hC : Ints w C r) (h1 : r.length ≤ f) (h2 : f ≤ maxLen) : Many Ints w A (List.replicate k r) := by
  have hg : ∀ i, i < k → gg (List.replicate k r) i = r := fun i hi => by simp [gg, hi]
  refine ⟨fun _ => C, fun _ => f, fun h0 => ?_, fun i hi => ?_⟩
  · rw [List.length_replicate] at h0
    obtain ⟨g, off, c', e, _, hc⟩ := Win.at_ h h0
    injection e with e1
    refine ⟨g, off, e1, (Win.block h (g := g) (by rw [e1]; rfl)).2.lt, fun i hi j hj => ?_⟩
    rw [List.length_replicate] at hi
    obtain rfl : j = 0 := by omega
    rw [Nat.mul_one, Nat.add_zero]
    show _ = some (Value.slice C (gg (List.replicate k r) i).length f)
    rw [hg i hi]
    exact hc i _ (by simp [hi])
  · rw [List.length_replicate] at hi
    rw [hg i hi]; exact ⟨hC, h1, h2⟩
end Go.Proofs.YthkaaheeblehhaaDoor.topHidden
