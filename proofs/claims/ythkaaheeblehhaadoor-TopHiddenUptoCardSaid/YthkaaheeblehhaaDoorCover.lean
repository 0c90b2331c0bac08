/- Package cover: check, covered, Tuple, Like; the reference's Shows and Cover. -/
import Derived.Test.YthkaaheeblehhaaDoorWord
import Derived.Test.YthkaaheeblehhaaDoorTupleIs
import Derived.Test.YthkaaheeblehhaaDoorFF
import Derived.Test.YthkaaheeblehhaaDoorChs
namespace Go.Proofs.YthkaaheeblehhaaDoor
open Go.RowKit Go.Joins
set_option linter.unusedVariables false

theorem cochk_any (n : Int) (w : World) : Calls Tryd.prog 87 #[.int .i64 n] w fun e w' => e = .returned (.bool (decide (n < 0) || decide (2 < n))) ∧ w = w' := by
  by_cases h : n < 0
  · rw [decide_eq_true h, Bool.true_or]
    go_enter Tryd.func87, Tryd.ntmps87
    go_wp2_with fail
    go_ret
    exact ⟨rfl, rfl⟩
  · rw [decide_eq_false h, Bool.false_or]
    cases h2 : decide (2 < n)
    all_goals
      go_enter Tryd.func87, Tryd.ntmps87
      go_wp2_with fail
      go_ret
      exact ⟨rfl, rfl⟩
set_option maxHeartbeats 400000 in
theorem intidx_any (A : Option Addr) (cap : Nat) (l : List Int) (hm : l.length ≤ maxLen) (g : FuncId) (p : Nat → Bool) (w : World) (hA : Ints w A l)
    (hp : ∀ W, Below w.heap.size w W → ∀ i, i < l.length → Calls Tryd.prog g #[.int .i64 (gi l i)] W fun e w' => e = .returned (.bool (p i)) ∧ Below W.heap.size W w')
    (hg : ∀ args w, (callFunc g args).run Tryd.prog w = .ok (.enter g args) w) :
    Calls Tryd.prog 106 #[.slice A l.length cap, .func (.func g) #[] #[]] w fun e w' => e = .returned (.int .i64 (idx p l.length)) ∧ Below w.heap.size w w' := by
  have HP := Lib.hid hp; clear hp
  unfold maxLen at hm
  go_enter Tryd.func106, Tryd.ntmps106
  go_wp2_with fail
  go_loopw [8] (fun i wr => ∃ k : Nat, k ≤ l.length ∧ i = .int .i64 k ∧ Hid (fst' p k = none) ∧ Below w.heap.size w wr) (fun i _ => l.length - (intOf i).toNat)
  case atStart => exact ⟨0, Nat.zero_le _, rfl, rfl, Below.refl _ _⟩
  case round =>
    obtain ⟨k, hk, rfl, hf, hb⟩ := hrel
    by_cases hlt : k < l.length
    · obtain ⟨b, off, rfl, hbl, hc0⟩ := (hA.below hb (Nat.le_refl _)).at_ (i := k) hlt
      cases hpk : p k with
      | true =>
        have hi : idx p l.length = (k : Int) := idx_some (k := k + 1) (by simp only [fst', hf.out, hpk, if_true]) (by omega)
        have HI := Lib.hid hi; clear hi
        have hc := HP.out wr hb k hlt
        rw [hpk] at hc
        have HC := Lib.hid hc; clear hc hpk
        go_wp2_with fail
        refine HC.out.mono ?_
        rintro e w1 ⟨rfl, hb1⟩
        go_wp2_with fail
        rw [HI.out]
        go_ret
        exact ⟨rfl, bcl hb hb1⟩
      | false =>
        have hn' : fst' p (k + 1) = none := by simp [fst', hf.out, hpk]
        have HN := Lib.hid hn'; clear hn'
        have hc := HP.out wr hb k hlt
        rw [hpk] at hc
        have HC := Lib.hid hc; clear hc hpk
        go_wp2_with fail
        refine HC.out.mono ?_
        rintro e w1 ⟨rfl, hb1⟩
        go_wp2_with fail
        go_roundw
        case rel => exact ⟨k + 1, by omega, by go_num, HN, bcl hb hb1⟩
        case measure => simp [intOf]; omega
    · obtain rfl : k = l.length := by omega
      have HI := Lib.hid (idx_none hf.out)
      go_wp2_with fail
      rw [HI.out]
      go_ret
      exact ⟨rfl, hb⟩
/-- shows something that is none? -/
def badS (l : List Int) : Bool := decide (0 ≤ idx (fun i => decide (gi l i < 0) || decide (2 < gi l i)) l.length)
theorem badS_false {l : List Int} : badS l = false ↔ ∀ i, i < l.length → 0 ≤ gi l i ∧ gi l i ≤ 2 := by
  rw [badS, decide_eq_false_iff_not, Int.not_le, idx_neg]; simp
theorem intcon_any (A : Option Addr) (cap : Nat) (l : List Int) (hm : l.length ≤ maxLen) (w : World) (hA : Ints w A l) :
    Calls Tryd.prog 86 #[.slice A l.length cap, .func (.func 87) #[] #[]] w fun e w' => e = .returned (.bool (badS l)) ∧ Below w.heap.size w w' := by
  have hc := intidx_any A cap l hm 87 (fun i => decide (gi l i < 0) || decide (2 < gi l i)) w hA (fun W hb i hi => (cochk_any _ W).mono fun e w' ⟨h1, h2⟩ => ⟨h1, eq_below h2⟩) (enters_of Tryd.func87 (by kernel_rfl) rfl)
  unfold badS
  generalize idx (fun i => decide (gi l i < 0) || decide (2 < gi l i)) l.length = z at hc
  have HC := Lib.hid hc; clear hc hA
  go_enter Tryd.func86, Tryd.ntmps86
  go_wp2_with fail
  refine HC.out.mono ?_
  rintro e w1 ⟨rfl, hb1⟩
  go_wp2_with fail
  go_ret
  exact ⟨rfl, hb1⟩
/-- what is wrong with shows, for so many fields -/
def shE' (n : Nat) (l : List Int) : Int := if l.length ≠ n then 3 else if badS l = true then 1 else 0
theorem shE'_zero {n : Nat} {l : List Int} (h : shE' n l = 0) : l.length = n ∧ ∀ i, i < l.length → 0 ≤ gi l i ∧ gi l i ≤ 2 := by
  unfold shE' at h
  split at h
  · cases h
  · split at h
    · cases h
    · rename_i h1 h2
      exact ⟨Classical.not_not.1 h1, badS_false.1 (by simpa using h2)⟩
theorem cocheck_any (A : Option Addr) (c n : Nat) (hn : n ≤ maxLen) (S : Option Addr) (d : Nat) (l : List Int) (hm : l.length ≤ maxLen) (w : World) (hS : Ints w S l) :
    Calls Tryd.prog 53 #[.slice A n c, .slice S l.length d] w fun e w' => e = .returned (eV (shE' n l)) ∧ Below w.heap.size w w' := by
  unfold maxLen at hn
  by_cases h : l.length = n
  · have hq : (((l.length : Nat) : Int) != (n : Int)) = false := by simp; omega
    have ci := intcon_any S d l hm w hS
    unfold shE'
    rw [if_neg (by simp [h])]
    cases hb : badS l with
    | true =>
      rw [hb] at ci
      rw [if_pos rfl, show eV 1 = errV 1 from rfl]
      have CI := Lib.hid ci; clear ci hb h hm
      go_enter Tryd.func53, Tryd.ntmps53
      go_wp2_with (go_at_call 86; refine CI.out.mono ?_; rintro e w1 ⟨rfl, hb1⟩)
      go_ret
      exact ⟨rfl, hb1⟩
    | false =>
      rw [hb] at ci
      rw [if_neg (by decide), eV_zero]
      have CI := Lib.hid ci; clear ci hb h hm
      go_enter Tryd.func53, Tryd.ntmps53
      go_wp2_with (go_at_call 86; refine CI.out.mono ?_; rintro e w1 ⟨rfl, hb1⟩)
      go_ret
      exact ⟨rfl, hb1⟩
  · have hq : (((l.length : Nat) : Int) != (n : Int)) = true := by rw [bne_iff_ne]; omega
    have hv : shE' n l = 3 := by rw [shE', if_pos h]
    rw [hv, show eV 3 = errV 3 from rfl]
    clear hv h hm
    go_enter Tryd.func53, Tryd.ntmps53
    go_wp2_with fail
    go_ret
    exact ⟨rfl, Below.refl _ _⟩
/-- a field as it is shown -/
def cov1 (v : Va) (s : Int) (cl : Va) : Va := if s = 2 then cl else if s = 1 ∧ v.k ≠ 2 then ⟨0, dgv v, ⟨#[]⟩⟩ else v
/-- fields as they are shown -/
def covL (t : List Va) (s : List Int) (cl : Va) : List Va := (List.range t.length).map fun i => cov1 (va t i) (gi s i) cl
theorem covL_length (t : List Va) (s : List Int) (cl : Va) : (covL t s cl).length = t.length := by simp [covL]
theorem va_covL {t : List Va} {s : List Int} {cl : Va} {i : Nat} (h : i < t.length) : va (covL t s cl) i = cov1 (va t i) (gi s i) cl := by simp [va, covL, h]
/-- the first k fields shown, the rest as they were -/
def covK (t : List Va) (s : List Int) (cl : Va) (k : Nat) : List Va := (List.range t.length).map fun i => if i < k then cov1 (va t i) (gi s i) cl else va t i
theorem covK_length (t : List Va) (s : List Int) (cl : Va) (k : Nat) : (covK t s cl k).length = t.length := by simp [covK]
theorem covK_zero (t : List Va) (s : List Int) (cl : Va) : covK t s cl 0 = t := va_ext (covK_length _ _ _ _) fun i hi => by rw [covK_length] at hi; simp [covK, va, hi]
theorem covK_end (t : List Va) (s : List Int) (cl : Va) : covK t s cl t.length = covL t s cl := va_ext (by simp [covK, covL]) fun i hi => by rw [covK_length] at hi; rw [va_covL hi]; simp [covK, va, hi]
theorem va_covK {t : List Va} {s : List Int} {cl : Va} {k i : Nat} (h : i < t.length) : va (covK t s cl k) i = if i < k then cov1 (va t i) (gi s i) cl else va t i := by simp [va, covK, h]
theorem covK_keep {t : List Va} {s : List Int} {cl : Va} {k : Nat} (hk : k < t.length) (h : cov1 (va t k) (gi s k) cl = va t k) : covK t s cl (k + 1) = covK t s cl k := va_ext (by simp [covK]) fun i hi => by
  rw [covK_length] at hi
  rw [va_covK hi, va_covK hi]
  by_cases e : i = k
  · subst e; rw [if_pos (by omega), if_neg (by omega), h]
  · by_cases e2 : i < k
    · rw [if_pos (by omega), if_pos e2]
    · rw [if_neg (by omega), if_neg e2]
theorem va_set {l : List Va} {i j : Nat} {v : Va} (hj : j < l.length) : va (l.set i v) j = if i = j then v else va l j := by
  simp only [va, List.getD_eq_getElem?_getD, List.getElem?_set]
  split
  · rw [if_pos (by omega)]; rfl
  · rfl
theorem covK_set {t : List Va} {s : List Int} {cl : Va} {k : Nat} (hk : k < t.length) : covK t s cl (k + 1) = (covK t s cl k).set k (cov1 (va t k) (gi s k) cl) := va_ext (by simp [covK]) fun i hi => by
  rw [covK_length] at hi
  rw [va_covK hi, va_set (by rw [covK_length]; exact hi), va_covK hi]
  by_cases e : i = k
  · subst e; rw [if_pos (by omega), if_pos rfl]
  · rw [if_neg (show ¬ k = i from fun h => e h.symm)]
    by_cases e2 : i < k
    · rw [if_pos (show i < k + 1 by omega), if_pos e2]
    · rw [if_neg (show ¬ i < k + 1 by omega), if_neg e2]
/-- a field of a tuple of the call's own is set -/
theorem OVals.set {w : World} {base c g : Nat} {l : List Va} (h : OVals w base (some ⟨g, 0, none⟩) c l) {i : Nat} (hi : i < l.length) (v : Va) :
    OVals (((w.setCell ⟨g, i * 3, none⟩ (.int .i64 v.k)).setCell ⟨g, i * 3 + 1, none⟩ (.int .i64 v.n)).setCell ⟨g, i * 3 + 2, none⟩ (.string v.s)) base (some ⟨g, 0, none⟩) c (l.set i v) := by
  rcases h.2 with ⟨h1, _⟩ | ⟨g', cap, cur, h3, h4, h5, h6, h7, h8, h9⟩
  · cases h1
  injection h3 with ha _ hc
  injection ha with ha
  injection ha with ha
  subst ha; subst hc
  have hsz : l.length * 3 ≤ cur.size := by rw [h8]; exact Nat.mul_le_mul_right _ h6
  refine ⟨by rw [vaCells_length], .inr ⟨g, c, ((cur.setIfInBounds (i * 3) (.int .i64 v.k)).setIfInBounds (i * 3 + 1) (.int .i64 v.n)).setIfInBounds (i * 3 + 2) (.string v.s), by rw [List.length_set], h4, ?_, by rw [List.length_set]; exact h6, h7, by simp [h8], ?_⟩⟩
  · simp [World.setCell, Array.getElem?_modify, h5]
  · rw [List.length_set]
    apply List.ext_getElem?
    intro j
    rw [List.getElem?_take]
    by_cases hj : j < l.length * 3
    · rw [if_pos hj]
      have e2 : j / 3 * 3 + j % 3 = j := by omega
      have hr := vaCells_at (l.set i v) (j / 3) (j % 3) (by rw [List.length_set]; omega) (by omega)
      rw [e2] at hr
      rw [hr]
      have ho := vaCells_at l (j / 3) (j % 3) (by omega) (by omega)
      rw [e2, ← h9, List.getElem?_take, if_pos hj] at ho
      simp only [Array.toList_setIfInBounds, List.getElem?_set, Array.length_toList, List.length_set]
      have hv : va (l.set i v) (j / 3) = if i = j / 3 then v else va l (j / 3) := va_set (by omega)
      by_cases k2 : i * 3 + 2 = j
      · rw [if_pos k2, if_pos (by omega)]
        have a1 : i = j / 3 := by omega
        have a2 : j % 3 = 2 := by omega
        rw [vac, a2, hv, if_pos a1]; rfl
      · rw [if_neg k2]
        by_cases k1 : i * 3 + 1 = j
        · rw [if_pos k1, if_pos (by omega)]
          have a1 : i = j / 3 := by omega
          have a2 : j % 3 = 1 := by omega
          rw [vac, a2, hv, if_pos a1]; rfl
        · rw [if_neg k1]
          by_cases k0 : i * 3 = j
          · rw [if_pos k0, if_pos (by omega)]
            have a1 : i = j / 3 := by omega
            have a2 : j % 3 = 0 := by omega
            rw [vac, a2, hv, if_pos a1]; rfl
          · rw [if_neg k0, ho]
            have a1 : i ≠ j / 3 := by omega
            rw [vac, vac, hv, if_neg a1]
    · rw [if_neg hj, List.getElem?_eq_none (by rw [vaCells_length, List.length_set]; omega)]
theorem OVals.frozen {w : World} {base c g : Nat} {l : List Va} (h : OVals w base (some ⟨g, 0, none⟩) c l) (o : Nat) : w.frozen? ⟨g, o, none⟩ = false := by
  rcases h.2 with ⟨h1, _⟩ | ⟨g', cap, cur, h3, h4, h5, _⟩
  · cases h1
  injection h3 with ha _ hc
  injection ha with ha
  injection ha with ha
  subst ha
  simp [World.frozen?, h5]
theorem OVals.base_le {w : World} {base c g : Nat} {l : List Va} (h : OVals w base (some ⟨g, 0, none⟩) c l) : base ≤ g := by
  rcases h.2 with ⟨h1, _⟩ | ⟨g', cap, cur, h3, h4, h5, _⟩
  · cases h1
  injection h3 with ha _ hc
  injection ha with ha
  injection ha with ha
  subst ha
  exact h4
theorem OVals.form {w : World} {base c : Nat} {A : Option Addr} {l : List Va} (h : OVals w base A c l) (hl : 0 < l.length) : ∃ g, A = some ⟨g, 0, none⟩ := by
  obtain ⟨g, cap, hv, _, hlt⟩ := World.ownsRow.form h hl
  injection hv with hv
  exact ⟨g, hv⟩
theorem OVals.cells_at {w : World} {base c g : Nat} {l : List Va} (h : OVals w base (some ⟨g, 0, none⟩) c l) {i : Nat} (hi : i < l.length) :
    w.cell? ⟨g, i * 3, none⟩ = some (.int .i64 (va l i).k) ∧ w.cell? ⟨g, i * 3 + 1, none⟩ = some (.int .i64 (va l i).n) ∧ w.cell? ⟨g, i * 3 + 2, none⟩ = some (.string (va l i).s) := by
  obtain ⟨b, off, e, _, h0, h1, h2⟩ := h.vals.at_ hi
  injection e with e
  injection e with e1 e2
  subst e1; subst e2
  rw [Nat.zero_add] at h0 h1 h2
  exact ⟨h0, h1, h2⟩
theorem vaE_n {v : Va} (h : vaE v = 0) : -1000000 ≤ v.n ∧ v.n ≤ 1000000 := by
  obtain ⟨k0, k2, kn, ks⟩ := vaE_kind h
  by_cases e : v.k = 0
  · exact kn e
  · have : v.n = 0 := by
      unfold vaE at h
      split at h
      · cases h
      · split at h
        · cases h
        · split at h
          · cases h
          · rename_i h3
            exact Classical.not_not.1 fun hn => h3 (.inl ⟨e, hn⟩)
    omega
set_option maxHeartbeats 1600000 in
set_option maxRecDepth 100000 in
theorem covered_any (A : Option Addr) (c : Nat) (t : List Va) (S : Option Addr) (d : Nat) (s : List Int) (cl : Va) (h0 : 0 < t.length) (h5 : t.length ≤ 5) (hsl : s.length = t.length) (hok : ∀ i, i < t.length → vaE (va t i) = 0) (w : World) (ht : TT w) (hA : Vals w A t) (hS : Ints w S s) :
    Calls Tryd.prog 54 #[.slice A t.length c, .slice S s.length d, .agg #[.int .i64 cl.k, .int .i64 cl.n, .string cl.s]] w fun e w' => ∃ A' c', e = .returned (.slice A' t.length c') ∧ OVals w' w.heap.size A' c' (covL t s cl) ∧ Below w.heap.size w w' := by
  have cc := fun (W : World) (hW : Vals W A t) => clone_any A c t h0 (by omega) W hW
  have CC := Lib.hid cc; have HA := Lib.hid hA; have HS := Lib.hid hS; have HT := Lib.hid ht; have HSL := Lib.hid hsl; have HOK := Lib.hid hok
  clear cc hA hS ht hsl hok
  go_enter Tryd.func54, Tryd.ntmps54
  go_wp2_with (go_at_call 56; refine (CC.out _ (HA.out.alloc _)).mono ?_; rintro e w1 ⟨A1, c1, rfl, ho1, hb1⟩; have hcl := (AtB.new w #[.int .i64 cl.k, .int .i64 cl.n, .string cl.s] 40).below hb1 (by simp); have hbw := bcl (bal1 w _) hb1; obtain ⟨g, rfl⟩ := ho1.form h0; have hgz := ho1.base_le; have HCL := Lib.hid hcl; have HO1 := Lib.hid ho1; clear ho1 hcl hb1)
  have hgz : w.heap.size + 1 ≤ g := by simpa using hgz
  go_loopw [14] (fun i wr => ∃ k : Nat, k ≤ t.length ∧ i = .int .i64 k ∧ Hid (OVals wr (w.alloc (.cells #[.int .i64 cl.k, .int .i64 cl.n, .string cl.s] 40)).heap.size (some ⟨g, 0, none⟩) c1 (covK t s cl k)) ∧ Hid (AtB wr w.heap.size #[.int .i64 cl.k, .int .i64 cl.n, .string cl.s] 40) ∧ Below w.heap.size w wr) (fun i _ => t.length - (intOf i).toNat)
  case atStart => exact ⟨0, Nat.zero_le _, rfl, by rw [covK_zero]; exact HO1.out, HCL.out, hbw⟩
  case round =>
    obtain ⟨k, hk, rfl, HO, HB, hb⟩ := hrel
    by_cases hlt : k < t.length
    · obtain ⟨b1, off1, rfl, hbl1, v0, v1, v2⟩ := (HA.out.below hb (Nat.le_refl _)).at_ (i := k) hlt
      obtain ⟨b2, off2, rfl, hbl2, s0⟩ := (HS.out.below hb (Nat.le_refl _)).at_ (i := k) (by rw [HSL.out]; exact hlt)
      have hsl2 : k < s.length := by rw [HSL.out]; exact hlt
      have hba := bal hb (.cells #[.int .i64 (va t k).k, .int .i64 (va t k).n, .string (va t k).s] 40)
      have hOA := HO.out.keep (bal1 wr (.cells #[.int .i64 (va t k).k, .int .i64 (va t k).n, .string (va t k).s] 40))
      have hBA := HB.out.alloc (.cells #[.int .i64 (va t k).k, .int .i64 (va t k).n, .string (va t k).s] 40)
      have s0' := (World.cell?_alloc_lt wr (.cells #[.int .i64 (va t k).k, .int .i64 (va t k).n, .string (va t k).s] 40) ⟨b2, off2 + k, none⟩ hbl2).trans s0
      have hcs : covK t s cl (k + 1) = (covK t s cl k).set k (cov1 (va t k) (gi s k) cl) := covK_set hlt
      have hck : cov1 (va t k) (gi s k) cl = va t k → covK t s cl (k + 1) = covK t s cl k := covK_keep hlt
      have HCS := Lib.hid hcs; have HCK := Lib.hid hck; have HOA := Lib.hid hOA; have HBA := Lib.hid hBA
      clear hcs hck
      by_cases x2 : gi s k = 2
      · have hc1 : cov1 (va t k) (gi s k) cl = cl := by rw [cov1, if_pos x2]
        have hq : (gi s k == 2) = true := by simp [x2]
        obtain ⟨o0, o1, o2⟩ := hOA.cells_at (i := k) (by rw [covK_length]; exact hlt)
        have f0 := hOA.frozen (k * 3)
        have f1 := hOA.frozen (k * 3 + 1)
        have f2 := hOA.frozen (k * 3 + 2)
        have b0 := hBA.cell (i := 0) rfl
        have b1' := hBA.cell (i := 1) rfl
        have b2' := hBA.cell (i := 2) rfl
        have HC1 := Lib.hid hc1
        clear hc1 x2 hOA hBA
        go_wp2_with fail
        go_roundw
        case rel => exact ⟨k + 1, by omega, by go_num, by rw [HCS.out, HC1.out]; exact HOA.out.set (by rw [covK_length]; exact hlt) cl, (((HBA.out.far (by show w.heap.size ≠ g; omega) _).far (by show w.heap.size ≠ g; omega) _).far (by show w.heap.size ≠ g; omega) _), bset (bset (bset hba (by show w.heap.size ≤ g; omega) _) (by show w.heap.size ≤ g; omega) _) (by show w.heap.size ≤ g; omega) _⟩
        case measure => simp [intOf]; omega
      · have hq : (gi s k == 2) = false := by simp [x2]
        by_cases x1 : gi s k = 1 ∧ (va t k).k ≠ 2
        · have hc1 : cov1 (va t k) (gi s k) cl = ⟨0, dgv (va t k), ⟨#[]⟩⟩ := by rw [cov1, if_neg x2, if_pos x1]
          have hq1 : (gi s k == 1) = true := by simp [x1.1]
          have hq2 : ((va t k).k != 2) = true := by simp [x1.2]
          have hv := HOK.out k hlt
          obtain ⟨n0, n1⟩ := vaE_n hv
          have ks := (vaE_kind hv).2.2.2
          have cw := fun (W : World) (hW : TT W) => vword_any (va t k).k (va t k).n (va t k).s (by omega) (by omega) (by omega) W (fun _ => hW)
          have cd := fun W => digof_any (wrd (va t k)) (by have := wrd_size _ hv; unfold maxLen; omega) W
          rw [show (Va.mk (va t k).k (va t k).n (va t k).s) = va t k from rfl] at cw
          rw [show hs (wrd (va t k)) (wrd (va t k)).size = dgv (va t k) from rfl] at cd
          have htw := tab_stays (g := 2) (by kernel_rfl) HT.out hba (Nat.le_refl _)
          have CW := Lib.hid cw; have CD := Lib.hid cd; have HTW := Lib.hid htw; have HC1 := Lib.hid hc1
          clear hc1 x2 x1 hOA hBA cw cd htw hv n0 n1 ks
          generalize dgv (va t k) = z at *
          generalize wrd (va t k) = tx at *
          go_wp2_with (first
            | (go_at_call 81; refine (CW.out _ HTW.out).mono ?_; rintro e w3 ⟨rfl, hb3⟩)
            | (go_at_call 47; refine (CD.out _).mono ?_; rintro e w4 ⟨rfl, hb4⟩; have hb34 := bcl hb3 hb4; have hO4 := HOA.out.keep hb34; have hB4 := HBA.out.below hb34 HBA.out.lt; have hbw4 := bcl hba hb34; obtain ⟨o0, o1, o2⟩ := hO4.cells_at (i := k) (by rw [covK_length]; exact hlt); have f0 := hO4.frozen (k * 3); have f1 := hO4.frozen (k * 3 + 1); have f2 := hO4.frozen (k * 3 + 2); have HO4 := Lib.hid hO4; have HB4 := Lib.hid hB4; clear hO4 hB4 hb34 hb3 hb4))
          go_roundw
          case rel => exact ⟨k + 1, by omega, by go_num, by rw [HCS.out, HC1.out]; exact HO4.out.set (by rw [covK_length]; exact hlt) ⟨0, z, ⟨#[]⟩⟩, (((HB4.out.far (by show w.heap.size ≠ g; omega) _).far (by show w.heap.size ≠ g; omega) _).far (by show w.heap.size ≠ g; omega) _), bset (bset (bset hbw4 (by show w.heap.size ≤ g; omega) _) (by show w.heap.size ≤ g; omega) _) (by show w.heap.size ≤ g; omega) _⟩
          case measure => simp [intOf]; omega
        · have hc1 : cov1 (va t k) (gi s k) cl = va t k := by rw [cov1, if_neg x2, if_neg x1]
          have HK := Lib.hid (HCK.out hc1)
          have hd : (gi s k == 1) = false ∨ ((gi s k == 1) = true ∧ ((va t k).k != 2) = false) := by
            by_cases y : gi s k = 1
            · right; refine ⟨by simp [y], ?_⟩
              simp; exact Classical.not_not.1 fun h => x1 ⟨y, h⟩
            · left; simp [y]
          clear hc1 x2 x1 hOA hBA
          rcases hd with d1 | ⟨d1, d2⟩
          all_goals
            go_wp2_with fail
            go_roundw
            case rel => exact ⟨k + 1, by omega, by go_num, by rw [HK.out]; exact HOA.out, HBA.out, hba⟩
            case measure => simp [intOf]; omega
    · obtain rfl : k = t.length := by omega
      go_wp2_with fail
      go_ret
      exact ⟨_, _, rfl, by have := HO.out; rw [covK_end] at this; unfold OVals at this ⊢; rw [covL_length] at this ⊢; exact own_mono this (by simp), hb⟩
end Go.Proofs.YthkaaheeblehhaaDoor
