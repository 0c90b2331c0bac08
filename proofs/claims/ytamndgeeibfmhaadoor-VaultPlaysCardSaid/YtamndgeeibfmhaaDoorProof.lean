/- The functions of package proof: Of, Commit, True, Check: what each returns. -/
import Derived.Test.YtamndgeeibfmhaaDoorPolyThr
import Derived.Test.YtamndgeeibfmhaaDoorOwn
namespace Go.Proofs.YtamndgeeibfmhaaDoor
open Go.RowKit
set_option linter.unusedVariables false

/-- what factors commit to -/
def cmt (xs : List Int) : List Int := xs.map fun p => (64 : Int) ^ p.toNat % 1543

theorem cmt_take (xs : List Int) (k : Nat) (h : k < xs.length) : cmt (xs.take (k + 1)) = cmt (xs.take k) ++ [(64 : Int) ^ (gi xs k).toNat % 1543] := by
  rw [List.take_succ_eq_append_getElem h, cmt, List.map_append]
  simp [cmt, gi, h]

set_option maxHeartbeats 800000 in
theorem of_any (A : Option Addr) (cap : Nat) (xs : List Int) (hl : xs.length ≤ 7) (hi : allIn xs xs.length = true) (w : World) (hI : Ints w A xs) :
    Calls Tryd.prog 52 #[.slice A xs.length cap] w fun e w' => ∃ A' c', e = .returned (.slice A' xs.length c') ∧ OInts w' w.heap.size A' c' (cmt xs) ∧ Below w.heap.size w w' := by
  have HI := Lib.hid hi; clear hi
  go_enter Tryd.func52, Tryd.ntmps52
  go_wp2_with fail
  go_loopw [3, 8] (fun o i wr => ∃ (k : Nat) (A' : Option Addr) (c' : Nat), k ≤ xs.length ∧ i = .int .i64 k ∧ o = .slice A' (cmt (xs.take k)).length c' ∧ OInts wr w.heap.size A' c' (cmt (xs.take k)) ∧ Below w.heap.size w wr) (fun _ i _ => xs.length - (intOf i).toNat)
  case atStart => exact ⟨0, none, 0, Nat.zero_le _, rfl, rfl, OInts.nil, Below.refl _ _⟩
  case round =>
    obtain ⟨k, A', c', hk, rfl, rfl, ho, hb⟩ := hrel
    by_cases hlt : k < xs.length
    · obtain ⟨b, off, rfl, hbl, hc⟩ := (hI.below hb (Nat.le_refl _)).at_ hlt
      obtain ⟨g0, g1⟩ := inB_true.1 (allIn_at HI.out hlt)
      have ht := cmt_take xs k hlt
      have HT := Lib.hid ht; clear ht
      have hll : (cmt (xs.take k)).length ≤ 7 := by simp [cmt]; omega
      have hz := hb.size
      have hl6 : (cmt (xs.take k)).length ≤ 1000000 := by omega
      go_wp2_with (first | (go_at_call 78; refine (raised_any 64 (gi xs k) 1543 _ (by omega) (by omega) (by omega) (by omega) g0 (by omega)).mono ?_; rintro e w' ⟨rfl, rfl⟩) | (at_builtin; refine wpList_append_int rfl _ _ rfl w.heap.size A' c' _ rfl (ho.keep (bal1 _ _)) wr.heap.size _ rfl (cell_new1 _ _ _) hl6 (le_al hz _) ?_; intro A2 c2 w2 ho3 hb2))
      go_roundw
      case rel => exact ⟨k + 1, A2, c2, by omega, by go_num, by rw [HT.out]; simp, by rw [HT.out]; exact ho3, (bal hb _).trans hb2⟩
      case measure => simp [intOf]; omega
    · obtain rfl : k = xs.length := by omega
      rw [List.take_length] at ho ⊢
      have hcl : (cmt xs).length = xs.length := by simp [cmt]
      rw [hcl]
      clear hcl
      go_wp2_with fail
      go_ret
      exact ⟨A', c', rfl, ho, hb⟩

/-- are the first k commits right? -/
def cmB (c : List Int) : Nat → Bool
  | 0 => true
  | k + 1 => cmB c k && (decide (1 ≤ gi c k) && decide (gi c k < 1543))
theorem cmB_at {c : List Int} {k : Nat} (h : cmB c k = true) {i : Nat} (hi : i < k) : 1 ≤ gi c i ∧ gi c i < 1543 := by
  induction k with
  | zero => omega
  | succ k ih =>
    simp only [cmB, Bool.and_eq_true, decide_eq_true_eq] at h
    by_cases e : i = k
    · subst e; exact h.2
    · exact ih h.1 (by omega)
theorem cmB_of {c : List Int} {k : Nat} (h : ∀ i, i < k → 1 ≤ gi c i ∧ gi c i < 1543) : cmB c k = true := by
  induction k with
  | zero => rfl
  | succ k ih => simp only [cmB, Bool.and_eq_true, decide_eq_true_eq]; exact ⟨ih fun i hi => h i (by omega), h k (by omega)⟩
theorem cmB_false {c : List Int} {k n : Nat} (h : ¬ (1 ≤ gi c k ∧ gi c k < 1543)) (hk : k < n) : cmB c n = false := by
  cases e : cmB c n with
  | false => rfl
  | true => exact absurd (cmB_at e hk) h

/-- is a share one of these? -/
def truB (c : List Int) (a i : Int) : Bool := PM.trO (gi c) a c.length == (64 : Int) ^ i.toNat % 1543

set_option maxHeartbeats 1600000 in
theorem true_any (A : Option Addr) (cap : Nat) (c : List Int) (a i : Int) (hl : c.length ≤ 7) (hcm : cmB c c.length = true) (ha : 0 ≤ a) (ha' : a < 257) (hi : 0 ≤ i) (hi' : i < 257) (w : World) (hI : Ints w A c) :
    Calls Tryd.prog 58 #[.slice A c.length cap, .agg #[.int .i64 a, .int .i64 i]] w fun e w' => e = .returned (.bool (truB c a i)) ∧ Below w.heap.size w w' := by
  have HC := Lib.hid hcm; clear hcm
  go_enter Tryd.func58, Tryd.ntmps58
  go_wp2_with fail
  go_loop [5, 6, 11] (fun o t j => ∃ k : Nat, k ≤ c.length ∧ j = .int .i64 k ∧ o = .int .i64 (PM.trO (gi c) a k) ∧ t = .int .i64 (PM.atT a k)) (fun _ _ j => c.length - (intOf j).toNat)
  case atStart => exact ⟨0, Nat.zero_le _, rfl, rfl, rfl⟩
  case round =>
    obtain ⟨k, hk, rfl, rfl, rfl⟩ := hrel
    obtain ⟨o0, o1⟩ := PM.trO_range (gi c) a k
    obtain ⟨t0, t1⟩ := PM.atT_range a k
    by_cases hlt : k < c.length
    · obtain ⟨b, off, rfl, hbl, hcell⟩ := hI.at_ hlt
      obtain ⟨c0, c1⟩ := cmB_at HC.out hlt
      have ho : PM.trO (gi c) a (k + 1) = PM.trO (gi c) a k * (gi c k ^ (PM.atT a k).toNat % 1543) % 1543 := rfl
      have ht : PM.atT a (k + 1) = PM.atT a k * a % 257 := rfl
      have HO := Lib.hid ho; have HT := Lib.hid ht; clear ho ht
      generalize PM.trO (gi c) a k = O at *
      generalize PM.atT a k = T at *
      obtain ⟨m1, m2⟩ := mul_bd (b := 1543) o0 o1 (show 0 ≤ gi c k ^ T.toNat % 1543 by omega) (by omega) (by omega)
      obtain ⟨m3, m4⟩ := mul_bd t0 t1 ha ha' (by omega)
      go_wp2_with (go_at_call 78; refine (raised_any (gi c k) T 1543 _ (by omega) (by omega) (by omega) c1 t0 (by omega)).mono ?_; rintro e w' ⟨rfl, rfl⟩)
      go_round
      case rel => exact ⟨k + 1, by omega, by go_num, by rw [HO.out], by rw [HT.out]⟩
      case measure => simp [intOf]; omega
    · obtain rfl : k = c.length := by omega
      have hv : truB c a i = (PM.trO (gi c) a c.length == (64 : Int) ^ i.toNat % 1543) := rfl
      have HV := Lib.hid hv; clear hv
      go_wp2_with (go_at_call 78; refine (raised_any 64 i 1543 _ (by omega) (by omega) (by omega) (by omega) hi (by omega)).mono ?_; rintro e w' ⟨rfl, rfl⟩)
      rw [HV.out]
      go_ret
      exact ⟨rfl, (by repeat (first | exact Below.refl _ _ | assumption | refine bal ?_ _ | refine bdn ?_ _ | refine bdr ?_ | refine bcl ?_ (by assumption)))⟩

theorem trO_congr (c d : Nat → Int) (x : Int) (k : Nat) (h : ∀ i, i < k → c i = d i) : PM.trO c x k = PM.trO d x k := by
  induction k with
  | zero => rfl
  | succ k ih => simp only [PM.trO]; rw [ih fun i hi => h i (by omega), h k (by omega)]
/-- A TRUE SHARE IS TOLD, A FALSE ONE CAUGHT -/
theorem truB_cmt (p : List Int) (hp : allIn p p.length = true) (a i : Int) (h0 : 0 ≤ i) (h1 : i < 257) : truB (cmt p) a i = (i == PM.hor p a) := by
  have hpos : ∀ j, 0 ≤ p.getD j 0 := fun j => by
    by_cases hj : j < p.length
    · exact (inB_true.1 (allIn_at hp hj)).1
    · simp [List.getD_eq_getElem?_getD, List.getElem?_eq_none (by omega : p.length ≤ j)]
  have h := PM.feldman p hpos a i h0 h1
  have hl : (cmt p).length = p.length := by simp [cmt]
  have e : PM.trO (gi (cmt p)) a (cmt p).length = PM.trO (fun j => (64 : Int) ^ (p.getD j 0).toNat % 1543) a p.length := by
    rw [hl]
    exact trO_congr _ _ _ _ fun j hj => by simp [gi, cmt, hj]
  rw [truB, e, Bool.eq_iff_iff]
  simp only [beq_iff_eq]
  exact h
/-- what commits there are, are right -/
theorem cmt_good (p : List Int) (k : Nat) (hk : k ≤ (cmt p).length) : cmB (cmt p) k = true := by
  refine cmB_of fun i hi => ?_
  have hil : i < p.length := by simp [cmt] at hk; omega
  have e : gi (cmt p) i = (64 : Int) ^ (gi p i).toNat % 1543 := by simp [gi, cmt, hil]
  rw [e]
  refine ⟨?_, by omega⟩
  have hn := PM.g_mod (gi p i).toNat
  rw [hn]
  have : ∀ m, m < 257 → 1 ≤ (64 : Int) ^ m % 1543 := by decide +kernel
  exact this _ (by omega)

/-- what Check says is wrong -/
def chkE (c : List Int) (a i : Int) : Int := if c.length = 0 then 5 else if 7 < c.length then 4 else if cmB c c.length = false then 1 else if (inB a && inB i) = false then 1 else 0
set_option maxHeartbeats 1600000 in
theorem check_no (A : Option Addr) (cap : Nat) (c : List Int) (a i : Int) (he : chkE c a i ≠ 0) (w : World) (hI : Ints w A c) :
    Calls Tryd.prog 61 #[.slice A c.length cap, .agg #[.int .i64 a, .int .i64 i]] w fun e w' => e = .returned (.tuple #[.bool false, errV (chkE c a i)]) ∧ Below w.heap.size w w' := by
  by_cases h0 : c.length = 0
  · have hz : ((c.length : Int) == 0) = true := by rw [h0]; rfl
    have hv : chkE c a i = 5 := by rw [chkE, if_pos h0]
    rw [hv]
    clear hv h0 he
    go_enter Tryd.func61, Tryd.ntmps61
    go_wp2_with fail
    go_ret2
    exact ⟨rfl, (by repeat (first | exact Below.refl _ _ | assumption | refine bal ?_ _ | refine bdn ?_ _ | refine bdr ?_ | refine bcl ?_ (by assumption)))⟩
  · have hz : ((c.length : Int) == 0) = false := beq_eq_false_iff_ne.2 (by omega)
    by_cases h7 : 7 < c.length
    · have hv : chkE c a i = 4 := by rw [chkE, if_neg h0, if_pos h7]
      rw [hv]
      clear hv h0 he
      go_enter Tryd.func61, Tryd.ntmps61
      go_wp2_with fail
      go_ret2
      exact ⟨rfl, (by repeat (first | exact Below.refl _ _ | assumption | refine bal ?_ _ | refine bdn ?_ _ | refine bdr ?_ | refine bcl ?_ (by assumption)))⟩
    · have hl : c.length ≤ 7 := by omega
      have HE := Lib.hid he; clear he
      have H0 := Lib.hid h0; clear h0
      have hv1 : cmB c c.length = false → chkE c a i = 1 := fun h => by rw [chkE, if_neg H0.out, if_neg h7, if_pos h]
      have hv2 : cmB c c.length = true → (inB a && inB i) = false ∧ chkE c a i = 1 := fun h => by
        have := HE.out
        rw [chkE, if_neg H0.out, if_neg h7, if_neg (by rw [h]; decide)] at this
        cases h2 : (inB a && inB i) with
        | true => rw [h2] at this; simp at this
        | false => exact ⟨rfl, by rw [chkE, if_neg H0.out, if_neg h7, if_neg (by rw [h]; decide), if_pos h2]⟩
      have V1 := Lib.hid hv1; have V2 := Lib.hid hv2; clear hv1 hv2
      go_enter Tryd.func61, Tryd.ntmps61
      go_wp2_with fail
      go_loop [20] (fun j => ∃ k : Nat, k ≤ c.length ∧ j = .int .i64 k ∧ Hid (cmB c k = true)) (fun j => c.length - (intOf j).toNat)
      case atStart => exact ⟨0, Nat.zero_le _, rfl, rfl⟩
      case round =>
        obtain ⟨k, hk, rfl, hcm⟩ := hrel
        by_cases hlt : k < c.length
        · obtain ⟨b, off, rfl, hbl, hcell⟩ := hI.at_ hlt
          by_cases hgood : 1 ≤ gi c k ∧ gi c k < 1543
          · have hn : cmB c (k + 1) = true := by simp only [cmB, hcm.out, Bool.true_and, Bool.and_eq_true, decide_eq_true_eq]; exact hgood
            have HN := Lib.hid hn; clear hn
            obtain ⟨g0, g1⟩ := hgood
            go_wp2_with fail
            go_round
            case rel => exact ⟨k + 1, by omega, by go_num, HN⟩
            case measure => simp [intOf]; omega
          · have hv := V1.out (cmB_false hgood hlt)
            have HV := Lib.hid hv; clear hv
            have hg : gi c k < 1 ∨ 1543 ≤ gi c k := by omega
            clear hgood
            rcases hg with hg | hg
            all_goals
              go_wp2_with fail
              all_goals rw [HV.out]
              all_goals go_ret2
              all_goals exact ⟨rfl, (by repeat (first | exact Below.refl _ _ | assumption | refine bal ?_ _ | refine bdn ?_ _ | refine bdr ?_ | refine bcl ?_ (by assumption)))⟩
        · obtain rfl : k = c.length := by omega
          obtain ⟨hab, hv⟩ := V2.out hcm.out
          have HV := Lib.hid hv; clear hv
          rw [Bool.and_eq_false_iff] at hab
          rcases hab with ha | hi
          · go_wp2_with (go_at_call 57; refine (in_any _ _).mono ?_; rintro e w' ⟨rfl, rfl⟩)
            rw [HV.out]
            go_ret2
            exact ⟨rfl, (by repeat (first | exact Below.refl _ _ | assumption | refine bal ?_ _ | refine bdn ?_ _ | refine bdr ?_ | refine bcl ?_ (by assumption)))⟩
          · cases ha : inB a
            all_goals
              go_wp2_with (go_at_call 57; refine (in_any _ _).mono ?_; rintro e w' ⟨rfl, rfl⟩)
              rw [HV.out]
              go_ret2
              exact ⟨rfl, (by repeat (first | exact Below.refl _ _ | assumption | refine bal ?_ _ | refine bdn ?_ _ | refine bdr ?_ | refine bcl ?_ (by assumption)))⟩
theorem chkE_zero {c : List Int} {a i : Int} (h : chkE c a i = 0) : 0 < c.length ∧ c.length ≤ 7 ∧ cmB c c.length = true ∧ inB a = true ∧ inB i = true := by
  unfold chkE at h
  split at h
  · cases h
  · split at h
    · cases h
    · split at h
      · cases h
      · split at h
        · cases h
        · rename_i h1 h2 h3 h4
          have h5 : cmB c c.length = true := by simpa using h3
          have h6 : (inB a && inB i) = true := by simpa using h4
          rw [Bool.and_eq_true] at h6
          exact ⟨by omega, by omega, h5, h6.1, h6.2⟩
theorem chkE_of {c : List Int} {a i : Int} (h0 : 0 < c.length) (h1 : c.length ≤ 7) (h2 : cmB c c.length = true) (h3 : inB a = true) (h4 : inB i = true) : chkE c a i = 0 := by
  rw [chkE, if_neg (by omega), if_neg (by omega), if_neg (by rw [h2]; decide), if_neg (by rw [h3, h4]; decide)]
set_option maxHeartbeats 1600000 in
theorem check_ok (A : Option Addr) (cap : Nat) (c : List Int) (a i : Int) (he : chkE c a i = 0) (w : World) (hI : Ints w A c) :
    Calls Tryd.prog 61 #[.slice A c.length cap, .agg #[.int .i64 a, .int .i64 i]] w fun e w' => e = .returned (.tuple #[.bool (truB c a i), .nilIface]) ∧ Below w.heap.size w w' := by
  obtain ⟨h0, hl, hcm, ha, hi⟩ := chkE_zero he
  obtain ⟨a0, a1⟩ := inB_true.1 ha
  obtain ⟨i0, i1⟩ := inB_true.1 hi
  have ct := fun W (hW : Ints W A c) => true_any A cap c a i hl hcm a0 a1 i0 i1 W hW
  have CT := Lib.hid ct; have HC := Lib.hid hcm; clear ct hcm he
  have hz : ((c.length : Int) == 0) = false := beq_eq_false_iff_ne.2 (by omega)
  go_enter Tryd.func61, Tryd.ntmps61
  go_wp2_with fail
  go_loop [20] (fun j => ∃ k : Nat, k ≤ c.length ∧ j = .int .i64 k ∧ Hid (cmB c k = true)) (fun j => c.length - (intOf j).toNat)
  case atStart => exact ⟨0, Nat.zero_le _, rfl, rfl⟩
  case round =>
    obtain ⟨k, hk, rfl, hT⟩ := hrel
    by_cases hlt : k < c.length
    · obtain ⟨b, off, rfl, hbl, hcell⟩ := hI.at_ hlt
      obtain ⟨g0, g1⟩ := cmB_at HC.out hlt
      have hn : cmB c (k + 1) = true := cmB_of fun i hi => cmB_at HC.out (by omega)
      have HN := Lib.hid hn; clear hn
      go_wp2_with fail
      go_round
      case rel => exact ⟨k + 1, by omega, by go_num, HN⟩
      case measure => simp [intOf]; omega
    · obtain rfl : k = c.length := by omega
      go_wp2_with (first | (go_at_call 57; refine (in_any _ _).mono ?_; rintro e w' ⟨rfl, rfl⟩) | (go_at_call 58; refine (CT.out _ (Sl.alloc hI _)).mono ?_; rintro e w1 ⟨rfl, hb1⟩))
      go_ret2
      exact ⟨rfl, (by repeat (first | exact Below.refl _ _ | assumption | refine bal ?_ _ | refine bdn ?_ _ | refine bdr ?_ | refine bcl ?_ (by assumption)))⟩
end Go.Proofs.YtamndgeeibfmhaaDoor
