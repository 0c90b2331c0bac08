/- poly.Points, Through, At, Next, Zero: what each returns. -/
import Derived.Test.YthkaaheeblehhaaDoorPolyIs
import Derived.Test.YthkaaheeblehhaaDoorFind
namespace Go.Proofs.YthkaaheeblehhaaDoor
open Go.RowKit
set_option linter.unusedVariables false

/-! ### slices.ContainsFunc at Points' own closure -/
/-- the closure: is this point's place the one that s holds? -/
theorem ptclos_any (a b c : Int) (B : Nat) (w : World) (hB : w.cell? ⟨B, 0, none⟩ = some (.int .i64 c)) :
    Calls Tryd.prog 112 #[.agg #[.int .i64 a, .int .i64 b], .pointer (some ⟨B, 0, none⟩)] w fun e w' => e = .returned (.bool (a == c)) ∧ Below w.heap.size w w' := by
  have hlt : B < w.heap.size := lt_of_cell hB
  go_enter Tryd.func112, Tryd.ntmps112
  go_wp2
  go_ret
  exact ⟨rfl, (by repeat (first | exact Below.refl _ _ | assumption | refine bal ?_ _ | refine bdn ?_ _ | refine bdr ?_ | refine bcl ?_ (by assumption)))⟩

set_option maxHeartbeats 800000 in
theorem shidx_any (A : Option Addr) (cap : Nat) (l : List Sh) (n : Nat) (hn : n ≤ l.length) (hm : n ≤ maxLen) (g : FuncId) (cb : Array Value) (p : Nat → Bool) (w : World) (hA : Shares w A l)
    (hp : ∀ W, Below w.heap.size w W → ∀ i, i < n → Calls Tryd.prog g (#[.agg #[.int .i64 (ga l i), .int .i64 (gb l i)]] ++ cb) W fun e w' => e = .returned (.bool (p i)) ∧ Below W.heap.size W w')
    (hg : ∀ args w, (callFunc g args).run Tryd.prog w = .ok (.enter g args) w) :
    Calls Tryd.prog 97 #[.slice A n cap, .func (.func g) #[] cb] w fun e w' => e = .returned (.int .i64 (idx p n)) ∧ Below w.heap.size w w' := by
  have HP := Lib.hid hp; clear hp
  unfold maxLen at hm
  go_enter Tryd.func97, Tryd.ntmps97
  go_wp2_with fail
  go_loopw [8] (fun i wr => ∃ k : Nat, k ≤ n ∧ i = .int .i64 k ∧ Hid (fst' p k = none) ∧ Below w.heap.size w wr) (fun i _ => n - (intOf i).toNat)
  case atStart => exact ⟨0, Nat.zero_le _, rfl, rfl, Below.refl _ _⟩
  case round =>
    obtain ⟨k, hk, rfl, hf, hb⟩ := hrel
    by_cases hlt : k < n
    · obtain ⟨b, off, rfl, hbl, hc1, hc2⟩ := (hA.below hb (Nat.le_refl _)).at_ (i := k) (by omega)
      cases hpk : p k with
      | true =>
        have hi : idx p n = (k : Int) := idx_some (k := k + 1) (by simp only [fst', hf.out, hpk, if_true]) (by omega)
        have HI := Lib.hid hi; clear hi
        have hc := HP.out wr hb k hlt
        rw [hpk] at hc
        have HC := Lib.hid hc; clear hc hpk
        go_wp2_with fail
        refine HC.out.mono ?_
        rintro e w1 ⟨rfl, hb1⟩
        go_wp2_with fail
        rw [HI.out]
        go_ret
        exact ⟨rfl, bcl hb hb1⟩
      | false =>
        have hn' : fst' p (k + 1) = none := by simp [fst', hf.out, hpk]
        have HN := Lib.hid hn'; clear hn'
        have hc := HP.out wr hb k hlt
        rw [hpk] at hc
        have HC := Lib.hid hc; clear hc hpk
        go_wp2_with fail
        refine HC.out.mono ?_
        rintro e w1 ⟨rfl, hb1⟩
        go_wp2_with fail
        go_roundw
        case rel => exact ⟨k + 1, by omega, by go_num, HN, bcl hb hb1⟩
        case measure => simp [intOf]; omega
    · obtain rfl : k = n := by omega
      have HI := Lib.hid (idx_none hf.out)
      go_wp2_with fail
      rw [HI.out]
      go_ret
      exact ⟨rfl, hb⟩

theorem wasB_fst (l : List Sh) (x : Int) (n : Nat) : wasB l x n = decide (0 ≤ idx (fun i => ga l i == x) n) := by
  have h : ∀ n, (wasB l x n = true ↔ fst' (fun i => ga l i == x) n ≠ none) := by
    intro n
    induction n with
    | zero => simp [wasB, fst']
    | succ n ih =>
      simp only [wasB, fst', Bool.or_eq_true]
      cases hf : fst' (fun i => ga l i == x) n with
      | some i => rw [hf] at ih; simp [ih]
      | none =>
        rw [hf] at ih
        by_cases h2 : (ga l n == x) = true
        · simp [h2]
        · have : ¬ wasB l x n = true := by rw [ih]; simp
          simp [h2, this]
  have hn := h n
  cases hf : fst' (fun i => ga l i == x) n with
  | some i => rw [hf] at hn; rw [idx, hf, hn.2 (by simp)]; simp
  | none =>
    rw [hf] at hn
    have : wasB l x n = false := by rw [← Bool.not_eq_true, hn]; simp
    rw [this, idx, hf]; rfl

/-- ContainsFunc, asked by Points: was the place of point i there? -/
theorem shcon_any (A : Option Addr) (cap : Nat) (l : List Sh) (n : Nat) (hn : n ≤ l.length) (hm : n ≤ maxLen) (x : Int) (B : Nat) (w : World) (hA : Shares w A l) (hB : w.cell? ⟨B, 0, none⟩ = some (.int .i64 x)) :
    Calls Tryd.prog 69 #[.slice A n cap, .func (.func 112) #[] #[.pointer (some ⟨B, 0, none⟩)]] w fun e w' => e = .returned (.bool (wasB l x n)) ∧ Below w.heap.size w w' := by
  have hlt : B < w.heap.size := lt_of_cell hB
  have hc := shidx_any A cap l n hn hm 112 #[.pointer (some ⟨B, 0, none⟩)] (fun i => ga l i == x) w hA
    (fun W hb i hi => ptclos_any (ga l i) (gb l i) x B W ((hb.cell (p := ⟨B, 0, none⟩) hlt).trans hB)) (enters_of Tryd.func112 (by kernel_rfl) rfl)
  have hw := wasB_fst l x n
  rw [hw]
  generalize idx (fun i => ga l i == x) n = z at hc
  have HC := Lib.hid hc; clear hc hw hA hB
  go_enter Tryd.func69, Tryd.ntmps69
  go_wp2_with fail
  refine HC.out.mono ?_
  rintro e w1 ⟨rfl, hb1⟩
  go_wp2_with fail
  go_ret
  exact ⟨rfl, hb1⟩

set_option maxHeartbeats 1600000 in
theorem points_any (A : Option Addr) (cap : Nat) (l : List Sh) (hc0 : l.length ≤ cap) (hcm : cap ≤ maxLen) (w : World) (hA : Shares w A l) :
    Calls Tryd.prog 94 #[.slice A l.length cap] w fun e w' => e = .returned (eV (poiE l)) ∧ Below w.heap.size w w' := by
  unfold maxLen at hcm
  by_cases h0 : l.length = 0
  · have hv : eV (poiE l) = errV 5 := by rw [poiE, if_pos h0]; rfl
    rw [hv]
    have hz : ((l.length : Int) == 0) = true := by rw [h0]; rfl
    clear hv h0
    go_enter Tryd.func94, Tryd.ntmps94
    go_wp2
    go_ret
    exact ⟨rfl, Below.refl _ _⟩
  · have hz : ((l.length : Int) == 0) = false := beq_eq_false_iff_ne.2 (by omega)
    by_cases hl : 7 < l.length
    · have hv : eV (poiE l) = errV 4 := by rw [poiE, if_neg h0, if_pos hl]; rfl
      rw [hv]
      clear hv h0
      go_enter Tryd.func94, Tryd.ntmps94
      go_wp2
      go_ret
      exact ⟨rfl, Below.refl _ _⟩
    · have hl7 : l.length ≤ 7 := by omega
      have hv : poiE l = ptE l l.length := by rw [poiE, if_neg h0, if_neg hl]
      rw [hv]
      clear hv h0 hl
      go_enter Tryd.func94, Tryd.ntmps94
      go_wp2_with fail
      go_loopw [17] (fun i wr => ∃ k : Nat, k ≤ l.length ∧ i = .int .i64 k ∧ Hid (ptE l k = 0) ∧ Below w.heap.size w wr) (fun i _ => l.length - (intOf i).toNat)
      case atStart => exact ⟨0, Nat.zero_le _, rfl, rfl, Below.refl _ _⟩
      case round =>
        obtain ⟨k, hk, rfl, hp, hb⟩ := hrel
        by_cases hlt : k < l.length
        · have hS := hA.below hb (Nat.le_refl _)
          obtain ⟨b, off, rfl, hbl, hc1, hc2⟩ := hS.at_ (i := k) (by omega)
          have hbz := hb.size
          cases hpin : pinB l k with
          | false =>
            have he : ptE l l.length = 1 := by
              have h1 : ptE l (k + 1) = 1 := by simp [ptE, hp.out, hpin]
              rw [ptE_stay (k := k + 1) (by rw [h1]; decide) (by omega), h1]
            have HE := Lib.hid he; clear he
            rw [pinB, Bool.and_eq_false_iff] at hpin
            rcases hpin with hpa | hpa
            · go_wp2_with (go_at_call 72; refine (in_any _ _).mono ?_; rintro e w' ⟨rfl, rfl⟩)
              rw [HE.out]
              go_ret
              exact ⟨rfl, bal hb _⟩
            · cases hpb : inB (ga l k)
              all_goals
                go_wp2_with (go_at_call 72; refine (in_any _ _).mono ?_; rintro e w' ⟨rfl, rfl⟩)
                rw [HE.out]
                go_ret
                exact ⟨rfl, bal hb _⟩
          | true =>
            have hpin2 := hpin
            rw [pinB, Bool.and_eq_true] at hpin2
            obtain ⟨hpa, hpb⟩ := hpin2
            have hcon := shcon_any (some ⟨b, off, none⟩) cap l k (by omega) (by unfold maxLen; omega) (ga l k) wr.heap.size (wr.alloc (.cells #[.int .i64 (ga l k), .int .i64 (gb l k)] 82)) (Sl.alloc hS _) (by simp)
            have HS := Lib.hid hS; clear hS
            cases hwas : wasB l (ga l k) k with
            | true =>
              have he : ptE l l.length = 7 := by
                have h1 : ptE l (k + 1) = 7 := by simp [ptE, hp.out, hpin, hwas]
                rw [ptE_stay (k := k + 1) (by rw [h1]; decide) (by omega), h1]
              have HE := Lib.hid he; clear he
              rw [hwas] at hcon
              have HC := Lib.hid hcon; clear hcon hwas hpin
              go_wp2_with (go_at_call 72; refine (in_any _ _).mono ?_; rintro e w' ⟨rfl, rfl⟩)
              refine HC.out.mono ?_
              rintro e w1 ⟨rfl, hb1⟩
              go_wp2_with fail
              rw [HE.out]
              go_ret
              exact ⟨rfl, bcl (bal hb _) hb1⟩
            | false =>
              have he : ptE l (k + 1) = 0 := by simp [ptE, hp.out, hpin, hwas]
              have HE := Lib.hid he; clear he
              rw [hwas] at hcon
              have HC := Lib.hid hcon; clear hcon hwas hpin
              go_wp2_with (go_at_call 72; refine (in_any _ _).mono ?_; rintro e w' ⟨rfl, rfl⟩)
              refine HC.out.mono ?_
              rintro e w1 ⟨rfl, hb1⟩
              go_wp2_with fail
              go_roundw
              case rel => exact ⟨k + 1, by omega, by go_num, HE, bcl (bal hb _) hb1⟩
              case measure => simp [intOf]; omega
        · obtain rfl : k = l.length := by omega
          have HP := Lib.hid hp.out
          go_wp2_with fail
          rw [HP.out]
          go_ret
          exact ⟨rfl, hb⟩
end Go.Proofs.YthkaaheeblehhaaDoor
