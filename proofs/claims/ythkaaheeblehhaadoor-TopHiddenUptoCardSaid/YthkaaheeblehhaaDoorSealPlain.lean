/- What the shares of a text give back: plain laws for SealBack. -/
import Derived.Test.YthkaaheeblehhaaDoorSeal
import Derived.Test.YthkaaheeblehhaaDoorHidesPlain
namespace Go.Proofs.YthkaaheeblehhaaDoor
open Go.RowKit
set_option linter.unusedVariables false

theorem first_bad (p : Nat → Prop) (n : Nat) : ∃ K, K ≤ n ∧ (∀ i, i < K → p i) ∧ (K = n ∨ ¬ p K) := by
  induction n with
  | zero => exact ⟨0, Nat.le_refl _, fun i h => absurd h (by omega), .inl rfl⟩
  | succ n ih =>
    obtain ⟨K, h1, h2, h3⟩ := ih
    rcases h3 with rfl | h3
    · by_cases h : p K
      · exact ⟨K + 1, Nat.le_refl _, fun i hi => by
          rcases Nat.lt_or_ge i K with h4 | h4
          · exact h2 i h4
          · obtain rfl : i = K := by omega
            exact h, .inl rfl⟩
      · exact ⟨K, by omega, h2, .inr h⟩
    · exact ⟨K, by omega, h2, .inr h3⟩

def mid (p : List Int) (n f need : Nat) : List Sh := ((dealL p n).drop f).take need
theorem mid_length {p : List Int} {n f need : Nat} (h : f + need ≤ n) : (mid p n f need).length = need := by
  simp [mid, dealL_length]; omega
theorem mid_at {p : List Int} {n f need : Nat} (h : f + need ≤ n) {i : Nat} (hi : i < need) : ga (mid p n f need) i = (((f + i) + 1 : Nat) : Int) ∧ gb (mid p n f need) i = PM.hor p (((f + i) + 1 : Nat) : Int) := by
  have e : (mid p n f need).getD i (0, 0) = (dealL p n).getD (f + i) (0, 0) := by
    simp only [mid, List.getD_eq_getElem?_getD, List.getElem?_take, List.getElem?_drop]
    rw [if_pos hi]
  constructor
  · rw [ga, e]; exact deal_ga p n (f + i) (by omega)
  · rw [gb, e]; exact deal_gb p n (f + i) (by omega)
theorem mid_pts {p : List Int} {n f need : Nat} (h : f + need ≤ n) (hn : n ≤ 7) : PM.Pts (ga (mid p n f need)) (gb (mid p n f need)) need where
  xr i hi := by rw [(mid_at h hi).1]; omega
  yr i hi := by rw [(mid_at h hi).2]; exact PM.hor_range _ _
  ne i j hi hj hne := by rw [(mid_at h hi).1, (mid_at h hj).1]; omega
theorem mid_back {s : Int} {r : List Int} {n f need : Nat} (s0 : 0 ≤ s) (s1 : s < 257) (h : f + need ≤ n) (hn : n ≤ 7) (h1 : 1 ≤ need) (hr : r.length + 1 ≤ need) :
    joE (mid (s :: r) n f need) need = 0 ∧ thrL ((mid (s :: r) n f need).take need) 0 = s := by
  have hl := mid_length (p := s :: r) h
  have hp := mid_pts (p := s :: r) h hn
  have htk : (mid (s :: r) n f need).take need = mid (s :: r) n f need := List.take_of_length_le (by omega)
  constructor
  · have hpo := poi_of (l := mid (s :: r) n f need) (by omega) (by omega) (by rw [hl]; exact hp)
    rw [joE, if_neg (by rw [manB_true.2 ⟨by omega, by omega⟩]; decide), if_neg (by rw [hpo]; decide), if_neg (by omega)]
  · rw [htk, thrL, hl, PM.thr_hor hp (s :: r) (by simpa using hr) (fun i hi => by rw [(mid_at h hi).1, (mid_at h hi).2])]
    simp only [PM.hor]; rw [Int.mul_zero, Int.zero_add]; exact Int.emod_eq_of_lt s0 s1

/-- the greatest number of factors, of the first k -/
def nd (rest : List (List Int)) : Nat → Nat
  | 0 => 1
  | k + 1 => if nd rest k < (gg rest k).length + 1 then (gg rest k).length + 1 else nd rest k
theorem nd_pos (rest : List (List Int)) (k : Nat) : 1 ≤ nd rest k := by
  induction k with
  | zero => exact Nat.le_refl _
  | succ k ih => rw [nd]; split <;> omega
theorem nd_ge (rest : List (List Int)) (k i : Nat) (hi : i < k) : (gg rest i).length + 1 ≤ nd rest k := by
  induction k with
  | zero => omega
  | succ k ih =>
    rw [nd]
    rcases Nat.lt_or_ge i k with h | h
    · have := ih h; split <;> omega
    · obtain rfl : i = k := by omega
      split <;> omega
theorem nd_le (rest : List (List Int)) (k b : Nat) (hb : 1 ≤ b) (h : ∀ i, i < k → (gg rest i).length + 1 ≤ b) : nd rest k ≤ b := by
  induction k with
  | zero => exact hb
  | succ k ih =>
    rw [nd]
    have := ih fun i hi => h i (by omega)
    have := h k (by omega)
    split <;> omega

def midL (t : ByteArray) (rest : List (List Int)) (n f need k : Nat) : List (List Sh) := (List.range k).map fun i => mid (gB t i :: gg rest i) n f need
theorem midL_succ (t : ByteArray) (rest : List (List Int)) (n f need k : Nat) : midL t rest n f need (k + 1) = midL t rest n f need k ++ [mid (gB t k :: gg rest k) n f need] := by simp [midL, List.range_succ]
theorem midL_length (t : ByteArray) (rest : List (List Int)) (n f need k : Nat) : (midL t rest n f need k).length = k := by simp [midL]
theorem midL_at (t : ByteArray) (rest : List (List Int)) (n f need k i : Nat) (h : i < k) : gg (midL t rest n f need k) i = mid (gB t i :: gg rest i) n f need := by simp [gg, midL, h]
theorem sealL_at (t : ByteArray) (rest : List (List Int)) (n k i : Nat) (h : i < k) : gg (sealL t rest n k) i = dealL (gB t i :: gg rest i) n := by simp [gg, sealL, h]

theorem back_text (t : ByteArray) (rest : List (List Int)) (n f need : Nat) (h : f + need ≤ n) (hn : n ≤ 7) (h1 : 1 ≤ need) (hr : ∀ i, i < t.size → (gg rest i).length + 1 ≤ need) :
    (∀ i, i < t.size → oE (midL t rest n f need t.size) need i = 0) ∧ (⟨(openL (midL t rest n f need t.size) need t.size).toArray⟩ : ByteArray) = t := by
  have hv : ∀ i, i < t.size → joE (gg (midL t rest n f need t.size) i) need = 0 ∧ oV (midL t rest n f need t.size) need i = gB t i := fun i hi => by
    obtain ⟨g0, g1⟩ := gB_range t i
    have := mid_back (s := gB t i) (r := gg rest i) g0 (by omega) h hn h1 (hr i hi)
    rw [oV, midL_at _ _ _ _ _ _ _ hi]
    exact this
  refine ⟨fun i hi => ?_, ?_⟩
  · obtain ⟨v1, v2⟩ := hv i hi
    have := gB_range t i
    rw [oE, if_neg (by rw [v1]; decide), if_neg (by omega)]
  · have hd : (openL (midL t rest n f need t.size) need t.size).toArray = t.data := by
      apply Array.ext
      · simp [openL_length]
      · intro i h1 h2
        have hi : i < t.size := h2
        simp only [openL, List.getElem_toArray, List.getElem_map, List.getElem_range, oB, (hv i hi).2, gB_lt hi]
        simp
        rfl
    rw [hd]
theorem Shares.drop {w : World} {A : Option Addr} {l : List Sh} (h : Shares w A l) {i : Nat} (hi : i < l.length) : ∃ b off, A = some ⟨b, off, none⟩ ∧ b < w.heap.size ∧ Shares w (some ⟨b, off + i * 2, none⟩) (l.drop i) := by
  obtain ⟨b, off, e, hb, hc⟩ := h (by omega)
  refine ⟨b, off, e, hb, fun _ => ⟨b, off + i * 2, rfl, hb, fun j hj k hk => ?_⟩⟩
  have := hc (i + j) (by simp at hj; omega) k hk
  rw [Nat.add_mul, ← Nat.add_assoc] at this
  rw [this]
  simp [shc, ga, gb]

/-- either it is an error, whatever the world, or each byte is dealt -/
theorem seal_split (t : ByteArray) (A : Option Addr) (cap : Nat) (rest : List (List Int)) (m : Int) (hm : t.size ≤ maxLen) (hr : rest.length ≤ maxLen) :
    (∀ w, Many Ints w A rest → Calls Tryd.prog 26 #[.string t, .slice A rest.length cap, .int .i64 m] w fun e w' => Below w.heap.size w w' ∧ ∃ E, e = .returned (.tuple #[.slice none 0 0, errV E])) ∨
    (t.size ≤ 12 ∧ rest.length = t.size ∧ (∀ i, i < t.size → shE (gB t i) (gg rest i) m = 0) ∧ ∀ w, Many Ints w A rest → Calls Tryd.prog 26 #[.string t, .slice A rest.length cap, .int .i64 m] w fun e w' =>
      Below w.heap.size w w' ∧ ∃ A' c', e = .returned (.tuple #[.slice A' t.size c', .nilIface]) ∧ OSharess w' w.heap.size A' c' (sealL t rest m.toNat t.size)) := by
  by_cases h1 : 12 < t.size
  · refine .inl fun w hA => (seal_no t A cap rest m (errV 4) w (.inl ⟨h1, rfl⟩) hm hr).mono ?_
    rintro e w' ⟨rfl, rfl⟩
    exact ⟨Below.refl _ _, _, rfl⟩
  · by_cases h2 : rest.length = t.size
    · obtain ⟨K, hK, hok, hend⟩ := first_bad (fun i => shE (gB t i) (gg rest i) m = 0) t.size
      by_cases h3 : K = t.size
      · subst h3
        refine .inr ⟨by omega, h2, hok, fun w hA => (seal_any t A cap rest m (by omega) h2 _ hK hok hend w hA).mono ?_⟩
        rintro e w' ⟨hb, ⟨-, A', c', rfl, ho⟩ | ⟨h, -⟩⟩
        · exact ⟨hb, A', c', rfl, ho⟩
        · omega
      · refine .inl fun w hA => (seal_any t A cap rest m (by omega) h2 K hK hok hend w hA).mono ?_
        rintro e w' ⟨hb, ⟨h, -⟩ | ⟨-, rfl⟩⟩
        · exact absurd h h3
        · exact ⟨hb, _, rfl⟩
    · refine .inl fun w hA => (seal_no t A cap rest m (errV 3) w (.inr ⟨by omega, h2, rfl⟩) hm hr).mono ?_
      rintro e w' ⟨rfl, rfl⟩
      exact ⟨Below.refl _ _, _, rfl⟩
/-- one slice, written out, in a new block -/
theorem one_many {α : Type} {Q : World → Option Addr → List α → Prop} (w : World) (B : Option Addr) (l : List α) (C : Nat) (t : TypeId) {g : Nat} (hg : g = w.heap.size) (hq : Q (w.alloc (.cells #[.slice B l.length C] t)) B l) (h1 : l.length ≤ C) (h2 : C ≤ maxLen) :
    Many Q (w.alloc (.cells #[.slice B l.length C] t)) (some ⟨g, 0, none⟩) [l] := by
  subst hg
  refine ⟨fun _ => B, fun _ => C, fun _ => ⟨w.heap.size, 0, rfl, by simp, fun i hi j hj => ?_⟩, fun i hi => ?_⟩
  · obtain rfl : i = 0 := by simpa using hi
    obtain rfl : j = 0 := by omega
    simp [gg]
  · obtain rfl : i = 0 := by simpa using hi
    exact ⟨hq, h1, h2⟩
end Go.Proofs.YthkaaheeblehhaaDoor
