/- LeasePlays: the plain law. -/
import Derived.Test.YthpemlhlgjdnkaaDoorLeLaw
namespace Go.Proofs.YthpemlhlgjdnkaaDoor
open Go.RowKit
set_option linter.unusedVariables false

/-- the numbers grow, and last is not yet behind -/
def Inc (L : List On) (last : Int) : Prop := L.Pairwise (fun a b => a.id < b.id) ∧ ∀ x ∈ L, x.id ≤ last
theorem Inc.nil (n : Int) : Inc [] n := ⟨List.Pairwise.nil, fun x hx => by simp at hx⟩
theorem Inc.filter {L : List On} {last : Int} (h : Inc L last) (p : On → Bool) : Inc (L.filter p) last := ⟨h.1.filter p, fun x hx => h.2 x (List.mem_filter.1 hx).1⟩
theorem Inc.app {L : List On} {last : Int} (h : Inc L last) (u : Int) (t : List Va) : Inc (L ++ [⟨last + 1, u, t⟩]) (last + 1) := by
  refine ⟨List.pairwise_append.2 ⟨h.1, List.pairwise_singleton _ _, fun a ha b hb => ?_⟩, fun x hx => ?_⟩
  · rw [List.mem_singleton] at hb; subst hb
    have := h.2 a ha
    show a.id < last + 1
    omega
  · rcases List.mem_append.1 hx with hx | hx
    · have := h.2 x hx; omega
    · rw [List.mem_singleton] at hx; subst hx; exact Int.le_refl _
theorem Inc.lt {L : List On} {last : Int} (h : Inc L last) {i j : Nat} (hij : i < j) (hj : j < L.length) : (ong L i).id < (ong L j).id := by
  have := List.pairwise_iff_getElem.1 h.1 i j (by omega) hj hij
  simpa [ong, List.getD_eq_getElem?_getD, List.getElem?_eq_getElem hj, List.getElem?_eq_getElem (show i < L.length by omega)] using this
theorem Inc.one {L : List On} {last : Int} (h : Inc L last) {i j : Nat} (hi : i < L.length) (hj : j < L.length) (e : (ong L i).id = (ong L j).id) : i = j := by
  rcases Nat.lt_trichotomy i j with k | k | k
  · have := h.lt k hj; omega
  · exact k
  · have := h.lt k hi; omega
theorem Inc.lat {L : List On} {last : Int} (h : Inc L last) {i : Nat} (hi : i < L.length) (x : Int) : (ong L i).id = x ↔ lat L x = (i : Int) := by
  constructor
  · intro e
    rcases Int.lt_or_le (Go.Proofs.YthpemlhlgjdnkaaDoor.lat L x) 0 with hz | hz
    · have := idx_neg.1 hz i hi
      simp [e] at this
    · obtain ⟨j, h1, h2, h3, _⟩ := idx_at hz
      have h3 : (ong L j).id = x := of_decide_eq_true h3
      have := h.one hi h2 (e.trans h3.symm)
      subst this
      exact h1
  · intro e
    obtain ⟨j, h1, h2, h3, _⟩ := idx_at (p := fun i => decide ((ong L i).id = x)) (n := L.length) (by show 0 ≤ Go.Proofs.YthpemlhlgjdnkaaDoor.lat L x; omega)
    have h1 : Go.Proofs.YthpemlhlgjdnkaaDoor.lat L x = (j : Int) := h1
    obtain rfl : j = i := by omega
    exact of_decide_eq_true h3
theorem gi_id {L : List On} {i : Nat} (h : i < L.length) : gi (L.map On.id) i = (ong L i).id := by simp [gi, ong, List.getD_eq_getElem?_getD, List.getElem?_eq_getElem h]
theorem gi_un {L : List On} {i : Nat} (h : i < L.length) : gi (L.map On.un) i = (ong L i).un := by simp [gi, ong, List.getD_eq_getElem?_getD, List.getElem?_eq_getElem h]
theorem gg_t {L : List On} {i : Nat} (h : i < L.length) : gg (L.map On.t) i = (ong L i).t := by simp [gg, ong, List.getD_eq_getElem?_getD, List.getElem?_eq_getElem h]
theorem set_ong {L : List On} {k : Nat} (h : k < L.length) (u : Int) (f : On → Int) (hf : f ⟨(ong L k).id, u, (ong L k).t⟩ = f (ong L k)) : (L.set k ⟨(ong L k).id, u, (ong L k).t⟩).map f = L.map f := by
  rw [List.map_set, hf]
  apply List.ext_getElem (by simp)
  intro i h1 h2
  rw [List.getElem_set]
  split
  · rename_i e; subst e; simp [ong, List.getD_eq_getElem?_getD, List.getElem?_eq_getElem h]
  · rfl
theorem set_ong_t {L : List On} {k : Nat} (h : k < L.length) (u : Int) : (L.set k ⟨(ong L k).id, u, (ong L k).t⟩).map On.t = L.map On.t := by
  rw [List.map_set]
  apply List.ext_getElem (by simp)
  intro i h1 h2
  rw [List.getElem_set]
  split
  · rename_i e; subst e; simp [ong, List.getD_eq_getElem?_getD, List.getElem?_eq_getElem h]
  · rfl
theorem lat_lt {L : List On} {x : Int} (h : 0 ≤ lat L x) : (lat L x).toNat < L.length := by
  obtain ⟨j, h1, h2, _⟩ := idx_at (p := fun i => decide ((ong L i).id = x)) (n := L.length) h
  have h1 : lat L x = (j : Int) := h1
  omega
theorem lrE_zero {T : Int} {L : List On} {x u : Int} (h : lrE T L x u = 0) : 0 ≤ lat L x := by
  unfold lrE at h
  split at h
  · cases h
  · omega
theorem lrL_id (T : Int) (L : List On) (x u : Int) : (lrL T L x u).map On.id = L.map On.id := by
  unfold lrL
  split
  · rename_i h; exact set_ong (lat_lt (lrE_zero h)) u On.id rfl
  · rfl
theorem lrL_t (T : Int) (L : List On) (x u : Int) : (lrL T L x u).map On.t = L.map On.t := by
  unfold lrL
  split
  · rename_i h; exact set_ong_t (lat_lt (lrE_zero h)) u
  · rfl
theorem lrL_len (T : Int) (L : List On) (x u : Int) : (lrL T L x u).length = L.length := by
  have := congrArg List.length (lrL_id T L x u); simpa using this
theorem lrL_inc {T : Int} {L : List On} {x u last : Int} (h : Inc L last) : Inc (lrL T L x u) last := by
  have h1 := lrL_id T L x u
  refine ⟨?_, fun y hy => ?_⟩
  · have : (L.map On.id).Pairwise (· < ·) := List.pairwise_map.2 h.1
    rw [← h1] at this
    exact List.pairwise_map.1 this
  · have : y.id ∈ (lrL T L x u).map On.id := List.mem_map_of_mem hy
    rw [h1] at this
    obtain ⟨z, hz, e⟩ := List.mem_map.1 this
    rw [← e]; exact h.2 z hz
/-- Renew, told by the law's slices: behind the first k -/
def rnE (T : Int) (L : List On) (x u : Int) (k : Nat) : Int := if 0 ≤ lat L x ∧ lat L x < k then lrE T L x u else 5
def rnU (T : Int) (L : List On) (x u : Int) (k : Nat) : List Int := if 0 ≤ lat L x ∧ lat L x < k then (lrL T L x u).map On.un else L.map On.un
theorem rn_zero (T : Int) (L : List On) (x u : Int) : rnE T L x u 0 = 5 ∧ rnU T L x u 0 = L.map On.un := by
  have h : ¬ (0 ≤ lat L x ∧ lat L x < ((0 : Nat) : Int)) := by omega
  exact ⟨by rw [rnE, if_neg h], by rw [rnU, if_neg h]⟩
theorem rn_end (T : Int) (L : List On) (x u : Int) : rnE T L x u L.length = lrE T L x u ∧ rnU T L x u L.length = (lrL T L x u).map On.un := by
  by_cases h : 0 ≤ lat L x
  · have h2 := lat_lt h
    have h3 : 0 ≤ lat L x ∧ lat L x < (L.length : Int) := ⟨h, by omega⟩
    exact ⟨by rw [rnE, if_pos h3], by rw [rnU, if_pos h3]⟩
  · have h3 : ¬ (0 ≤ lat L x ∧ lat L x < (L.length : Int)) := fun e => h e.1
    have h4 : lrE T L x u = 5 := by rw [lrE, if_pos (by omega)]
    exact ⟨by rw [rnE, if_neg h3, h4], by rw [rnU, if_neg h3, lrL, h4, if_neg (by decide)]⟩
theorem rn_len (T : Int) (L : List On) (x u : Int) (k : Nat) : (rnU T L x u k).length = L.length := by
  unfold rnU
  split
  · rw [List.length_map, lrL_len]
  · rw [List.length_map]
section
variable {T : Int} {L : List On} {last : Int} (h : Inc L last) {k : Nat} (hk : k < L.length) (x u : Int)
include h hk
theorem rn_other (hx : ¬ (ong L k).id = x) : rnE T L x u (k + 1) = rnE T L x u k ∧ rnU T L x u (k + 1) = rnU T L x u k := by
  have hl : ¬ lat L x = (k : Int) := fun e => hx ((h.lat hk x).2 e)
  have e : (0 ≤ lat L x ∧ lat L x < ((k + 1 : Nat) : Int)) ↔ (0 ≤ lat L x ∧ lat L x < (k : Int)) := by omega
  exact ⟨by simp only [rnE, e], by simp only [rnU, e]⟩
theorem rn_here (hx : (ong L k).id = x) : rnU T L x u k = L.map On.un ∧ rnE T L x u (k + 1) = (if ahB T u = false ∨ u < (ong L k).un then 1 else 0) ∧ rnU T L x u (k + 1) = (if ahB T u = false ∨ u < (ong L k).un then L.map On.un else (L.map On.un).set k u) := by
  have hl : lat L x = (k : Int) := (h.lat hk x).1 hx
  have e1 : ¬ (0 ≤ lat L x ∧ lat L x < (k : Int)) := by omega
  have e2 : 0 ≤ lat L x ∧ lat L x < ((k + 1 : Nat) : Int) := by omega
  have hE : lrE T L x u = (if ahB T u = false ∨ u < (ong L k).un then 1 else 0) := by rw [lrE, if_neg (by omega), hl]; rfl
  refine ⟨by rw [rnU, if_neg e1], by rw [rnE, if_pos e2, hE], ?_⟩
  rw [rnU, if_pos e2, lrL, hE]
  by_cases hb : ahB T u = false ∨ u < (ong L k).un
  · rw [if_pos hb, if_pos hb, if_neg (by decide)]
  · rw [if_neg hb, if_neg hb, if_pos rfl, hl, Int.toNat_natCast, List.map_set]
end
/-- Now, told by the law's slices: what is kept of the first k -/
def kp (u : Int) (L : List On) (k : Nat) : List On := (L.take k).filter fun x => !decide (x.un ≤ u)
theorem take_ong {L : List On} {k : Nat} (hk : k < L.length) : L.take (k + 1) = L.take k ++ [ong L k] := by
  rw [List.take_add_one, ong_at hk]; rfl
theorem kp_gone {u : Int} {L : List On} {k : Nat} (hk : k < L.length) (h : (ong L k).un ≤ u) : kp u L (k + 1) = kp u L k := by
  rw [kp, take_ong hk, List.filter_append]; simp [kp, h]
theorem kp_kept {u : Int} {L : List On} {k : Nat} (hk : k < L.length) (h : ¬ (ong L k).un ≤ u) : kp u L (k + 1) = kp u L k ++ [ong L k] := by
  rw [kp, take_ong hk, List.filter_append]; simp [kp]; omega
theorem kp_le (u : Int) (L : List On) (k : Nat) : (kp u L k).length ≤ k := Nat.le_trans (List.length_filter_le _ _) (by rw [List.length_take]; omega)
theorem kp_end (u : Int) (L : List On) : kp u L L.length = L.filter fun x => !decide (x.un ≤ u) := by rw [kp, List.take_length]
/-- Read, told by the law's slices: the first that fits, from j on -/
def Fst (a : List Va) (L : List On) (j : Nat) (m : Option Nat) : Prop := match m with
  | none => ∀ i, j ≤ i → i < L.length → fitB a (ong L i).t = false
  | some m => j ≤ m ∧ m < L.length ∧ fitB a (ong L m).t = true ∧ ∀ i, j ≤ i → i < m → fitB a (ong L i).t = false
theorem Fst.start (a : List Va) (L : List On) : Fst a L L.length none := fun i h1 h2 => by omega
theorem Fst.hit {a : List Va} {L : List On} {j : Nat} (hj : j < L.length) (h : fitB a (ong L j).t = true) : Fst a L j (some j) := ⟨Nat.le_refl _, hj, h, fun i h1 h2 => by omega⟩
theorem Fst.miss {a : List Va} {L : List On} {j : Nat} {m : Option Nat} (h : Fst a L (j + 1) m) (hf : fitB a (ong L j).t = false) : Fst a L j m := by
  cases m with
  | none =>
    intro i h1 h2
    by_cases e : i = j
    · subst e; exact hf
    · exact h i (by omega) h2
  | some m =>
    obtain ⟨h1, h2, h3, h4⟩ := h
    exact ⟨by omega, h2, h3, fun i k1 k2 => by
      by_cases e : i = j
      · subst e; exact hf
      · exact h4 i (by omega) k2⟩
theorem Fst.done {a : List Va} {L : List On} {m : Option Nat} (h : Fst a L 0 m) (hl : liE a = 0) : lreE a L = (if m = none then 5 else 0) ∧ lreV a L = (match m with | none => [] | some m => (ong L m).t) := by
  cases m with
  | none =>
    have e : lpl a L = -1 := lpl_none (fst_none.2 fun i hi => h i (Nat.zero_le _) hi)
    have e2 : lreE a L = 5 := by rw [lreE, if_neg (by rw [hl]; decide), e]; rfl
    exact ⟨by rw [e2]; rfl, by rw [lreV, e2]; rfl⟩
  | some m =>
    obtain ⟨h1, h2, h3, h4⟩ := h
    have e : lpl a L = (m : Int) := lpl_some (k := m) (fst_none.2 fun i hi => h4 i (Nat.zero_le _) hi) h2 h3
    have e2 : lreE a L = 0 := by rw [lreE, if_neg (by rw [hl]; decide), e, if_neg (by omega)]
    exact ⟨by rw [e2]; rfl, by rw [lreV, e2, if_pos rfl, e]; rfl⟩
end Go.Proofs.YthpemlhlgjdnkaaDoor
