/- A tuple is read as it was written; what asks for less fits more: plain laws. -/
import Derived.Test.YtamndgeeibfmhaaGreatDoorTPar2
import Derived.Test.YtamndgeeibfmhaaGreatDoorRdLaw
import Derived.Test.YtamndgeeibfmhaaGreatDoorLine
namespace Go.Proofs.YtamndgeeibfmhaaGreatDoor
set_option linter.unusedVariables false

theorem pcs_app (c : UInt8) : ∀ (p r : List UInt8), (∀ b ∈ p, b ≠ c) → pcs c (p ++ c :: r) = p :: pcs c r
  | [], r, _ => by
    rw [List.nil_append, show pcs c (c :: r) = (if c = c then [] :: pcs c r else match pcs c r with
    | p :: q => (c :: p) :: q
    | [] => [[c]]) from rfl, if_pos rfl]
  | x :: p, r, h => by
    have h1 : x ≠ c := h x (by simp)
    have h2 := pcs_app c p r fun b hb => h b (List.mem_cons_of_mem _ hb)
    rw [List.cons_append, pcs, if_neg h1, h2]
theorem pcs_own (c : UInt8) (p : List UInt8) (h : ∀ b ∈ p, b ≠ c) : pcs c p = [p] := pcs_none c p fun k e => h c (List.mem_of_getElem? e) rfl
theorem join_two (x y : List UInt8) (r : List (List UInt8)) (sep : List UInt8) : Lib.join (x :: y :: r) sep = x ++ (sep ++ Lib.join (y :: r) sep) := by
  rw [Lib.join_cons, Lib.join_cons]
  simp [Lib.joinTail]
theorem pcs_join (c : UInt8) : ∀ (l : List (List UInt8)), l ≠ [] → (∀ p ∈ l, ∀ b ∈ p, b ≠ c) → pcs c (Lib.join l [c]) = l
  | [], h, _ => absurd rfl h
  | [x], _, h => by rw [Lib.join_one]; exact pcs_own c x (h x (by simp))
  | x :: y :: r, _, h => by
    rw [join_two]
    show pcs c (x ++ (c :: Lib.join (y :: r) [c])) = _
    rw [pcs_app c x _ (h x (by simp)), pcs_join c (y :: r) (by simp) fun p hp => h p (List.mem_cons_of_mem _ hp)]
theorem pcsB_jn {l : List ByteArray} (h : l ≠ []) (hn : ∀ x ∈ l, ∀ b ∈ x.data.toList, b ≠ 44) : pcsB 44 (jn l ⟨#[44]⟩) = l := by
  have h1 : (jn l ⟨#[44]⟩).data.toList = Lib.join (l.map (·.data.toList)) [44] := rfl
  rw [pcsB, h1, pcs_join 44 _ (by simpa using h) fun p hp => by
    obtain ⟨x, hx, rfl⟩ := List.mem_map.1 hp
    exact hn x hx]
  rw [List.map_map]
  conv => rhs; rw [← List.map_id l]
  rfl
theorem dd_mem (u : Nat) : ∀ b ∈ Lib.decDigits u, 48 ≤ b.toNat ∧ b.toNat ≤ 57 := by
  induction u using Nat.strongRecOn with
  | ind u ih =>
    intro b hb
    by_cases h : u < 10
    · rw [Lib.decDigits_one h] at hb
      simp only [List.mem_singleton] at hb
      rw [hb, UInt8.toNat_ofNat']; omega
    · rw [Lib.decDigits, dif_neg h] at hb
      rcases List.mem_append.1 hb with h1 | h1
      · exact ih (u / 10) (by omega) b h1
      · simp only [List.mem_singleton] at h1
        rw [h1, UInt8.toNat_ofNat']; omega
theorem wrd_no44 {v : Va} (h : vaE v = 0) : ∀ b ∈ (wrd v).data.toList, b ≠ 44 := by
  obtain ⟨hk, hn, hs, _, _⟩ := vaE_parts h
  intro b hb
  obtain ⟨k, n, s⟩ := v
  simp only at hk hn hs
  rcases hk with rfl | rfl | rfl
  · rw [show (wrd ⟨0, n, s⟩).data.toList = Lib.itoa n from rfl] at hb
    unfold Lib.itoa at hb
    split at hb
    · rcases List.mem_cons.1 hb with e | e
      · rw [e]; decide
      · have := dd_mem _ b e
        rintro rfl
        exact absurd this.1 (by decide)
    · have := dd_mem _ b hb
      rintro rfl
      exact absurd this.1 (by decide)
  · have h2 : okS s = true := by
      unfold vaE at h
      simp only at h
      split at h
      · cases h
      · split at h
        · cases h
        · split at h
          · cases h
          · rename_i h3
            cases ho : okS s with
            | true => rfl
            | false => exact absurd (.inr (.inr ho)) h3
    rw [show (wrd ⟨1, n, s⟩).data.toList = 58 :: s.data.toList by
      rw [show wrd ⟨1, n, s⟩ = ⟨#[58]⟩ ++ s from rfl, ByteArray.data_append, Array.toList_append]; rfl] at hb
    rcases List.mem_cons.1 hb with e | e
    · rw [e]; decide
    · obtain ⟨i, hi, rfl⟩ := List.mem_iff_getElem.1 e
      have hi2 : i < s.size := by rw [Array.length_toList] at hi; exact hi
      have h3 := okS_true.1 h2 i hi2
      rw [gB_lt hi2] at h3
      intro e4
      have e5 : s[i] = 44 := e4
      rw [e5] at h3
      exact absurd h3 (by decide)
  · rw [show (wrd ⟨2, n, s⟩).data.toList = [42] from rfl] at hb
    simp only [List.mem_singleton] at hb
    rw [hb]; decide
theorem tpF_zero {l : List ByteArray} (h : ∀ x ∈ l, rdE x = 0) : tpF l = 0 := by
  induction l with
  | nil => rfl
  | cons x r ih =>
    show (if rdE x ≠ 0 then rdE x else tpF r) = 0
    rw [if_neg (by rw [h x (by simp)]; simp)]
    exact ih fun y hy => h y (List.mem_cons_of_mem _ hy)
theorem va_mem {t : List Va} {v : Va} (h : v ∈ t) : ∃ i, i < t.length ∧ va t i = v := by
  obtain ⟨i, hi, e⟩ := List.mem_iff_getElem.1 h
  exact ⟨i, hi, by simp [va, List.getD_eq_getElem?_getD, List.getElem?_eq_getElem hi, e]⟩
/-- A TUPLE IS READ AS IT WAS -/
theorem lin_back {t : List Va} (h : liE t = 0) : tpE (lin t) = 0 ∧ tpR (lin t) = t ∧ (lin t).size ≤ 110 ∧ (pcsB 44 (lin t)).length ≤ 5 := by
  obtain ⟨h0, h5, hr⟩ := rgt_of h
  have hv : ∀ v ∈ t, vaE v = 0 := fun v hv => by
    obtain ⟨i, hi, e⟩ := va_mem hv
    rw [← e]; exact hr i hi
  have hne : t.map wrd ≠ [] := by
    intro e
    have := congrArg List.length e
    simp at this
    rw [this] at h0
    exact absurd h0 (by simp)
  have hp : pcsB 44 (lin t) = t.map wrd := pcsB_jn hne fun x hx b hb => by
    obtain ⟨v, hm, rfl⟩ := List.mem_map.1 hx
    exact wrd_no44 (hv v hm) b hb
  have hz : ∀ x ∈ t.map wrd, rdE x = 0 := fun x hx => by
    obtain ⟨v, hm, rfl⟩ := List.mem_map.1 hx
    exact (rd_wrd (hv v hm)).1
  have hs : (lin t).size ≠ 0 := by
    intro e
    have h1 : lin t = ⟨#[]⟩ := emp_of e
    rw [h1] at hp
    have h2 := hz ⟨#[]⟩ (by rw [← hp]; simp [pcsB, pcs])
    exact absurd h2 (by decide)
  have hE : tpE (lin t) = 0 := by
    rw [tpE, if_neg hs, hp, tpF_zero hz, if_neg (by simp), if_neg (by rw [List.length_map]; omega)]
  have hsz := lin_size hr t.length
  rw [List.take_length] at hsz
  refine ⟨hE, ?_, by omega, by rw [hp, List.length_map]; exact h5⟩
  rw [tpR, if_pos hE, hp, List.map_map]
  conv => rhs; rw [← List.map_id t]
  exact List.map_congr_left fun v hm => (rd_wrd (hv v hm)).2
/-! ### what asks for less -/
theorem liE_iff {l : List Va} : liE l = 0 ↔ 0 < l.length ∧ l.length ≤ 5 ∧ ∀ i, i < l.length → vaE (va l i) = 0 := by
  constructor
  · intro h
    obtain ⟨h1, h2, h3⟩ := liE_zero h
    exact ⟨h1, h2, fun i hi => lsE_zero h3 hi⟩
  · rintro ⟨h1, h2, h3⟩
    rw [liE, if_neg (by omega), if_neg (by omega)]
    exact lsE_of h3
theorem va_set {l : List Va} {i j : Nat} {x : Va} (hj : j < l.length) : va (l.set i x) j = if j = i then x else va l j := by
  simp only [va, List.getD_eq_getElem?_getD, List.getElem?_set]
  by_cases e : i = j
  · subst e; rw [if_pos rfl, if_pos hj, if_pos rfl]; rfl
  · rw [if_neg e, if_neg (fun h => e h.symm)]
def anyV : Va := ⟨2, 0, ⟨#[]⟩⟩
theorem wide_like {l : List Va} {i : Nat} (h : liE l = 0) : liE (l.set i anyV) = 0 := by
  rw [liE_iff] at h ⊢
  rw [List.length_set]
  refine ⟨h.1, h.2.1, fun j hj => ?_⟩
  rw [va_set hj]
  split
  · decide
  · exact h.2.2 j hj
theorem wide_fits {l t : List Va} {i : Nat} (h : fitB l t = true) : fitB (l.set i anyV) t = true := by
  rw [fitB_true] at h ⊢
  rw [List.length_set]
  refine ⟨h.1, fun j hj => ?_⟩
  rw [va_set (by omega)]
  split
  · exact likB_2 rfl
  · exact h.2 j hj
theorem self_fits (t : List Va) : fitB t t = true := fitB_true.2 ⟨rfl, fun i hi => decide_eq_true (.inr rfl)⟩
end Go.Proofs.YtamndgeeibfmhaaGreatDoor
