/- What is read was written so; which comes first: plain laws. -/
import Derived.Test.YtamndgeeibfmhaaGreatDoorROrd
import Derived.Test.YtamndgeeibfmhaaGreatDoorVRd2
namespace Go.Proofs.YtamndgeeibfmhaaGreatDoor
set_option linter.unusedVariables false

theorem vaE_parts {v : Va} (h : vaE v = 0) : (v.k = 0 ∨ v.k = 1 ∨ v.k = 2) ∧ (v.k ≠ 0 → v.n = 0) ∧ (v.k ≠ 1 → v.s = ⟨#[]⟩) ∧ (v.k = 0 → -1000000 ≤ v.n ∧ v.n ≤ 1000000) ∧ v.s.size ≤ 12 := by
  obtain ⟨k0, k2, kn, ks⟩ := vaE_kind h
  unfold vaE at h
  split at h
  · cases h
  · split at h
    · cases h
    · split at h
      · cases h
      · rename_i h3
        refine ⟨by omega, fun e => Classical.not_not.1 fun hn => h3 (.inl ⟨e, hn⟩), fun e => emp_of ?_, kn, ks⟩
        have : ¬ 0 < v.s.size := fun hh => h3 (.inr (.inl ⟨e, hh⟩))
        omega
theorem cons_extract {s : ByteArray} (h : 0 < s.size) (h2 : s[0] = 58) : (ByteArray.mk #[58]) ++ s.extract 1 s.size = s := by
  refine bytes_eq ?_
  rw [ByteArray.data_append, Array.toList_append, ByteArray.data_extract, Array.toList_extract]
  have hh := head_of h
  cases hl : s.data.toList with
  | nil => rw [hl] at hh; cases hh
  | cons x r =>
    rw [hl] at hh
    simp only [List.head?_cons, Option.some.injEq] at hh
    have hz : s.size = r.length + 1 := by
      have : s.data.toList.length = s.size := Array.length_toList
      rw [← this, hl, List.length_cons]
    rw [hh, h2, hz]
    simp [List.extract]
theorem extract_cons (t : ByteArray) : ((ByteArray.mk #[58]) ++ t).extract 1 ((ByteArray.mk #[58]) ++ t).size = t := by
  refine bytes_eq ?_
  have hz : ((ByteArray.mk #[58]) ++ t).size = t.size + 1 := by rw [ByteArray.size_append]; show 1 + t.size = _; omega
  have hl : t.size = t.data.toList.length := Array.length_toList.symm
  rw [hz, ByteArray.data_extract, Array.toList_extract, ByteArray.data_append, Array.toList_append]
  simp only [List.extract]
  rw [show t.size + 1 - 1 = t.size by omega]
  show List.take t.size (([58] ++ t.data.toList).drop 1) = _
  rw [hl]
  exact List.take_length
theorem rd_back {s : ByteArray} (h : rdE s = 0) : vaE (rdR s) = 0 ∧ wrd (rdR s) = s := by
  cases hv : rdV s with
  | none => rw [(rd_none hv).1] at h; cases h
  | some v =>
    obtain ⟨r1, r2⟩ := rd_some hv
    rw [r1] at h
    rw [if_pos h] at r2
    rw [r2]
    refine ⟨h, ?_⟩
    rcases @text_cases s with e | ⟨e, h0, hc⟩ | ⟨e, hc⟩
    · subst e
      rw [rdV, if_pos rfl] at hv
      simp only [Option.some.injEq] at hv
      subst hv
      rfl
    · rw [rdV_text e h0 (by rw [hc]; rfl)] at hv
      simp only [Option.some.injEq] at hv
      subst hv
      rw [wrd, if_neg (show ¬ ((1 : Int) = 0) by decide), if_pos rfl]
      exact cons_extract h0 hc
    · rw [rdV_numA e hc, rd_eq] at hv
      cases hr : rdN s.data.toList with
      | none => rw [hr] at hv; cases hv
      | some n =>
        rw [hr] at hv
        simp only [Option.map, Option.some.injEq] at hv
        subst hv
        rw [wrd, if_pos rfl]
        exact bytes_eq (by rw [itoa_rdN hr])
theorem itoa_head (n : Int) : ∀ c, (Lib.itoa n).head? = some c → c.toNat ≠ 58 ∧ c.toNat ≠ 42 := by
  intro c hc
  by_cases hn : n < 0
  · obtain ⟨u, hu, rfl⟩ : ∃ u : Nat, 1 ≤ u ∧ n = -(u : Int) := ⟨n.natAbs, by omega, by omega⟩
    rw [Lib.itoa_neg u hu] at hc
    simp only [List.head?_cons, Option.some.injEq] at hc
    rw [← hc]; decide
  · obtain ⟨u, rfl⟩ : ∃ u : Nat, n = (u : Int) := ⟨n.toNat, by omega⟩
    rw [itoa_pos] at hc
    rcases Nat.eq_zero_or_pos u with e | e
    · subst e; rw [dd_zero] at hc
      simp only [List.head?_cons, Option.some.injEq] at hc
      rw [← hc]; decide
    · have := dd_head u e c hc
      omega
theorem rd_wrd {a : Va} (h : vaE a = 0) : rdE (wrd a) = 0 ∧ rdR (wrd a) = a := by
  obtain ⟨hk, hn, hs, hb, _⟩ := vaE_parts h
  have key : rdV (wrd a) = some a := by
    obtain ⟨k, n, s⟩ := a
    simp only at hk hn hs hb
    rcases hk with rfl | rfl | rfl
    · have := hs (by decide)
      subst this
      obtain ⟨b0, b1⟩ := hb rfl
      rw [show wrd ⟨0, n, ⟨#[]⟩⟩ = ⟨(Lib.itoa n).toArray⟩ from rfl]
      have hl : (ByteArray.mk (Lib.itoa n).toArray).data.toList = Lib.itoa n := rfl
      rw [rdV, if_neg, if_neg, hl, rdN_itoa n b0 b1]
      · rfl
      · rw [hl]
        intro e
        exact (itoa_head n 58 e).1 rfl
      · intro e
        have := congrArg (fun x : ByteArray => x.data.toList) e
        rw [hl] at this
        exact (itoa_head n 42 (by rw [this]; rfl)).2 rfl
    · have := hn (by decide)
      subst this
      rw [show wrd ⟨1, 0, s⟩ = ⟨#[58]⟩ ++ s from rfl]
      have hp : 0 < ((ByteArray.mk #[58]) ++ s).size := by rw [ByteArray.size_append]; show 0 < 1 + s.size; omega
      have hc : (((ByteArray.mk #[58]) ++ s)[0]'hp) = 58 := by
        have h1 := head_of hp
        rw [ByteArray.data_append, Array.toList_append] at h1
        simp at h1
        exact h1.symm
      rw [rdV_text (star_head hp (by rw [hc]; decide)) hp (by rw [hc]; rfl), extract_cons]
    · have h1 := hn (by decide)
      have h2 := hs (by decide)
      subst h1 h2
      rw [show wrd ⟨2, 0, ⟨#[]⟩⟩ = ⟨#[42]⟩ from rfl, rdV, if_pos rfl]
  obtain ⟨r1, r2⟩ := rd_some key
  rw [r1, r2, if_pos h]
  exact ⟨h, rfl⟩
/-! ### which comes first -/
theorem u8_lt {a b : UInt8} : a < b ↔ a.toNat < b.toNat := UInt8.lt_iff_toNat_lt
theorem cb_neg : ∀ l r : List UInt8, Lib.compareBytes r l = -Lib.compareBytes l r
  | [], [] => rfl
  | [], _ :: _ => rfl
  | _ :: _, [] => rfl
  | a :: xs, b :: ys => by
    simp only [Lib.compareBytes]
    by_cases h1 : a < b
    · have h2 : ¬ b < a := by rw [u8_lt] at *; omega
      rw [if_neg h2, if_pos h1, if_pos h1]; rfl
    · by_cases h2 : b < a
      · rw [if_pos h2, if_neg h1, if_pos h2]
      · rw [if_neg h2, if_neg h1, if_neg h1, if_neg h2]; exact cb_neg xs ys
theorem cb_zero : ∀ l r : List UInt8, Lib.compareBytes l r = 0 ↔ l = r
  | [], [] => by simp [Lib.compareBytes]
  | [], _ :: _ => by simp [Lib.compareBytes]
  | _ :: _, [] => by simp [Lib.compareBytes]
  | a :: xs, b :: ys => by
    simp only [Lib.compareBytes]
    by_cases h1 : a < b
    · rw [if_pos h1]
      refine ⟨fun h => absurd h (by decide), fun h => ?_⟩
      injection h with h _
      rw [u8_lt, h] at h1; omega
    · by_cases h2 : b < a
      · rw [if_neg h1, if_pos h2]
        refine ⟨fun h => absurd h (by decide), fun h => ?_⟩
        injection h with h _
        rw [u8_lt, h] at h2; omega
      · have e : a = b := by
          refine UInt8.toNat_inj.1 ?_
          rw [u8_lt] at h1 h2; omega
        rw [if_neg h1, if_neg h2, cb_zero xs ys, e]
        simp
theorem cb_rng : ∀ l r : List UInt8, Lib.compareBytes l r = -1 ∨ Lib.compareBytes l r = 0 ∨ Lib.compareBytes l r = 1
  | [], [] => .inr (.inl rfl)
  | [], _ :: _ => .inl rfl
  | _ :: _, [] => .inr (.inr rfl)
  | a :: xs, b :: ys => by
    simp only [Lib.compareBytes]
    split
    · exact .inl rfl
    · split
      · exact .inr (.inr rfl)
      · exact cb_rng xs ys
theorem cb_trans : ∀ l r t : List UInt8, Lib.compareBytes l r ≤ 0 → Lib.compareBytes r t ≤ 0 → Lib.compareBytes l t ≤ 0
  | [], r, [], _, _ => by decide
  | [], r, _ :: _, _, _ => by simp [Lib.compareBytes]
  | _ :: _, [], t, h, _ => by simp [Lib.compareBytes] at h
  | _ :: _, _ :: _, [], _, h => by simp [Lib.compareBytes] at h
  | a :: xs, b :: ys, c :: zs, h1, h2 => by
    simp only [Lib.compareBytes] at *
    by_cases x1 : a < b
    · by_cases y1 : b < c
      · rw [if_pos (by rw [u8_lt] at *; omega)]; decide
      · rw [if_neg y1] at h2
        by_cases y2 : c < b
        · rw [if_pos y2] at h2; exact absurd h2 (by decide)
        · rw [if_pos (by rw [u8_lt] at *; omega)]; decide
    · rw [if_neg x1] at h1
      by_cases x2 : b < a
      · rw [if_pos x2] at h1; exact absurd h1 (by decide)
      · rw [if_neg x2] at h1
        by_cases y1 : b < c
        · rw [if_pos (by rw [u8_lt] at *; omega)]; decide
        · rw [if_neg y1] at h2
          by_cases y2 : c < b
          · rw [if_pos y2] at h2; exact absurd h2 (by decide)
          · rw [if_neg y2] at h2
            rw [if_neg (by rw [u8_lt] at *; omega), if_neg (by rw [u8_lt] at *; omega)]
            exact cb_trans xs ys zs h1 h2
theorem ci_neg (x y : Int) : cmpI y x = -cmpI x y := by unfold cmpI; split <;> split <;> omega
theorem ci_zero (x y : Int) : cmpI x y = 0 ↔ x = y := by unfold cmpI; split <;> (try split) <;> omega
theorem ci_rng (x y : Int) : cmpI x y = -1 ∨ cmpI x y = 0 ∨ cmpI x y = 1 := by unfold cmpI; split <;> (try split) <;> omega
theorem ordI_neg (a b : Va) : ordI b a = -ordI a b := by
  unfold ordI or3
  rw [ci_neg a.k b.k, ci_neg a.n b.n, cb_neg a.s.data.toList b.s.data.toList]
  by_cases h1 : cmpI a.k b.k = 0
  · by_cases h2 : cmpI a.n b.n = 0
    · simp [h1, h2]
    · simp [h1, h2]
  · simp [h1]
theorem ordI_zero (a b : Va) : ordI a b = 0 ↔ a = b := by
  unfold ordI or3
  by_cases h1 : cmpI a.k b.k = 0
  · by_cases h2 : cmpI a.n b.n = 0
    · rw [if_neg (by simp [h1]), if_neg (by simp [h2]), cb_zero]
      rw [ci_zero] at h1 h2
      obtain ⟨k, n, s⟩ := a
      obtain ⟨k', n', s'⟩ := b
      simp only at h1 h2 ⊢
      subst h1 h2
      simp only [Va.mk.injEq, true_and]
      exact ⟨bytes_eq, fun e => by rw [e]⟩
    · rw [if_neg (by simp [h1]), if_pos h2]
      refine ⟨fun h => absurd h h2, fun h => ?_⟩
      rw [h] at h2; exact absurd ((ci_zero _ _).2 rfl) h2
  · rw [if_pos h1]
    refine ⟨fun h => absurd h h1, fun h => ?_⟩
    rw [h] at h1; exact absurd ((ci_zero _ _).2 rfl) h1
theorem ordI_rng (a b : Va) : ordI a b = -1 ∨ ordI a b = 0 ∨ ordI a b = 1 := by
  unfold ordI or3
  split
  · exact ci_rng _ _
  · split
    · exact ci_rng _ _
    · exact cb_rng _ _
theorem ordI_trans (a b c : Va) (h1 : ordI a b ≤ 0) (h2 : ordI b c ≤ 0) : ordI a c ≤ 0 := by
  have hle : ∀ x y : Int, cmpI x y ≤ 0 ↔ x ≤ y := fun x y => by unfold cmpI; split <;> (try split) <;> omega
  unfold ordI or3 at *
  by_cases x1 : cmpI a.k b.k = 0
  · rw [if_neg (by simp [x1])] at h1
    rw [ci_zero] at x1
    rw [x1]
    by_cases y1 : cmpI b.k c.k = 0
    · rw [if_neg (by simp [y1])] at h2 ⊢
      by_cases x2 : cmpI a.n b.n = 0
      · rw [if_neg (by simp [x2])] at h1
        rw [ci_zero] at x2
        rw [x2]
        by_cases y2 : cmpI b.n c.n = 0
        · rw [if_neg (by simp [y2])] at h2 ⊢
          exact cb_trans _ _ _ h1 h2
        · rw [if_pos y2] at h2 ⊢
          exact h2
      · rw [if_pos x2] at h1
        by_cases y2 : cmpI b.n c.n = 0
        · rw [ci_zero] at y2
          rw [← y2, if_pos x2]; exact h1
        · rw [if_pos y2] at h2
          rw [hle] at h1 h2
          have : cmpI a.n c.n ≠ 0 := by
            rw [Ne, ci_zero] at *; omega
          rw [if_pos this, hle]; omega
    · rw [if_pos y1] at h2 ⊢
      exact h2
  · rw [if_pos x1] at h1
    by_cases y1 : cmpI b.k c.k = 0
    · rw [ci_zero] at y1
      rw [← y1, if_pos x1]; exact h1
    · rw [if_pos y1] at h2
      rw [hle] at h1 h2
      have : cmpI a.k c.k ≠ 0 := by
        rw [Ne, ci_zero] at *; omega
      rw [if_pos this, hle]; omega
theorem twoE_zero {a b : Va} : twoE a b = 0 ↔ vaE a = 0 ∧ vaE b = 0 := by
  constructor
  · intro h
    exact ⟨lsE_zero (n := 2) h (i := 0) (by decide), lsE_zero (n := 2) h (i := 1) (by decide)⟩
  · rintro ⟨h1, h2⟩
    exact lsE_of (n := 2) fun i hi => by
      match i, hi with
      | 0, _ => exact h1
      | 1, _ => exact h2
theorem twoE_of (a b : Va) : twoE a b = if vaE a ≠ 0 then vaE a else vaE b := by
  by_cases h : vaE a = 0
  · rw [if_neg (by simp [h])]
    by_cases h2 : vaE b = 0
    · rw [h2]; exact twoE_zero.2 ⟨h, h2⟩
    · exact lsE_at (l := [a, b]) (k := 1) (n := 2) (lsE_of (n := 1) fun i hi => by
        obtain rfl : i = 0 := by omega
        exact h) h2 (by decide)
  · rw [if_pos h]
    exact lsE_at (l := [a, b]) (k := 0) (n := 2) rfl h (by decide)
end Go.Proofs.YtamndgeeibfmhaaGreatDoor
