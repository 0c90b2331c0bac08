/- Copies: that what one does keeps it a copy; that what is asked again is answered again; its mark. -/
import Derived.Test.YthkaaheeblehhaaDoorCpPure
import Derived.Test.YthkaaheeblehhaaDoorSpKeep
import Derived.Test.YthkaaheeblehhaaDoorQueOps
namespace Go.Proofs.YthkaaheeblehhaaDoor
open Go.RowKit
set_option linter.unusedVariables false

section
variable {R : List Ru} {s : Cs} {a : Ak}
theorem doE_bad (h : qcE a ≠ 0) : doE R s a = qcE a := if_pos h
theorem doE_ag (h : qcE a = 0) (h2 : agB s a = true) : doE R s a = 0 := by rw [doE, if_neg (by rw [h]; decide), if_pos h2]
theorem doE_seq (h : qcE a = 0) (h2 : agB s a = false) (h3 : a.q ≠ (s.F a.w).1 + 1) : doE R s a = 6 := by rw [doE, if_neg (by rw [h]; decide), if_neg (by rw [h2]; decide), if_pos h3]
theorem doE_new (h : qcE a = 0) (h2 : agB s a = false) (h3 : a.q = (s.F a.w).1 + 1) : doE R s a = nwE R s a := by rw [doE, if_neg (by rw [h]; decide), if_neg (by rw [h2]; decide), if_neg (fun e => e h3)]
theorem doC_no (h : doE R s a ≠ 0) : doC R s a = s := if_pos (.inl h)
theorem doC_ag (h : agB s a = true) : doC R s a = s := if_pos (.inr h)
theorem doC_new (h : doE R s a = 0) (h2 : agB s a = false) : doC R s a = ⟨nwL s a, fun y => if y = a.w then (a.q, nwS s a) else s.F y, s.n + 1⟩ := if_neg (by rw [h, h2]; decide)
theorem doS_no (h : doE R s a ≠ 0) : doS R s a = ⟨#[]⟩ := if_pos h
theorem doS_ag (h : doE R s a = 0) (h2 : agB s a = true) : doS R s a = (s.F a.w).2 := by rw [doS, if_neg (by rw [h]; decide), if_pos h2]
theorem doS_new (h : doE R s a = 0) (h2 : agB s a = false) : doS R s a = nwS s a := by rw [doS, if_neg (by rw [h]; decide), if_neg (by rw [h2]; decide)]
theorem doE_zero (h : doE R s a = 0) : qcE a = 0 ∧ (agB s a = true ∨ (agB s a = false ∧ a.q = (s.F a.w).1 + 1 ∧ nwE R s a = 0)) := by
  by_cases h1 : qcE a = 0
  · refine ⟨h1, ?_⟩
    cases h2 : agB s a with
    | true => exact .inl rfl
    | false =>
      by_cases h3 : a.q = (s.F a.w).1 + 1
      · exact .inr ⟨rfl, h3, (doE_new h1 h2 h3).symm.trans h⟩
      · rw [doE_seq h1 h2 h3] at h; cases h
  · rw [doE_bad h1] at h; exact absurd h h1
theorem rT_mem (hs : Cok s) {t : List Va} (h : finE t s.L = 0) : okL (rT t s.L) ∧ tuE (rT t s.L) = 0 := by
  obtain ⟨k, h1, _, h3, _⟩ := fin_at h
  rw [h3]; exact hs.ok _ (gg_mem h1)
theorem nwL_ok (hs : Cok s) (hok : okL a.t) (hq : qcE a = 0) : (nwL s a).length ≤ 20 ∧ ∀ t ∈ nwL s a, okL t ∧ tuE t = 0 := by
  obtain ⟨_, _, _, _, _, htu⟩ := qcE_zero hq
  have h20 := hs.l20
  unfold nwL
  by_cases h0 : a.d = 0
  · rw [if_pos h0]
    unfold putL
    by_cases h1 : putE s.L a.t = 0
    · rw [if_pos h1]
      have h2 : s.L.length ≠ 20 := fun e => by
        unfold putE at h1
        rw [if_neg (by rw [htu h0]; decide), if_pos e] at h1; cases h1
      refine ⟨by simp; omega, fun t ht => ?_⟩
      rcases List.mem_append.1 ht with ht | ht
      · exact hs.ok t ht
      · rw [List.mem_singleton] at ht; subst ht; exact ⟨hok, htu h0⟩
    · rw [if_neg h1]; exact ⟨h20, hs.ok⟩
  · rw [if_neg h0]
    by_cases h2 : a.d = 2
    · rw [if_pos h2]
      unfold rL
      split
      · exact ⟨Nat.le_trans (by rw [List.length_eraseIdx]; split <;> omega) h20, fun t ht => hs.ok t (List.mem_of_mem_eraseIdx ht)⟩
      · exact ⟨h20, hs.ok⟩
    · rw [if_neg h2]; exact ⟨h20, hs.ok⟩
theorem lin_small {t : List Va} (h : tuE t = 0) : (lin t).size ≤ 110 := by
  obtain ⟨_, h5, hr⟩ := rgt_of (tuE_zero h).1
  have := lin_size hr t.length
  rw [List.take_length] at this
  omega
theorem nwS_size (hs : Cok s) : (nwS s a).size ≤ 200 := by
  unfold nwS
  split
  · split <;> decide
  · split
    · decide
    · rename_i h
      have := lin_small (rT_mem hs (Classical.not_not.1 h)).2
      omega
theorem Cok.step (hs : Cok s) (hok : okL a.t) : Cok (doC R s a) := by
  by_cases h : doE R s a = 0
  · obtain ⟨hq, h2 | ⟨h2, h3, h4⟩⟩ := doE_zero h
    · rw [doC_ag h2]; exact hs
    · rw [doC_new h h2]
      obtain ⟨l1, l2⟩ := nwL_ok hs hok hq
      refine ⟨l1, l2, fun y => ?_, fun y => ?_⟩
      · have h5 := hs.f0 y
        have h6 := hs.f0 a.w
        simp only
        split
        · simp only; omega
        · omega
      · simp only
        split
        · exact nwS_size hs
        · exact hs.fs y
  · rw [doC_no h]; exact hs
/-- what is asked again is answered again, and nothing is done -/
theorem do_again (hs : Cok s) (h : doE R s a = 0) : doE R (doC R s a) a = 0 ∧ doS R (doC R s a) a = doS R s a ∧ doC R (doC R s a) a = doC R s a := by
  obtain ⟨hq, h2 | ⟨h2, h3, h4⟩⟩ := doE_zero h
  · rw [doC_ag h2]; exact ⟨h, rfl, doC_ag h2⟩
  · have h0 := (hs.f0 a.w).1
    have hag : agB (doC R s a) a = true := by
      rw [doC_new h h2, agB]
      simp only [if_pos]
      simp; omega
    have he : doE R (doC R s a) a = 0 := doE_ag hq hag
    refine ⟨he, ?_, doC_ag hag⟩
    rw [doS_ag he hag, doS_new h h2, doC_new h h2]
    simp
theorem doS_size (hs : Cok s) : (doS R s a).size ≤ 200 := by
  by_cases h : doE R s a = 0
  · obtain ⟨hq, h2 | ⟨h2, h3, h4⟩⟩ := doE_zero h
    · rw [doS_ag h h2]; exact hs.fs _
    · rw [doS_new h h2]; exact nwS_size hs
  · rw [doS_no h]; decide
end
/-- all the tuples as text, each in a line -/
def mkL : List (List Va) → ByteArray
  | [] => ⟨#[]⟩
  | t :: L => (lin t ++ ⟨#[10]⟩) ++ mkL L
theorem mkL_snoc (L : List (List Va)) (t : List Va) : mkL (L ++ [t]) = mkL L ++ (lin t ++ ⟨#[10]⟩) := by
  induction L with
  | nil => rw [List.nil_append, mkL, mkL, mkL]; exact bytes_eq (by simp [ByteArray.data_append])
  | cons x L ih => rw [List.cons_append, mkL, ih, mkL]; exact bytes_eq (by simp [ByteArray.data_append])
theorem mkL_take {L : List (List Va)} {k : Nat} (h : k < L.length) : mkL (L.take (k + 1)) = mkL (L.take k) ++ (lin (gg L k) ++ ⟨#[10]⟩) := by
  rw [take_one h, mkL_snoc]
theorem mkL_size {L : List (List Va)} (h : ∀ t ∈ L, tuE t = 0) : (mkL L).size ≤ L.length * 111 := by
  induction L with
  | nil => simp [mkL, ByteArray.size]
  | cons t L ih =>
    have h1 := ih fun x hx => h x (List.mem_cons_of_mem _ hx)
    have h2 := lin_small (h t (List.mem_cons_self ..))
    rw [mkL, List.length_cons]
    simp only [ByteArray.size_append]
    rw [show (ByteArray.mk #[10]).size = 1 from rfl]
    omega
def mkV (s : Cs) : Int := hs (mkL s.L) (mkL s.L).size
end Go.Proofs.YthkaaheeblehhaaDoor
