/- Plain laws: any as many shares as there are factors tell the secret; of one fewer each other secret might be theirs as well. -/
import Derived.Test.YthkaaheeblehhaaDoorShare
namespace Go.Proofs.YthkaaheeblehhaaDoor

theorem wasB_false {l : List Sh} {x : Int} {k : Nat} (h : ∀ j, j < k → ga l j ≠ x) : wasB l x k = false := by
  induction k with
  | zero => rfl
  | succ k ih =>
    simp only [wasB]
    rw [ih fun j hj => h j (by omega)]
    simpa using h k (by omega)
/-- points that are right are told so -/
theorem poi_of {l : List Sh} (h0 : 0 < l.length) (h7 : l.length ≤ 7) (hp : PM.Pts (ga l) (gb l) l.length) : poiE l = 0 := by
  rw [poiE, if_neg (by omega), if_neg (by omega)]
  have H : ∀ k, k ≤ l.length → ptE l k = 0 := by
    intro k hk
    induction k with
    | zero => rfl
    | succ k ih =>
      simp only [ptE]
      rw [ih (by omega), if_pos rfl]
      have h1 : pinB l k = true := by
        rw [pinB, inB_true.2 (hp.xr k (by omega)), inB_true.2 (hp.yr k (by omega))]; rfl
      rw [if_pos h1, wasB_false fun j hj => hp.ne j k (by omega) (by omega) (by omega)]
      rfl
  exact H _ (Nat.le_refl _)

/-- a share of what is dealt -/
def shr (P : List Int) (i : Nat) : Sh := (((i + 1 : Nat) : Int), PM.hor P ((i + 1 : Nat) : Int))
/-- which ones are taken, of the first k: but the one at skip, or all -/
def ch (skip : Int) (all : Bool) : Nat → List Nat
  | 0 => []
  | k + 1 => if ((k : Int) != skip || all) = true then ch skip all k ++ [k] else ch skip all k
theorem ch_lt (skip : Int) (all : Bool) (k : Nat) : ∀ i ∈ ch skip all k, i < k := by
  induction k with
  | zero => intro i hi; cases hi
  | succ k ih =>
    intro i hi
    simp only [ch] at hi
    split at hi
    · rcases List.mem_append.1 hi with h | h
      · have := ih i h; omega
      · simp at h; omega
    · have := ih i hi; omega
theorem ch_nodup (skip : Int) (all : Bool) (k : Nat) : (ch skip all k).Nodup := by
  induction k with
  | zero => exact List.nodup_nil
  | succ k ih =>
    simp only [ch]
    split
    · rw [List.nodup_append]
      refine ⟨ih, by simp, fun a ha b hb => ?_⟩
      have := ch_lt skip all k a ha
      simp at hb; omega
    · exact ih
theorem ch_length (skip : Int) (all : Bool) (k : Nat) : (ch skip all k).length ≤ k ∧ k ≤ (ch skip all k).length + 1 ∧ (all = true → (ch skip all k).length = k) ∧ ((k : Int) ≤ skip → (ch skip all k).length = k) := by
  induction k with
  | zero => simp [ch]
  | succ k ih =>
    obtain ⟨h1, h2, h3, h4⟩ := ih
    simp only [ch]
    split
    · rename_i h
      simp only [List.length_append, List.length_singleton]
      refine ⟨by omega, by omega, fun e => by rw [h3 e], fun e => by rw [h4 (by omega)]⟩
    · rename_i h
      have hk : (k : Int) = skip ∧ all = false := by
        cases all with
        | true => simp at h
        | false => simp at h; exact ⟨h, rfl⟩
      have := h4 (by omega)
      refine ⟨by omega, by omega, ⟨fun e => (by rw [hk.2] at e; cases e), fun e => by omega⟩⟩
def smL (P : List Int) (skip : Int) (all : Bool) (k : Nat) : List Sh := (ch skip all k).map (shr P)
theorem smL_yes {P : List Int} {skip : Int} {all : Bool} {k : Nat} (h : ((k : Int) != skip || all) = true) : smL P skip all (k + 1) = smL P skip all k ++ [shr P k] := by
  simp only [smL, ch]; rw [if_pos h, List.map_append]; rfl
theorem smL_no {P : List Int} {skip : Int} {all : Bool} {k : Nat} (h : ((k : Int) != skip || all) = false) : smL P skip all (k + 1) = smL P skip all k := by
  simp only [smL, ch]; rw [if_neg (by rw [h]; decide)]
theorem nodup_inj {I : List Nat} (hn : I.Nodup) {i j : Nat} (hi : i < I.length) (hj : j < I.length) (e : I[i] = I[j]) : i = j := by
  rw [List.nodup_iff_pairwise_ne, List.pairwise_iff_getElem] at hn
  rcases Nat.lt_trichotomy i j with h | h | h
  · exact absurd e (hn i j hi hj h)
  · exact h
  · exact absurd e.symm (hn j i hj hi h)
/-- shares of a polynomial at places that differ are points that are right -/
theorem sm_pts (P : List Int) (I : List Nat) (hn : I.Nodup) (h7 : ∀ i ∈ I, i < 7) : PM.Pts (ga (I.map (shr P))) (gb (I.map (shr P))) (I.map (shr P)).length ∧ ∀ i, i < I.length → gb (I.map (shr P)) i = PM.hor P (ga (I.map (shr P)) i) := by
  have hg : ∀ i (hi : i < I.length), ga (I.map (shr P)) i = ((I[i] + 1 : Nat) : Int) ∧ gb (I.map (shr P)) i = PM.hor P ((I[i] + 1 : Nat) : Int) := fun i hi => by
    constructor
    · simp [ga, hi, shr]
    · simp [gb, hi, shr]
  rw [List.length_map]
  refine ⟨⟨fun i hi => ?_, fun i hi => ?_, fun i j hi hj hne => ?_⟩, fun i hi => ?_⟩
  · rw [(hg i hi).1]; have := h7 _ (List.getElem_mem hi); omega
  · rw [(hg i hi).2]; exact PM.hor_range _ _
  · rw [(hg i hi).1, (hg j hj).1]
    intro e
    have e2 : I[i] = I[j] := by omega
    exact hne (nodup_inj hn hi hj e2)
  · rw [(hg i hi).2, (hg i hi).1]

theorem smL_pts (P : List Int) (skip : Int) (all : Bool) (n : Nat) (hn : n ≤ 7) : PM.Pts (ga (smL P skip all n)) (gb (smL P skip all n)) (smL P skip all n).length ∧ ∀ i, i < (smL P skip all n).length → gb (smL P skip all n) i = PM.hor P (ga (smL P skip all n) i) ∧ 1 ≤ ga (smL P skip all n) i := by
  have h := sm_pts P (ch skip all n) (ch_nodup _ _ _) (fun i hi => by have := ch_lt _ _ _ i hi; omega)
  refine ⟨h.1, fun i hi => ⟨h.2 i (by simpa [smL] using hi), ?_⟩⟩
  have hi' : i < (ch skip all n).length := by simpa [smL] using hi
  show 1 ≤ ga ((ch skip all n).map (shr P)) i
  have : ga ((ch skip all n).map (shr P)) i = (((ch skip all n)[i] + 1 : Nat) : Int) := by simp [ga, hi', shr]
  rw [this]; omega

/-- SO MANY TELL IT -/
theorem so_many (P : List Int) (skip : Int) (all : Bool) (n : Nat) (hn : n ≤ 7) (hP : 0 < P.length) (hl : P.length ≤ (smL P skip all n).length) :
    poiE (smL P skip all n) = 0 ∧ thrL ((smL P skip all n).take P.length) 0 = PM.hor P 0 := by
  obtain ⟨h1, h2⟩ := smL_pts P skip all n hn
  have h7 : (smL P skip all n).length ≤ 7 := by have := (ch_length skip all n).1; simp [smL]; omega
  refine ⟨poi_of (by omega) h7 h1, ?_⟩
  have hp := pts_take h1 P.length hl
  have hlen : ((smL P skip all n).take P.length).length = P.length := by rw [List.length_take]; omega
  rw [thrL]
  rw [hlen] at hp ⊢
  exact PM.thr_hor hp P (Nat.le_refl _) (fun i hi => by rw [gb_take _ _ i hi, ga_take _ _ i hi]; exact (h2 i (by omega)).1) 0

/-- ONE FEWER NOTHING: points through which another polynomial goes, taken anew at 1, 2, .. -/
def anew (few : List Sh) (k : Nat) : List Sh := (List.range k).map fun i => (((i + 1 : Nat) : Int), thrL few ((i + 1 : Nat) : Int))
theorem anew_succ (few : List Sh) (k : Nat) : anew few (k + 1) = anew few k ++ [(((k + 1 : Nat) : Int), thrL few ((k + 1 : Nat) : Int))] := by simp [anew, List.range_succ]
theorem anew_length (few : List Sh) (k : Nat) : (anew few k).length = k := by simp [anew]
theorem anew_pts (few : List Sh) (k : Nat) (hk : k ≤ 7) : PM.Pts (ga (anew few k)) (gb (anew few k)) (anew few k).length := by
  have hg : ∀ i, i < k → ga (anew few k) i = ((i + 1 : Nat) : Int) ∧ gb (anew few k) i = thrL few ((i + 1 : Nat) : Int) := fun i hi => by
    constructor
    · simp [ga, anew, hi]
    · simp [gb, anew, hi]
  rw [anew_length]
  refine ⟨fun i hi => ?_, fun i hi => ?_, fun i j hi hj hne => ?_⟩
  · rw [(hg i hi).1]; omega
  · rw [(hg i hi).2]; exact PM.thr_range _ _ _ _ _
  · rw [(hg i hi).1, (hg j hj).1]; omega
theorem anew_same (few : List Sh) (hf : PM.Pts (ga few) (gb few) few.length) (h7 : few.length ≤ 7) (x : Int) : thrL (anew few few.length) x = thrL few x := by
  obtain ⟨f, hp, _, hx⟩ := PM.thr_is_poly hf
  have ha := anew_pts few few.length h7
  have hlen := anew_length few few.length
  have h := PM.thr_poly ha (f := f) (by rw [hlen]; exact hp) (fun i hi => by
    have hi' : i < few.length := by omega
    have e1 : ga (anew few few.length) i = ((i + 1 : Nat) : Int) := by simp [ga, anew, hi']
    have e2 : gb (anew few few.length) i = thrL few ((i + 1 : Nat) : Int) := by simp [gb, anew, hi']
    rw [e1, e2]; exact (hx _).symm) x
  have r := PM.thr_range (ga (anew few few.length)) (gb (anew few few.length)) (anew few few.length).length x (anew few few.length).length
  have s := PM.thr_range (ga few) (gb few) few.length x few.length
  exact PM.q_inj (h.trans (hx x).symm) r.1 r.2 s.1 s.2
/-- another secret, and one share fewer -/
def fewL (other : Int) (l : List Sh) : List Sh := (0, other) :: l
theorem few_pts {other : Int} (ho : 0 ≤ other ∧ other < 257) {l : List Sh} (hl : PM.Pts (ga l) (gb l) l.length) (h1 : ∀ i, i < l.length → 1 ≤ ga l i) : PM.Pts (ga (fewL other l)) (gb (fewL other l)) (fewL other l).length := by
  have g0 : ga (fewL other l) 0 = 0 := rfl
  have b0 : gb (fewL other l) 0 = other := rfl
  have gs : ∀ i, ga (fewL other l) (i + 1) = ga l i := fun i => by simp [ga, fewL]
  have bs : ∀ i, gb (fewL other l) (i + 1) = gb l i := fun i => by simp [gb, fewL]
  have hlen : (fewL other l).length = l.length + 1 := rfl
  rw [hlen]
  refine ⟨fun i hi => ?_, fun i hi => ?_, fun i j hi hj hne => ?_⟩
  · cases i with
    | zero => rw [g0]; omega
    | succ i => rw [gs]; exact hl.xr i (by omega)
  · cases i with
    | zero => rw [b0]; exact ho
    | succ i => rw [bs]; exact hl.yr i (by omega)
  · cases i with
    | zero =>
      cases j with
      | zero => exact absurd rfl hne
      | succ j => rw [g0, gs]; have := h1 j (by omega); omega
    | succ i =>
      cases j with
      | zero => rw [g0, gs]; have := h1 i (by omega); omega
      | succ j => rw [gs, gs]; exact hl.ne i j (by omega) (by omega) (by omega)
end Go.Proofs.YthkaaheeblehhaaDoor
