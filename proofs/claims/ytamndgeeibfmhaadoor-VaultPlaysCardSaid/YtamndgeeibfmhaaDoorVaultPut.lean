/- Vault.Put. -/
import Derived.Test.YtamndgeeibfmhaaDoorVault
import Derived.Deep.RegionLaw
namespace Go.Proofs.YtamndgeeibfmhaaDoor
open Go.RowKit Go.ChangeShapes Go.WideShapes Go.Deep Go.Maps Go.WideMaps
set_option linter.unusedVariables false

/-- what is wrong with what is put -/
def vpE (n many need : Nat) (K : ByteArray → Option (List Int)) (s : ByteArray) (x : Int) (r : List Int) : Int :=
  if 12 < s.size then 4 else if (K s).isSome = true then 7 else if r.length + 1 ≠ need then 3 else if shE x r many ≠ 0 then shE x r many else if n = 20 then 4 else 0
theorem all_cons {x : Int} {r : List Int} (hx : inB x = true) (hr : allIn r r.length = true) : allIn (x :: r) (x :: r).length = true := allIn_of fun i hi => by
  cases i with
  | zero => simpa [gi] using hx
  | succ i =>
    have h2 : gi (x :: r) (i + 1) = gi r i := by simp [gi]
    rw [h2]; exact allIn_at hr (by simpa using hi)
section
variable {X : Nat → Prop} {w : World} {base p M n many need : Nat} {K : ByteArray → Option (List Int)}
set_option maxHeartbeats 1600000 in
set_option maxRecDepth 100000 in
theorem vtput_no (hV : VltX X w base p M n many need K) (s : ByteArray) (hs : s.size ≤ maxLen) (x : Int) (A : Option Addr) (c : Nat) (r : List Int) (hr : r.length ≤ maxLen) (hA : Ints w A r) (h : vpE n many need K s x r ≠ 0) :
    Calls Tryd.prog 25 #[.pointer (some ⟨p, 0, none⟩), .string s, .int .i64 x, .slice A r.length c] w fun e w' => e = .returned (errV (vpE n many need K s x r)) ∧ Below w.heap.size w w' := by
  unfold vpE at h ⊢
  by_cases h12 : 12 < s.size
  · rw [if_pos h12]
    unfold maxLen at hs
    clear h hV
    go_enter Tryd.func25, Tryd.ntmps25
    go_wp2
    go_ret
    exact ⟨rfl, Below.refl _ _⟩
  rw [if_neg h12] at h ⊢
  have hs12 : s.size ≤ 12 := by omega
  clear h12
  obtain ⟨hsf, f, h1, h2⟩ := hV.map
  have hpz := hV.there.lt
  have k0 := hV.there.cell (i := 0) rfl
  have k1 := hV.there.cell (i := 1) rfl
  have k2 := hV.there.cell (i := 2) rfl
  have HM := Lib.hid h1; have HS := Lib.hid (keyS_of hs)
  have hmn := hV.mn
  unfold maxLen at hs hr
  cases hk : K s with
  | some q =>
    obtain ⟨e1, A', c', B, d, e2, _⟩ := (h2 s).2 q hk
    have H1 := Lib.hid e1; have H2 := Lib.hid e2
    rw [if_pos (by simp)]
    clear h h1 h2 e1 e2 hV hk k0 k1
    go_enter Tryd.func25, Tryd.ntmps25
    go_wp2_with (at_lookup; refine wpList_lookup_ok_v rfl _ _ 88 rfl 9 95 lawS Tryd.underlying88 M n n _ hsf f (zeroKept _) rfl HM.out _ _ rfl HS.out ?_; rw [H1.out, H2.out])
    go_ret
    exact ⟨rfl, (by repeat (first | exact Below.refl _ _ | assumption | refine bal ?_ _ | refine bdn ?_ _ | refine bdr ?_ | refine bcl ?_ (by assumption)))⟩
  | none =>
    obtain ⟨e1, e2⟩ := (h2 s).1 hk
    have hkz : kz = .agg #[.slice none 0 0, .slice none 0 0] := rfl
    have H1 := Lib.hid e1; have H2 := Lib.hid e2; have HKZ := Lib.hid hkz
    rw [hk] at h
    rw [if_neg (by simp)] at h ⊢
    have hb0 : Below w.heap.size w (w.alloc (.cells #[.slice none 0 0, .slice none 0 0] 95)) := bal1 _ _
    have j0 := (bcell hb0 p 0 hpz).trans k0
    have j1 := (bcell hb0 p 1 hpz).trans k1
    have j2 := (bcell hb0 p 2 hpz).trans k2
    by_cases h3 : r.length + 1 ≠ need
    · rw [if_pos h3]
      have hq : ((r.length : Int) != (need : Int) - 1) = true := by rw [bne_iff_ne]; omega
      clear h h1 h2 e1 e2 hV hk h3 hkz
      go_enter Tryd.func25, Tryd.ntmps25
      go_wp2_with (at_lookup; refine wpList_lookup_ok_v rfl _ _ 88 rfl 9 95 lawS Tryd.underlying88 M n n _ hsf f (zeroKept _) rfl HM.out _ _ rfl HS.out ?_; rw [H1.out, H2.out, HKZ.out])
      go_ret
      exact ⟨rfl, hb0⟩
    · rw [if_neg h3] at h ⊢
      have hq : ((r.length : Int) != (need : Int) - 1) = false := by simp; omega
      have hq2 : ((need : Int) - 1) = (r.length : Int) := by omega
      by_cases h4 : shE x r many ≠ 0
      · rw [if_pos h4]
        have cd := fun (W : World) (hW : Ints W A r) => deal_no x A c r many h4 W hW
        generalize shE x r many = E at *
        have CD := Lib.hid cd
        clear h h1 h2 e1 e2 hV hk h3 h4 cd hkz hq2
        go_enter Tryd.func25, Tryd.ntmps25
        go_wp2_with (first | (at_lookup; refine wpList_lookup_ok_v rfl _ _ 88 rfl 9 95 lawS Tryd.underlying88 M n n _ hsf f (zeroKept _) rfl HM.out _ _ rfl HS.out ?_; rw [H1.out, H2.out, HKZ.out]) | (go_at_call 51; refine (CD.out _ (hA.below hb0 (Nat.le_refl _))).mono ?_; rintro e w1 ⟨rfl, rfl⟩))
        go_ret
        exact ⟨rfl, hb0⟩
      · rw [if_neg h4] at h ⊢
        have h5 : n = 20 := by
          rcases Decidable.em (n = 20) with e | e
          · exact e
          · rw [if_neg e] at h; exact absurd rfl h
        rw [if_pos h5]
        have cd := fun (W : World) (hW : Ints W A r) => deal_ok x A c r many (by omega) W hW
        have CD := Lib.hid cd
        have hq5 : ((n : Int) == 20) = true := by simp; omega
        clear h h1 h2 e1 e2 hV hk h3 h4 cd hkz hq2 h5
        go_enter Tryd.func25, Tryd.ntmps25
        go_wp2_with (first | (at_lookup; refine wpList_lookup_ok_v rfl _ _ 88 rfl 9 95 lawS Tryd.underlying88 M n n _ hsf f (zeroKept _) rfl HM.out _ _ rfl HS.out ?_; rw [H1.out, H2.out, HKZ.out]) | (go_at_call 51; refine (CD.out _ (hA.below hb0 (Nat.le_refl _))).mono ?_; rintro e w1 ⟨A1, c1, rfl, ho1, hb1⟩; have hb2 := bcl hb0 hb1; have l2 := (hb2.cell (p := ⟨p, 2, none⟩) hpz).trans k2; have HM2 := Lib.hid (HM.out.keep hb2); clear ho1) | (at_len; refine wpList_len_v rfl _ 88 rfl 9 95 Tryd.underlying88 M n n _ hsf f rfl HM2.out ?_))
        go_ret
        exact ⟨rfl, hb2⟩
theorem vpE_zero {s : ByteArray} {x : Int} {r : List Int} (h : vpE n many need K s x r = 0) : s.size ≤ 12 ∧ K s = none ∧ r.length + 1 = need ∧ shE x r many = 0 ∧ n ≠ 20 := by
  unfold vpE at h
  split at h
  · cases h
  · split at h
    · cases h
    · rename_i h2
      split at h
      · cases h
      · split at h
        · rename_i h4; exact absurd h h4
        · split at h
          · cases h
          · exact ⟨by omega, by simpa using h2, by omega, by omega, by assumption⟩
/-- behind a put -/
theorem VltX.put {w3 w5 : World} (hV : VltX X w base p M n many need K) {s : ByteArray} {q : List Int} (hk : K s = none) (hn : n ≠ 20) (hq : q.length = need ∧ allIn q q.length = true) {hsf : Lit → Bool} {f : Lit → Value}
    (h2 : ∀ s : ByteArray, (K s = none → hsf (keyS s) = false ∧ f (keyS s) = kz) ∧ ∀ q, K s = some q → hsf (keyS s) = true ∧ Kin X w base many q (f (keyS s)))
    (hb3 : Below w.heap.size w w3) {val : Value} (hval : Kin X w3 base many q val) {hs5 : Lit → Bool} {f5 : Lit → Value} (h5 : VMap w5 9 M (n + 1) (if hsf (keyS s) = true then n else n + 1) kz hs5 f5) (g5 : w3.grownBy w5 (some M))
    (e1 : ∀ l, l = keyS s → hs5 l = true ∧ f5 l = val) (e2 : ∀ l, l ≠ keyS s → hs5 l = hsf l ∧ f5 l = f l) :
    VltX X w5 base p M (n + 1) many need (fun t => if t = s then some q else K t) ∧ Chs (fun b => b = M) w w5 := by
  have hM := hV.isMap
  have hM3 : ∃ es clock, w3.heap[M]? = some (.map es clock) := by obtain ⟨es, ck, h⟩ := hM; exact ⟨es, ck, (hb3.block M hV.lt.2).trans h⟩
  have hc35 : Chs (fun b => b = M) w3 w5 := (Chs.grown g5).mono fun b hb => (Option.some.inj hb).symm
  have hc : Chs (fun b => b = M) w w5 := (Chs.of_below _ hb3).trans hc35 (fun b hb => .inl hb)
  have hpm : p ≠ M := fun e => not_kin_of_map hM (by rw [← e]; exact hV.there.kin)
  have hnk : ∀ W, (∃ es clock, W.heap[M]? = some (.map es clock)) → ∀ b, b = M → base ≤ b ∧ ¬ kin W b 64 ∧ (¬ kin W b 3 ∨ X b) := fun W hW b hb => by
    subst hb; exact ⟨hV.hM, fun h => not_kin_of_map hW h, .inl fun h => not_kin_of_map hW h⟩
  rw [((h2 s).1 hk).1, if_neg (by simp)] at h5
  refine ⟨⟨hV.there.chs hc hpm, ⟨_, _, h5, fun t => ?_⟩, hV.hp, hV.hM, Nat.le_trans hV.hb hc.size, fun t q' ht => ?_, hV.mn, by have := hV.n20; omega⟩, hc⟩
  · by_cases e : t = s
    · subst e
      obtain ⟨g1, g2⟩ := e1 _ rfl
      refine ⟨fun h => by simp at h, fun q' hq' => ?_⟩
      simp at hq'; subst hq'
      rw [g1, g2]
      exact ⟨rfl, hval.chs (Nat.le_trans hV.hb hb3.size) hc35 (hnk w3 hM3)⟩
    · have hne : keyS t ≠ keyS s := fun h => e (keyS_inj h)
      obtain ⟨g1, g2⟩ := e2 _ hne
      rw [g1, g2]
      simp only [if_neg e]
      exact ⟨(h2 t).1, fun q' hq' => ⟨((h2 t).2 q' hq').1, ((h2 t).2 q' hq').2.chs hV.hb hc (hnk w hM)⟩⟩
  · by_cases e : t = s
    · simp [e] at ht; subst ht; exact hq
    · simp [e] at ht; exact hV.ok t q' ht
set_option maxHeartbeats 1600000 in
set_option maxRecDepth 100000 in
theorem vtput_okX (hX : ∀ b, X b → b < w.heap.size) (hV : VltX X w base p M n many need K) (s : ByteArray) (x : Int) (A : Option Addr) (c : Nat) (r : List Int) (hA : Ints w A r) (h : vpE n many need K s x r = 0) :
    Calls Tryd.prog 25 #[.pointer (some ⟨p, 0, none⟩), .string s, .int .i64 x, .slice A r.length c] w fun e w' => e = .returned .nilIface ∧ VltX X w' base p M (n + 1) many need (fun t => if t = s then some (x :: r) else K t) ∧ Chs (fun b => b = M) w w' := by
  obtain ⟨hs12, hk, hrl, he, hn20⟩ := vpE_zero h
  obtain ⟨sx, sr6, sra, smn, slt⟩ := shE_zero he
  obtain ⟨hsf, f, h1, h2⟩ := hV.map
  have hpz := hV.there.lt
  have k0 := hV.there.cell (i := 0) rfl
  have k1 := hV.there.cell (i := 1) rfl
  have k2 := hV.there.cell (i := 2) rfl
  have hmn := hV.mn
  have hall := all_cons sx sra
  obtain ⟨e1, e2⟩ := (h2 s).1 hk
  have hkz : kz = .agg #[.slice none 0 0, .slice none 0 0] := rfl
  have hb0 : Below w.heap.size w (w.alloc (.cells #[.slice none 0 0, .slice none 0 0] 95)) := bal1 _ _
  have j0 := (bcell hb0 p 0 hpz).trans k0
  have j1 := (bcell hb0 p 1 hpz).trans k1
  have j2 := (bcell hb0 p 2 hpz).trans k2
  have hq : ((r.length : Int) != (need : Int) - 1) = false := by simp; omega
  have hq5 : ((n : Int) == 20) = false := beq_eq_false_iff_ne.2 (by omega)
  have cd := fun (W : World) (hW : Ints W A r) => deal_ok x A c r many he W hW
  have hdl := dealL_length (x :: r) many
  have cf := fun (W : World) (hW : Ints W A r) => shfactors_any x A c r (by omega) W hW
  have co := fun (W : World) (B : Option Addr) (d : Nat) (hW : Ints W B (x :: r)) => of_any B d (x :: r) (by simp; omega) hall W hW
  simp only [List.length_cons] at co
  have hn63 : n < maxLen := by have := hV.n20; unfold maxLen; omega
  have CD := Lib.hid cd; have CF := Lib.hid cf; have CO := Lib.hid co; have HM := Lib.hid h1; have HS := Lib.hid (keyS_of (show s.size ≤ maxLen by unfold maxLen; omega)); have H1 := Lib.hid e1; have H2 := Lib.hid e2; have HKZ := Lib.hid hkz; have HH2 := Lib.hid h2; have HV := Lib.hid hV; have HK := Lib.hid hk; have HN := Lib.hid hn20; have HALL := Lib.hid hall; have HRL := Lib.hid hrl; have HB0 := Lib.hid hb0; have HA := Lib.hid hA; have HDL := Lib.hid hdl; have HN63 := Lib.hid hn63; have HX := Lib.hid hX
  clear hX cd cf co h1 h2 e1 e2 hkz hV hk hn20 hall hrl hb0 h he sx sr6 sra smn slt hA hdl hn63
  go_enter Tryd.func25, Tryd.ntmps25
  go_wp2_with (first
    | (at_lookup; refine wpList_lookup_ok_v rfl _ _ 88 rfl 9 95 lawS Tryd.underlying88 M n n _ hsf f (zeroKept _) rfl HM.out _ _ rfl HS.out ?_; rw [H1.out, H2.out, HKZ.out])
    | (go_at_call 51; refine (CD.out _ (HA.out.below HB0.out (Nat.le_refl _))).mono ?_; rintro e w1 ⟨A1, c1, rfl, ho1, hb1⟩; have hb2 := bcl HB0.out hb1; have l2 := (hb2.cell (p := ⟨p, 2, none⟩) hpz).trans k2; have HM2 := Lib.hid (HM.out.keep hb2); have HBB := Lib.hid hb2; have HO1 := Lib.hid ho1; clear ho1 hb1 hb2)
    | (at_len; refine wpList_len_v rfl _ 88 rfl 9 95 Tryd.underlying88 M n n _ hsf f rfl HM2.out ?_))
  have hp1 : p < w1.heap.size := Nat.lt_of_lt_of_le hpz HBB.out.size
  have HA1 := Lib.hid (show Ints w1.drew A r from Sl.drew (HA.out.below HBB.out (Nat.le_refl _)))
  go_region_law (first
    | (go_simp; go_at_call 53; refine (CF.out _ HA1.out).mono ?_; rintro e w2 ⟨A2, c2, rfl, ho2, hb2⟩; have HB2 := Lib.hid (show Below w1.heap.size w1 w2 from bcl (bdr (Below.refl _ _)) hb2); have l3 := (HB2.out.cell (p := ⟨p, 2, none⟩) hp1).trans l2; have HO2 := Lib.hid ho2.ints; clear ho2 hb2; try dsimp only)
    | (go_simp; go_at_call 52; refine (CO.out _ _ _ HO2.out).mono ?_; rintro e w3 ⟨A3, c3, rfl, ho3, hb3⟩; have HB3 := Lib.hid (bcl HB2.out hb3); have l4 := (HB3.out.cell (p := ⟨p, 2, none⟩) hp1).trans l2; have HO3 := Lib.hid ho3; clear ho3 hb3; obtain ⟨w5, hup, hv5, hg5⟩ := run_update_v (w := w3) 88 9 95 lawS Tryd.underlying88 M n n _ hsf f (HM2.out.keep HB3.out) HN63.out (.string s) (keyS s) HS.out (keyS_lit s) (.agg #[.slice A1 many c1, .slice A3 (r.length + 1) c3]); have HV5 := Lib.hid hv5; have HG5 := Lib.hid hg5; clear hv5 hg5; try dsimp only))
  all_goals
    go_wp2_with fail
    go_ret
    have hbw : Below w.heap.size w w3 := bcl HBB.out HB3.out
    have hbs := HV.out.hb
    have ho1 := HO1.out.keep HB3.out
    have hc1 := ho1.cap
    have hc3 := HO3.out.cap
    rw [HDL.out] at hc1
    rw [cmt_length, List.length_cons] at hc3
    have hkin : Kin X w3 base many (x :: r) (.agg #[.slice A1 many c1, .slice A3 (x :: r).length c3]) := ⟨A1, c1, A3, c3, rfl, ho1.shares, hc1, Inn.own ho1, HO3.out.ints, hc3, Inn.own HO3.out, fun a ha hx => by subst ha; have := (own_block_of HO3.out (g := a.block) rfl).1; have := HX.out _ hx; have := HB2.out.size; have := HBB.out.size; omega⟩
    have hvp := HV.out.put (q := x :: r) HK.out HN.out ⟨by rw [List.length_cons]; exact HRL.out, HALL.out⟩ HH2.out hbw hkin HV5.out HG5.out (fun l e => by simp [e]) (fun l e => by simp [e])
    exact ⟨rfl, hvp.1, hvp.2⟩
theorem vtput_ok {w : World} {base p M n many need : Nat} {K : ByteArray → Option (List Int)} (hV : Vlt w base p M n many need K) (s : ByteArray) (x : Int) (A : Option Addr) (c : Nat) (r : List Int) (hA : Ints w A r) (h : vpE n many need K s x r = 0) :
    Calls Tryd.prog 25 #[.pointer (some ⟨p, 0, none⟩), .string s, .int .i64 x, .slice A r.length c] w fun e w' => e = .returned .nilIface ∧ Vlt w' base p M (n + 1) many need (fun t => if t = s then some (x :: r) else K t) ∧ Chs (fun b => b = M) w w' := vtput_okX (fun _ h => h.elim) hV s x A c r hA h
end
end Go.Proofs.YtamndgeeibfmhaaDoor
