/- Vault.Get. -/
import Derived.Test.YtamndgeeibfmhaaDoorVaultPut
import Derived.Test.YtamndgeeibfmhaaDoorPolyThr
namespace Go.Proofs.YtamndgeeibfmhaaDoor
open Go.RowKit Go.ChangeShapes Go.WideShapes Go.Deep Go.Maps Go.WideMaps
set_option linter.unusedVariables false

/-! ### plain: the good ones -/
theorem ga_app_lt {l : List Sh} {x : Sh} {i : Nat} (h : i < l.length) : ga (l ++ [x]) i = ga l i ∧ gb (l ++ [x]) i = gb l i := by
  simp only [ga, gb, List.getD_eq_getElem?_getD]; rw [List.getElem?_append_left h]; exact ⟨rfl, rfl⟩
theorem ga_app_eq {l : List Sh} {x : Sh} : ga (l ++ [x]) l.length = x.1 ∧ gb (l ++ [x]) l.length = x.2 := by
  simp [ga, gb, List.getD_eq_getElem?_getD]
/-- of the first k those that are true, each but once -/
def gdL (q : List Int) (l : List Sh) : Nat → List Sh
  | 0 => []
  | k + 1 => if ((gb l k == PM.hor q (ga l k)) && !(hasB (gdL q l k) (ga l k) (gb l k))) = true then gdL q l k ++ [(ga l k, gb l k)] else gdL q l k
theorem gdL_le (q : List Int) (l : List Sh) (k : Nat) : (gdL q l k).length ≤ k := by
  induction k with
  | zero => simp [gdL]
  | succ k ih =>
    rw [gdL]
    split
    · rw [List.length_append, List.length_singleton]; omega
    · omega
structure Good (q : List Int) (l : List Sh) (k : Nat) (g : List Sh) : Prop where
  src : ∀ i, i < g.length → ∃ j, j < k ∧ ga g i = ga l j ∧ gb g i = gb l j
  true_ : ∀ i, i < g.length → gb g i = PM.hor q (ga g i)
  ne : ∀ i j, i < g.length → j < g.length → i ≠ j → ga g i ≠ ga g j
  all : ∀ j, j < k → gb l j = PM.hor q (ga l j) → ∃ i, i < g.length ∧ ga g i = ga l j
theorem gdL_good (q : List Int) (l : List Sh) (k : Nat) : Good q l k (gdL q l k) := by
  induction k with
  | zero => exact ⟨fun i h => by simp [gdL] at h, fun i h => by simp [gdL] at h, fun i j h => by simp [gdL] at h, fun j h => absurd h (by omega)⟩
  | succ k ih =>
    rw [gdL]
    by_cases h : ((gb l k == PM.hor q (ga l k)) && !(hasB (gdL q l k) (ga l k) (gb l k))) = true
    · rw [if_pos h]
      rw [Bool.and_eq_true, beq_iff_eq, Bool.not_eq_true'] at h
      obtain ⟨h1, h2⟩ := h
      generalize gdL q l k = G at *
      have hnew : ∀ i, i < G.length → ga G i ≠ ga l k := fun i hi e => by
        have h3 : hasB G (ga l k) (gb l k) = true := hasB_true.2 ⟨i, hi, e, by rw [ih.true_ i hi, e, ← h1]⟩
        rw [h3] at h2; cases h2
      refine ⟨fun i hi => ?_, fun i hi => ?_, fun i j hi hj hne => ?_, fun j hj ht => ?_⟩
      · rw [List.length_append, List.length_singleton] at hi
        rcases Nat.lt_or_ge i G.length with hl | hl
        · obtain ⟨j, hj, e1, e2⟩ := ih.src i hl
          exact ⟨j, by omega, (ga_app_lt hl).1.trans e1, (ga_app_lt hl).2.trans e2⟩
        · obtain rfl : i = G.length := by omega
          exact ⟨k, by omega, ga_app_eq.1, ga_app_eq.2⟩
      · rw [List.length_append, List.length_singleton] at hi
        rcases Nat.lt_or_ge i G.length with hl | hl
        · rw [(ga_app_lt hl).1, (ga_app_lt hl).2]; exact ih.true_ i hl
        · obtain rfl : i = G.length := by omega
          rw [ga_app_eq.1, ga_app_eq.2]; exact h1
      · rw [List.length_append, List.length_singleton] at hi hj
        rcases Nat.lt_or_ge i G.length with hl | hl
        · rw [(ga_app_lt hl).1]
          rcases Nat.lt_or_ge j G.length with hm | hm
          · rw [(ga_app_lt hm).1]; exact ih.ne i j hl hm hne
          · obtain rfl : j = G.length := by omega
            rw [ga_app_eq.1]; exact hnew i hl
        · obtain rfl : i = G.length := by omega
          rcases Nat.lt_or_ge j G.length with hm | hm
          · rw [(ga_app_lt hm).1, ga_app_eq.1]; exact fun e => hnew j hm e.symm
          · omega
      · rw [List.length_append, List.length_singleton]
        rcases Nat.lt_or_ge j k with hl | hl
        · obtain ⟨i, hi, e⟩ := ih.all j hl ht
          exact ⟨i, by omega, (ga_app_lt hi).1.trans e⟩
        · obtain rfl : j = k := by omega
          exact ⟨G.length, by omega, ga_app_eq.1⟩
    · rw [if_neg h]
      refine ⟨fun i hi => ?_, ih.true_, ih.ne, fun j hj ht => ?_⟩
      · obtain ⟨j, hj, e⟩ := ih.src i hi
        exact ⟨j, by omega, e⟩
      · rcases Nat.lt_or_ge j k with hl | hl
        · exact ih.all j hl ht
        · obtain rfl : j = k := by omega
          rw [Bool.and_eq_true, beq_iff_eq, Bool.not_eq_true'] at h
          have h3 : hasB (gdL q l j) (ga l j) (gb l j) = true := by
            cases hh : hasB (gdL q l j) (ga l j) (gb l j) with
            | true => rfl
            | false => exact absurd ⟨ht, hh⟩ h
          obtain ⟨i, hi, e1, _⟩ := hasB_true.1 h3
          exact ⟨i, hi, e1⟩
/-- a share that may not be -/
def badB (many : Nat) (l : List Sh) (i : Nat) : Bool := !(atB many (ga l i)) || !(inB (gb l i))
theorem badB_false {many : Nat} {l : List Sh} {i : Nat} : badB many l i = false ↔ atB many (ga l i) = true ∧ inB (gb l i) = true := by simp [badB]
theorem good_pts {many : Nat} {q : List Int} {l g : List Sh} {k : Nat} (h7 : many ≤ 7) (h : Good q l k g) (hb : ∀ i, i < k → badB many l i = false) : PM.Pts (ga g) (gb g) g.length :=
  ⟨fun i hi => by obtain ⟨j, hj, e, _⟩ := h.src i hi; rw [e]; have := atB_true.1 (badB_false.1 (hb j hj)).1; omega,
   fun i hi => by obtain ⟨j, hj, _, e⟩ := h.src i hi; rw [e]; have := inB_true.1 (badB_false.1 (hb j hj)).2; omega, h.ne⟩
/-- what Get tells -/
def vgE (many need : Nat) (q : List Int) (l : List Sh) : Int := if 30 < l.length then 4 else if anyS (badB many l) l.length = true then 1 else if (gdL q l l.length).length < need then 5 else 0
def vgV (need : Nat) (q : List Int) (l : List Sh) : Int := thrL ((gdL q l l.length).take need) 0
theorem vtgetc_any (a b : Int) (p many : Nat) (bx : Addr) (w : World) (hbx : w.cell? bx = some (.pointer (some ⟨p, 0, none⟩))) (hc : w.cell? ⟨p, 0, none⟩ = some (.int .i64 many)) :
    Calls Tryd.prog 55 #[.agg #[.int .i64 a, .int .i64 b], .pointer (some bx)] w fun e w' => e = .returned (.bool (!(atB many a) || !(inB b))) ∧ Below w.heap.size w w' := by
  have hpz := lt_of_cell hc
  have hbz := lt_of_cell hbx
  have hb0 : Below w.heap.size w (w.alloc (.cells #[.int .i64 a, .int .i64 b] 64)) := bal1 _ _
  have k0 := (hb0.cell (p := ⟨p, 0, none⟩) hpz).trans hc
  have k1 := (hb0.cell (p := bx) hbz).trans hbx
  have c1 := fun (W : World) (h : W.cell? ⟨p, 0, none⟩ = some (.int .i64 many)) => vtat_any a p many W h
  have c2 := fun (W : World) => in_any b W
  cases h1 : atB many a with
  | false =>
    rw [h1] at c1
    have C1 := Lib.hid c1; clear c1 h1 c2
    go_enter Tryd.func55, Tryd.ntmps55
    go_wp2_with (go_at_call 56; refine (C1.out _ k0).mono ?_; rintro e w1 ⟨rfl, rfl⟩)
    go_ret
    exact ⟨rfl, hb0⟩
  | true =>
    rw [h1] at c1
    cases h2 : inB b with
    | false =>
      rw [h2] at c2
      have C1 := Lib.hid c1; have C2 := Lib.hid c2; clear c1 h1 c2 h2
      go_enter Tryd.func55, Tryd.ntmps55
      go_wp2_with (first | (go_at_call 56; refine (C1.out _ k0).mono ?_; rintro e w1 ⟨rfl, rfl⟩) | (go_at_call 57; refine (C2.out _).mono ?_; rintro e w1 ⟨rfl, rfl⟩))
      go_ret
      exact ⟨rfl, hb0⟩
    | true =>
      rw [h2] at c2
      have C1 := Lib.hid c1; have C2 := Lib.hid c2; clear c1 h1 c2 h2
      go_enter Tryd.func55, Tryd.ntmps55
      go_wp2_with (first | (go_at_call 56; refine (C1.out _ k0).mono ?_; rintro e w1 ⟨rfl, rfl⟩) | (go_at_call 57; refine (C2.out _).mono ?_; rintro e w1 ⟨rfl, rfl⟩))
      go_ret
      exact ⟨rfl, hb0⟩
section
variable {X : Nat → Prop} {w : World} {base p M n many need : Nat} {K : ByteArray → Option (List Int)}
set_option maxHeartbeats 800000 in
set_option maxRecDepth 100000 in
theorem vtget_none (hV : VltX X w base p M n many need K) (s : ByteArray) (hs : s.size ≤ maxLen) (A : Option Addr) (c : Nat) (l : List Sh) (h : K s = none) :
    Calls Tryd.prog 29 #[.pointer (some ⟨p, 0, none⟩), .string s, .slice A l.length c] w fun e w' => e = .returned (.tuple #[.int .i64 0, errV 5]) ∧ Below w.heap.size w w' := by
  obtain ⟨hsf, f, h1, h2⟩ := hV.map
  obtain ⟨e1, e2⟩ := (h2 s).1 h
  have hpz := hV.there.lt
  have hb0 : Below w.heap.size w (w.alloc (.cells #[.pointer (some ⟨p, 0, none⟩)] 54)) := bal1 _ _
  have k2 := (bcell hb0 p 2 hpz).trans (hV.there.cell (i := 2) rfl)
  have HM := Lib.hid (h1.keep hb0); have H1 := Lib.hid e1; have H2 := Lib.hid e2; have HS := Lib.hid (keyS_of hs)
  have hkz : kz = .agg #[.slice none 0 0, .slice none 0 0] := rfl
  have HKZ := Lib.hid hkz
  clear h1 h2 e1 e2 hs h hV hkz
  go_enter Tryd.func29, Tryd.ntmps29
  go_wp2_with (at_lookup; refine wpList_lookup_ok_v rfl _ _ 88 rfl 9 95 lawS Tryd.underlying88 M n n _ hsf f (zeroKept _) rfl HM.out _ _ rfl HS.out ?_; rw [H1.out, H2.out, HKZ.out])
  go_ret2
  exact ⟨rfl, (by repeat (first | exact Below.refl _ _ | assumption | refine bal ?_ _ | refine bdn ?_ _ | refine bdr ?_ | refine bcl ?_ (by assumption)))⟩
set_option maxHeartbeats 3200000 in
set_option maxRecDepth 100000 in
theorem vtget_any (hV : VltX X w base p M n many need K) (s : ByteArray) (hs : s.size ≤ maxLen) (A : Option Addr) (c : Nat) (l : List Sh) (hlc : l.length ≤ c) (hcm : c ≤ maxLen) (hA : Shares w A l) (q : List Int) (h : K s = some q) :
    Calls Tryd.prog 29 #[.pointer (some ⟨p, 0, none⟩), .string s, .slice A l.length c] w fun e w' => e = .returned (.tuple (if vgE many need q l = 0 then #[.int .i64 (vgV need q l), .nilIface] else #[.int .i64 0, errV (vgE many need q l)])) ∧ Below w.heap.size w w' := by
  obtain ⟨hsf, f, h1, h2⟩ := hV.map
  obtain ⟨e1, A1, c1, B, d, e2, _, _, _, hci, _⟩ := (h2 s).2 q h
  have hpz := hV.there.lt
  have hq := hV.ok s q h
  have hmn := hV.mn
  have hcl := cmt_length q
  have hb0 : Below w.heap.size w (w.alloc (.cells #[.pointer (some ⟨p, 0, none⟩)] 54)) := bal1 _ _
  have k0 := hV.there.cell (i := 0) rfl
  have k1 := hV.there.cell (i := 1) rfl
  have k2 := hV.there.cell (i := 2) rfl
  have j2 := (bcell hb0 p 2 hpz).trans k2
  obtain ⟨W1, hW1⟩ : ∃ W1, W1 = (w.alloc (.cells #[.pointer (some ⟨p, 0, none⟩)] 54)).alloc (.cells #[.slice A1 many c1, .slice B q.length d] 95) := ⟨_, rfl⟩
  have hb1 : Below w.heap.size w W1 := by rw [hW1]; exact bal hb0 _
  have l0 := (hb1.cell (p := ⟨p, 0, none⟩) hpz).trans k0
  have l1 := (hb1.cell (p := ⟨p, 1, none⟩) hpz).trans k1
  have b0 : W1.cell? ⟨w.heap.size, 0, none⟩ = some (.pointer (some ⟨p, 0, none⟩)) := by
    rw [hW1, World.cell?_alloc_lt _ _ ⟨w.heap.size, 0, none⟩ (by simp)]; simp
  have b1 : W1.cell? ⟨w.heap.size + 1, 1, none⟩ = some (.slice B q.length d) := by rw [hW1]; simp
  have hz1 : w.heap.size + 1 < W1.heap.size := lt_of_cell b1
  have hp1 : p < W1.heap.size := by omega
  have HM := Lib.hid (h1.keep hb0); have H1 := Lib.hid e1; have H2 := Lib.hid e2; have HS := Lib.hid (keyS_of hs)
  have HB1 := Lib.hid hb1; have HCI := Lib.hid (hci.below hb1 (Nat.le_refl _)); have HA := Lib.hid (hA.below hb1 (Nat.le_refl _))
  have HW := Lib.hid hW1; have L := Lib.hid (And.intro l0 (And.intro l1 (And.intro b0 b1)))
  unfold maxLen at hs hcm
  clear h1 h2 e1 e2 h hV hci hA k0 k1 hb0 hb1 hW1 l0 l1 b0 b1
  unfold vgE
  by_cases h30 : 30 < l.length
  · rw [if_pos h30]
    clear hq hmn hcl
    go_enter Tryd.func29, Tryd.ntmps29
    go_wp2_with (at_lookup; refine wpList_lookup_ok_v rfl _ _ 88 rfl 9 95 lawS Tryd.underlying88 M n n _ hsf f (zeroKept _) rfl HM.out _ _ rfl HS.out ?_; rw [H1.out, H2.out])
    go_ret2
    rw [← HW.out]
    exact ⟨rfl, HB1.out⟩
  · rw [if_neg h30]
    have h30' : l.length ≤ 30 := by omega
    clear h30
    have cc := shconF_any A c l (by unfold maxLen; omega) 55 (.pointer (some ⟨w.heap.size, 0, none⟩)) (badB many l) W1 HA.out (fun W hb i hi => vtgetc_any (ga l i) (gb l i) p many ⟨w.heap.size, 0, none⟩ W ((hb.cell (p := ⟨w.heap.size, 0, none⟩) (by simp only; omega)).trans L.out.2.2.1) ((hb.cell (p := ⟨p, 0, none⟩) hp1).trans L.out.1)) (enters_of Tryd.func55 (by kernel_rfl) rfl)
    rw [HW.out] at cc
    cases hbad : anyS (badB many l) l.length with
    | true =>
      rw [if_pos (show (true : Bool) = true from rfl)]
      rw [hbad] at cc
      have CC := Lib.hid cc
      clear cc hbad hq hmn hcl
      go_enter Tryd.func29, Tryd.ntmps29
      go_wp2_with (first | (at_lookup; refine wpList_lookup_ok_v rfl _ _ 88 rfl 9 95 lawS Tryd.underlying88 M n n _ hsf f (zeroKept _) rfl HM.out _ _ rfl HS.out ?_; rw [H1.out, H2.out]) | (go_at_call 54; refine CC.out.mono ?_; rintro e w2 ⟨rfl, hb2⟩))
      go_ret2
      rw [← HW.out] at hb2
      exact ⟨rfl, bcl HB1.out hb2⟩
    | false =>
      rw [if_neg (show ¬ ((false : Bool) = true) by decide)]
      rw [hbad] at cc
      have CC := Lib.hid cc
      have HBAD := Lib.hid (anyS_false.1 hbad)
      have hg := gdL_good q l l.length
      have hgl := gdL_le q l l.length
      have hpts := good_pts hmn.2.2 hg (anyS_false.1 hbad)
      have hgn := fun k => gdL_le q l k
      have hgs := fun k => (show gdL q l (k + 1) = if ((gb l k == PM.hor q (ga l k)) && !(hasB (gdL q l k) (ga l k) (gb l k))) = true then gdL q l k ++ [(ga l k, gb l k)] else gdL q l k from rfl)
      have htr := fun (k : Nat) (hk : k < l.length) => true_any B d (cmt q) (ga l k) (gb l k) (by rw [hcl]; omega) (cmt_all q) (by have := atB_true.1 (badB_false.1 (HBAD.out k hk)).1; omega) (by have := atB_true.1 (badB_false.1 (HBAD.out k hk)).1; omega) (inB_true.1 (badB_false.1 (HBAD.out k hk)).2).1 (inB_true.1 (badB_false.1 (HBAD.out k hk)).2).2
      have htc := fun (k : Nat) (hk : k < l.length) => truB_cmt q hq.2 (ga l k) (gb l k) (inB_true.1 (badB_false.1 (HBAD.out k hk)).2).1 (inB_true.1 (badB_false.1 (HBAD.out k hk)).2).2
      rw [hcl] at htr
      have HTR := Lib.hid htr; have HTC := Lib.hid htc; have HGS := Lib.hid hgs; have HGN := Lib.hid hgn; have HPTS := Lib.hid hpts; have HMN := Lib.hid hmn
      clear cc hbad hg hpts hgn hgs htr htc hq hcl
      go_enter Tryd.func29, Tryd.ntmps29
      go_wp2_with (first | (at_lookup; refine wpList_lookup_ok_v rfl _ _ 88 rfl 9 95 lawS Tryd.underlying88 M n n _ hsf f (zeroKept _) rfl HM.out _ _ rfl HS.out ?_; rw [H1.out, H2.out]) | (go_at_call 54; refine CC.out.mono ?_; rintro e w2 ⟨rfl, hb2⟩; have HB2 := Lib.hid hb2; clear hb2))
      rw [← HW.out] at HB2
      have hz2 := HB2.out.size
      go_loopw [10, 12, 38] (fun o _ i wr => ∃ (k : Nat) (A' : Option Addr) (c' : Nat), k ≤ l.length ∧ i = .int .i64 k ∧ o = .slice A' (gdL q l k).length c' ∧ Hid (OShares wr W1.heap.size A' c' (gdL q l k)) ∧ Hid (Below W1.heap.size W1 wr)) (fun _ _ i _ => l.length - (intOf i).toNat)
      case atStart => exact ⟨0, none, 0, Nat.zero_le _, rfl, rfl, OShares.nil, HB2⟩
      case round =>
        obtain ⟨k, A', c', hk, rfl, rfl, HO, HBL⟩ := hrel
        have hzr := HBL.out.size
        have m0 := (HBL.out.cell (p := ⟨p, 0, none⟩) hp1).trans L.out.1
        have m1 := (HBL.out.cell (p := ⟨p, 1, none⟩) hp1).trans L.out.2.1
        have m2 := (HBL.out.cell (p := ⟨w.heap.size, 0, none⟩) (by simp only; omega)).trans L.out.2.2.1
        have m3 := (HBL.out.cell (p := ⟨w.heap.size + 1, 1, none⟩) hz1).trans L.out.2.2.2
        by_cases hlt : k < l.length
        · obtain ⟨b, off, rfl, hbl, c0, c1'⟩ := (HA.out.below HBL.out (Nat.le_refl _)).at_ hlt
          have ct := fun (W : World) (hW : Ints W B (cmt q)) => HTR.out k hlt W hW
          rw [HTC.out k hlt] at ct
          have hgs := HGS.out k
          have hgn := HGN.out k
          have hl6 : (gdL q l k).length ≤ 1000000 := by omega
          have hzw : w.heap.size + 1 < wr.heap.size := by omega
          have ch := fun (W : World) (hW : Shares W A' (gdL q l k)) => shhas_any A' c' (gdL q l k) (ga l k) (gb l k) (by unfold maxLen; omega) W hW
          have HG1 := Lib.hid (HGS.out k)
          generalize ga l k = a at *
          generalize gb l k = b2 at *
          cases ht : (b2 == PM.hor q a) with
          | false =>
            rw [ht] at ct hgs
            rw [Bool.false_and, if_neg (by decide)] at hgs
            have CT := Lib.hid ct; have HS1 := Lib.hid hgs
            clear ct hgs ht ch HG1
            go_wp2_with (go_at_call 58; refine (CT.out _ (HCI.out.below (bal HBL.out _) (Nat.le_refl _))).mono ?_; rintro e w3 ⟨rfl, hb3⟩; have HB3 := Lib.hid (bcl (bal (Below.refl wr.heap.size wr) (.cells #[.int .i64 a, .int .i64 b2] 64)) hb3); clear hb3)
            go_roundw
            case rel => exact ⟨k + 1, A', c', by omega, by go_num, by rw [HS1.out], Lib.hid (by rw [HS1.out]; exact HO.out.keep HB3.out), Lib.hid (bcl HBL.out HB3.out)⟩
            case measure => simp [intOf]; omega
          | true =>
            rw [ht] at ct hgs
            rw [Bool.true_and] at hgs
            cases hh : hasB (gdL q l k) a b2 with
            | true =>
              rw [hh] at hgs ch
              rw [if_neg (by decide)] at hgs
              have CT := Lib.hid ct; have HS1 := Lib.hid hgs; have CH := Lib.hid ch
              clear ct hgs ht ch HG1 hh
              go_wp2_with (first
                | (go_at_call 58; refine (CT.out _ (HCI.out.below (bal HBL.out _) (Nat.le_refl _))).mono ?_; rintro e w3 ⟨rfl, hb3⟩; have HB3 := Lib.hid (bcl (bal (Below.refl wr.heap.size wr) (.cells #[.int .i64 a, .int .i64 b2] 64)) hb3); have x0 := (hb3.cell (p := ⟨wr.heap.size, 0, none⟩) (by simp)).trans (AtNew wr (.int .i64 a) (.int .i64 b2) 64).1; have x1 := (hb3.cell (p := ⟨wr.heap.size, 1, none⟩) (by simp)).trans (AtNew wr (.int .i64 a) (.int .i64 b2) 64).2; clear hb3)
                | (go_at_call 59; refine (CH.out _ (HO.out.keep HB3.out).shares).mono ?_; rintro e w4 ⟨rfl, hb4⟩; have HB4 := Lib.hid (bcl HB3.out hb4); clear hb4))
              go_roundw
              case rel => exact ⟨k + 1, A', c', by omega, by go_num, by rw [HS1.out], Lib.hid (by rw [HS1.out]; exact HO.out.keep HB4.out), Lib.hid (bcl HBL.out HB4.out)⟩
              case measure => simp [intOf]; omega
            | false =>
              rw [hh] at hgs ch
              rw [if_pos (by decide)] at hgs
              have CT := Lib.hid ct; have HS1 := Lib.hid hgs; have CH := Lib.hid ch
              clear ct hgs ht ch HG1 hh
              go_wp2_with (first
                | (go_at_call 58; refine (CT.out _ (HCI.out.below (bal HBL.out _) (Nat.le_refl _))).mono ?_; rintro e w3 ⟨rfl, hb3⟩; have HB3 := Lib.hid (bcl (bal (Below.refl wr.heap.size wr) (.cells #[.int .i64 a, .int .i64 b2] 64)) hb3); have x0 := (hb3.cell (p := ⟨wr.heap.size, 0, none⟩) (by simp)).trans (AtNew wr (.int .i64 a) (.int .i64 b2) 64).1; have x1 := (hb3.cell (p := ⟨wr.heap.size, 1, none⟩) (by simp)).trans (AtNew wr (.int .i64 a) (.int .i64 b2) 64).2; have hl3 : wr.heap.size < w3.heap.size := lt_of_cell x0; clear hb3)
                | (go_at_call 59; refine (CH.out _ (HO.out.keep HB3.out).shares).mono ?_; rintro e w4 ⟨rfl, hb4⟩; have HB4 := Lib.hid (bcl HB3.out hb4); have y0 := (hb4.cell (p := ⟨wr.heap.size, 0, none⟩) hl3).trans x0; have y1 := (hb4.cell (p := ⟨wr.heap.size, 1, none⟩) hl3).trans x1; have hz4 : W1.heap.size ≤ w4.heap.size := Nat.le_trans hzr HB4.out.size; clear hb4)
                | (at_builtin; refine wpList_append_share rfl _ _ rfl W1.heap.size A' c' _ rfl ((HO.out.keep HB4.out).keep (bal1 _ _)) w4.heap.size a b2 rfl (cell_new2a _ _ _ _) (cell_new2b _ _ _ _) hl6 (le_al hz4 _) ?_; intro A5 c5 w5 ho5 hb5; have HO5 := Lib.hid ho5; have HB5 := Lib.hid ((bal (bcl HBL.out HB4.out) _).trans hb5); clear ho5 hb5))
              go_roundw
              case rel => exact ⟨k + 1, A5, c5, by omega, by go_num, by rw [HS1.out]; simp, Lib.hid (by rw [HS1.out]; exact HO5.out), HB5⟩
              case measure => simp [intOf]; omega
        · obtain rfl : k = l.length := by omega
          have hcap := HO.out.cap
          have hgn := HGN.out l.length
          by_cases hnd : (gdL q l l.length).length < need
          · have HND := Lib.hid hnd
            clear hcap
            go_wp2_with fail
            go_ret2
            exact ⟨rfl, HB1.out.trans (HBL.out.mono (HB1.out.size))⟩
          · have HND := Lib.hid hnd
            have htk : ((gdL q l l.length).take need).length = need := by rw [List.length_take]; omega
            have hsh := HO.out.shares
            have hpt := pts_take HPTS.out need (by omega)
            have c2 := fun (W : World) (hW : Shares W A' ((gdL q l l.length).take need)) => through_any A' c' ((gdL q l l.length).take need) 0 (by decide) (by decide) (by rw [htk]; omega) hpt W hW
            have hv : PM.thr (ga ((gdL q l l.length).take need)) (gb ((gdL q l l.length).take need)) ((gdL q l l.length).take need).length 0 ((gdL q l l.length).take need).length = vgV need q l := rfl
            rw [hv, htk] at c2
            have C2 := Lib.hid c2
            have hsh2 := hsh.take (n := need) (by omega)
            obtain ⟨gb0, go0, rfl, _, _⟩ := hsh.at_ (i := 0) (by omega)
            have hcap2 : c' ≤ 9223372036854775807 := by have := hcap.2; unfold maxLen at this; omega
            have hcap1 := hcap.1
            have hge : need ≤ (gdL q l l.length).length := by omega
            have HSH := Lib.hid hsh2
            obtain ⟨V, hV⟩ : ∃ V, vgV need q l = V := ⟨_, rfl⟩
            have HV := Lib.hid hV
            rw [hV] at C2
            clear c2 hv htk hpt hsh hsh2 hcap hV hnd
            go_wp2_with (go_at_call 60; refine (C2.out _ HSH.out).mono ?_; rintro e w4 ⟨rfl, hb4⟩)
            go_ret2
            first | rw [HV.out] | rw [if_neg HND.out, if_pos rfl, HV.out]
            exact ⟨rfl, HB1.out.trans ((bcl HBL.out hb4).mono HB1.out.size)⟩
end
/-- what Get gives is what was put -/
theorem vgV_hor {many need : Nat} {q : List Int} {l : List Sh} (h7 : many ≤ 7) (h : vgE many need q l = 0) (hq : q.length = need) : vgV need q l = PM.hor q 0 := by
  unfold vgE at h
  split at h
  · cases h
  · split at h
    · cases h
    · rename_i h1 h2
      split at h
      · cases h
      · rename_i h3
        have hbad : anyS (badB many l) l.length = false := by simpa using h2
        have hg := gdL_good q l l.length
        have hpts := good_pts h7 hg (anyS_false.1 hbad)
        have hlt : ((gdL q l l.length).take need).length = need := by rw [List.length_take]; omega
        have hpt := pts_take hpts need (by omega)
        unfold vgV thrL
        refine PM.thr_hor hpt q (by omega) (fun i hi => ?_) 0
        rw [hlt] at hi
        rw [ga_take _ _ _ hi, gb_take _ _ _ hi]
        exact hg.true_ i (by omega)
theorem hor_zero (x : Int) (r : List Int) (h : inB x = true) : PM.hor (x :: r) 0 = x := by
  have := inB_true.1 h
  simp only [PM.hor]; omega
theorem hor_one (x y : Int) (h : inB x = true) : PM.hor [x] y = x := by
  have := inB_true.1 h
  simp only [PM.hor]; omega
end Go.Proofs.YtamndgeeibfmhaaDoor
