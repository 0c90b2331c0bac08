/- Crowds in memory: copies side by side. Package crowd: New, Need. Package crowd: Do. -/
import Derived.Test.YtpgemofkolmabaaGreatDoorCpAll
import Derived.Test.YtpgemofkolmabaaGreatDoorOStr
import Derived.Test.YtpgemofkolmabaaGreatDoorVote
import Derived.Deep.CutBlock
import Derived.Deep.DeepCutAuto
namespace Go.Proofs.YtpgemofkolmabaaGreatDoor
open Go.ChangeShapes Go.WideShapes Go.ChangeAt Go.RowKit Go.Maps Go.WideMaps
set_option linter.unusedVariables false

/-- the blocks that a copy has: itself, its space, that one's array, its map -/
abbrev Dq := Nat × Nat × Option Nat × Nat
def CMD (d : Dq) (b : Nat) : Prop := CM d.1 d.2.1 d.2.2.1 d.2.2.2 b
def Cpd (w : World) (base : Nat) (d : Dq) (R : List Ru) (s : Cs) : Prop := Cpy w base d.1 d.2.1 d.2.2.1 d.2.2.2 R s
def setF {α : Type} (D : Nat → α) (i : Nat) (d : α) : Nat → α := fun j => if j = i then d else D j
theorem setF_same {α : Type} (D : Nat → α) (i : Nat) (d : α) : setF D i d i = d := if_pos rfl
theorem setF_other {α : Type} (D : Nat → α) {i j : Nat} (d : α) (h : j ≠ i) : setF D i d j = D j := if_neg h
def ptrs (D : Nat → Dq) (n : Nat) : List Value := (List.range n).map fun i => .pointer (some ⟨(D i).1, 0, none⟩)
theorem ptrs_length (D : Nat → Dq) (n : Nat) : (ptrs D n).length = n := by simp [ptrs]
theorem ptrs_at (D : Nat → Dq) {n i : Nat} (h : i < n) : (ptrs D n)[i]? = some (.pointer (some ⟨(D i).1, 0, none⟩)) := by simp [ptrs, h]
theorem ptrs_congr {D D' : Nat → Dq} {n : Nat} (h : ∀ i, i < n → (D' i).1 = (D i).1) : ptrs D' n = ptrs D n := by
  unfold ptrs
  refine List.map_congr_left fun i hi => ?_
  rw [h i (List.mem_range.1 hi)]
theorem ptrs_succ (D : Nat → Dq) (n : Nat) : ptrs D (n + 1) = ptrs D n ++ [.pointer (some ⟨(D n).1, 0, none⟩)] := by simp [ptrs, List.range_succ]
theorem Cpy.nk {w : World} {base p q m : Nat} {g : Option Nat} {R : List Ru} {s : Cs} (h : Cpy w base p q g m R s) {t : TypeId} (h1 : t ≠ 139) (h2 : t ≠ 151) (h3 : t ≠ 31) : ∀ b, CM p q g m b → ¬ kin w b t := fun b hb => by
  rcases hb with rfl | rfl | hb | rfl
  · exact fun k => h1 (kin.ne k h.pkin)
  · exact fun k => h2 (kin.ne k h.spc.kin)
  · exact fun k => h3 (kin.ne k (h.spc.gkin hb).2)
  · exact fun k => not_kin_of_map h.map.isMap k
/-- a crowd at p, with n copies -/
structure Crw (w : World) (base p : Nat) (A : Option Addr) (c n : Nat) (D : Nat → Dq) (R : List Ru) (S : Nat → Cs) : Prop where
  there : AtB w p #[.slice A n c] 143
  arr : w.ownsRow base 73 1 (.slice A n c) n (ptrs D n)
  cp : ∀ i, i < n → Cpd w base (D i) R (S i)
  dj : ∀ i j, i < n → j < n → i ≠ j → ∀ b, CMD (D i) b → ¬ CMD (D j) b
  hp : base ≤ p
  hb : base ≤ w.heap.size
def CrM (D : Nat → Dq) (n : Nat) (b : Nat) : Prop := ∃ i, i < n ∧ CMD (D i) b
section
variable {w w' : World} {base p c n : Nat} {A : Option Addr} {D D' : Nat → Dq} {R : List Ru} {S : Nat → Cs}
theorem Crw.mine (h : Crw w base p A c n D R S) : ∀ b, CrM D n b → base ≤ b ∧ ¬ kin w b 30 ∧ ¬ kin w b 50 := fun b ⟨i, hi, hb⟩ => (h.cp i hi).mine b hb
theorem Crw.nk (h : Crw w base p A c n D R S) {t : TypeId} (h1 : t ≠ 139) (h2 : t ≠ 151) (h3 : t ≠ 31) : ∀ b, CrM D n b → ¬ kin w b t := fun b ⟨i, hi, hb⟩ => (h.cp i hi).nk h1 h2 h3 b hb
theorem Crw.lts (h : Crw w base p A c n D R S) : ∀ b, CrM D n b → b < w.heap.size := fun b ⟨i, hi, hb⟩ => (h.cp i hi).lts b hb
/-- a crowd stays where none of its blocks is changed -/
theorem Crw.far {M : Nat → Prop} (h : Crw w base p A c n D R S) (k : Chs M w w') (hM : ∀ b, M b → base ≤ b ∧ ¬ kin w b 30 ∧ ¬ kin w b 50) (h1 : ∀ b, M b → ¬ CrM D n b) (h2 : ∀ b, M b → b ≠ p ∧ (Value.slice A n c).ownBlock ≠ some b) : Crw w' base p A c n D R S :=
  ⟨h.there.chs k fun e => (h2 p e).1 rfl, own_stayS h.arr fun g hg => k.block g (own_block_of h.arr hg).2.lt fun e => (h2 g e).2 hg,
    fun i hi => (h.cp i hi).apart k hM fun b hb e => h1 b hb ⟨i, hi, e⟩, h.dj, h.hp, Nat.le_trans h.hb k.size⟩
theorem Crw.keep (h : Crw w base p A c n D R S) (hb : Below w.heap.size w w') : Crw w' base p A c n D R S :=
  h.far (Chs.of_below (fun _ => False) hb) (fun _ h => h.elim) (fun _ h => h.elim) (fun _ h => h.elim)
/-- blocks of another kind are changed -/
theorem Crw.other {M : Nat → Prop} {t : TypeId} (h : Crw w base p A c n D R S) (k : Chs M w w') (hM : ∀ b, M b → base ≤ b ∧ kin w b t) (n1 : t ≠ 30) (n2 : t ≠ 50) (n3 : t ≠ 139) (n4 : t ≠ 151) (n5 : t ≠ 31) (n6 : t ≠ 143) (n7 : t ≠ 73) : Crw w' base p A c n D R S :=
  h.far k (fun b hb => ⟨(hM b hb).1, fun e => n1 (kin.ne (hM b hb).2 e), fun e => n2 (kin.ne (hM b hb).2 e)⟩) (fun b hb e => h.nk n3 n4 n5 b e (hM b hb).2)
    fun b hb => ⟨fun e => n6 (kin.ne (hM b hb).2 (by rw [e]; exact h.there.kin)), fun e => n7 (kin.ne (hM b hb).2 (own_block_of h.arr e).2)⟩
/-- one of the copies has done something -/
theorem Crw.step (h : Crw w base p A c n D R S) {i : Nat} (hi : i < n) {g' : Option Nat} {s' : Cs} (hc : Cpy w' base (D i).1 (D i).2.1 g' (D i).2.2.2 R s') (k : Chs (CM (D i).1 (D i).2.1 (D i).2.2.1 (D i).2.2.2) w w') (hn : Nw (D i).2.2.1 g' w.heap.size) :
    Crw w' base p A c n (setF D i ((D i).1, (D i).2.1, g', (D i).2.2.2)) R (setF S i s') ∧ ∀ b, CrM (setF D i ((D i).1, (D i).2.1, g', (D i).2.2.2)) n b → CrM D n b ∨ w.heap.size ≤ b := by
  have hci := h.cp i hi
  have hnew : ∀ b, CMD ((D i).1, (D i).2.1, g', (D i).2.2.2) b → CMD (D i) b ∨ w.heap.size ≤ b := fun b hb => nw_cm hn (Nat.le_refl _) hb
  refine ⟨⟨h.there.chs k fun e => ?_, ?_, fun j hj => ?_, fun j l hj hl hjl b hb hb2 => ?_, h.hp, Nat.le_trans h.hb k.size⟩, fun b ⟨j, hj, hb⟩ => ?_⟩
  · exact hci.nk (by decide) (by decide) (by decide) _ e h.there.kin
  · rw [ptrs_congr (D := D) fun j hj => ?_]
    · exact own_stayS h.arr fun g hg => k.block g (own_block_of h.arr hg).2.lt fun e => hci.nk (by decide) (by decide) (by decide) _ e (own_block_of h.arr hg).2
    · by_cases e : j = i
      · subst e; rw [setF_same]
      · rw [setF_other _ _ e]
  · by_cases e : j = i
    · subst e; rw [setF_same, setF_same]; exact hc
    · rw [setF_other _ _ e, setF_other _ _ e]
      exact (h.cp j hj).apart k hci.mine fun b hb => h.dj i j hi hj (fun e' => e e'.symm) b hb
  · by_cases ej : j = i
    · subst ej
      rw [setF_same] at hb
      rw [setF_other _ _ (fun e => hjl e.symm)] at hb2
      rcases hnew b hb with h1 | h1
      · exact h.dj j l hj hl hjl b h1 hb2
      · have := (h.cp l hl).lts b hb2; omega
    · rw [setF_other _ _ ej] at hb
      by_cases el : l = i
      · subst el
        rw [setF_same] at hb2
        rcases hnew b hb2 with h1 | h1
        · exact h.dj j l hj hl hjl b hb h1
        · have := (h.cp j hj).lts b hb; omega
      · rw [setF_other _ _ el] at hb2
        exact h.dj j l hj hl hjl b hb hb2
  · by_cases ej : j = i
    · subst ej
      rw [setF_same] at hb
      exact (hnew b hb).elim (fun h1 => .inl ⟨j, hj, h1⟩) .inr
    · rw [setF_other _ _ ej] at hb
      exact .inl ⟨j, hj, hb⟩
theorem Crw.congr {S' : Nat → Cs} (h : Crw w base p A c n D R S) (hS : ∀ i, i < n → S' i = S i) : Crw w base p A c n D R S' :=
  ⟨h.there, h.arr, fun i hi => by rw [hS i hi]; exact h.cp i hi, h.dj, h.hp, h.hb⟩
end
end Go.Proofs.YtpgemofkolmabaaGreatDoor
namespace Go.Proofs.YtpgemofkolmabaaGreatDoor
open Go.ChangeShapes Go.WideShapes Go.ChangeAt Go.RowKit Go.Maps Go.WideMaps
set_option linter.unusedVariables false

theorem infoPC : (Tryz.prog.info? 73).map (fun i => (i.zero, i.size, i.bytes)) = some (some (.pointer none), 1, 8) := by kernel_rfl
theorem Crw.add {w w3 w4 : World} {base p c n pk qk mk c2 : Nat} {A A2 : Option Addr} {D : Nat → Dq} {R : List Ru} {S : Nat → Cs} {s : Cs} (h : Crw w base p A c n D R S) (hc : Cpy w base pk qk none mk R s) (hd : ∀ b, CrM D n b → ¬ CM pk qk none mk b)
    (hg : w.grownBy w3 (Value.slice A n c).ownBlock) (ho : w3.ownsRow base 73 1 (.slice A2 (n + 1) c2) (n + 1) (ptrs D n ++ [.pointer (some ⟨pk, 0, none⟩)])) (hw4 : w4 = w3.setCell ⟨p, 0, none⟩ (.slice A2 (n + 1) c2)) :
    Crw w4 base p A2 c2 (n + 1) (setF D n (pk, qk, none, mk)) R (setF S n s) := by
  have k1 := Chs.grown hg
  have hk1 : ∀ b, (Value.slice A n c).ownBlock = some b → base ≤ b ∧ kin w b 73 := fun b hb => own_block_of h.arr hb
  have k2 : Chs (fun b => b = p) w3 w4 := by rw [hw4]; exact Chs.set w3 ⟨p, 0, none⟩ _
  have hp3 : AtB w3 p #[.slice A n c] 143 := h.there.chs k1 fun e => absurd (kin.ne (hk1 p e).2 h.there.kin) (by decide)
  have hkp : kin w3 p 143 := hp3.kin
  have hz : base ≤ w3.heap.size := Nat.le_trans h.hb k1.size
  have hcp : ∀ p' q' m' g' s', Cpy w base p' q' g' m' R s' → Cpy w4 base p' q' g' m' R s' := fun p' q' m' g' s' hx => by
    have h3 := hx.apart k1 (fun b hb => ⟨(hk1 b hb).1, fun e => absurd (kin.ne (hk1 b hb).2 e) (by decide), fun e => absurd (kin.ne (hk1 b hb).2 e) (by decide)⟩) fun b hb e => hx.nk (by decide) (by decide) (by decide) b e (hk1 b hb).2
    exact h3.apart k2 (fun b hb => by subst hb; exact ⟨h.hp, fun e => absurd (kin.ne hkp e) (by decide), fun e => absurd (kin.ne hkp e) (by decide)⟩) fun b hb e => by subst hb; exact h3.nk (by decide) (by decide) (by decide) _ e hkp
  refine ⟨?_, ?_, fun i hi => ?_, fun i j hi hj hij b hb hb2 => ?_, h.hp, Nat.le_trans hz k2.size⟩
  · rw [hw4]; exact hp3.set 0 _
  · rw [ptrs_succ, setF_same, ptrs_congr (D := D) fun i hi => by rw [setF_other _ _ (by omega)]]
    exact own_stayS ho fun g hg' => k2.block g (own_block_of ho hg').2.lt fun e => by subst e; exact absurd (kin.ne hkp (own_block_of ho hg').2) (by decide)
  · by_cases e : i = n
    · subst e; rw [setF_same, setF_same]; exact hcp _ _ _ _ _ hc
    · rw [setF_other _ _ e, setF_other _ _ e]; exact hcp _ _ _ _ _ (h.cp i (by omega))
  · by_cases ei : i = n
    · subst ei
      rw [setF_same] at hb
      rw [setF_other _ _ (fun e => hij e.symm)] at hb2
      exact hd b ⟨j, by omega, hb2⟩ hb
    · rw [setF_other _ _ ei] at hb
      by_cases ej : j = n
      · subst ej
        rw [setF_same] at hb2
        exact hd b ⟨i, by omega, hb⟩ hb2
      · rw [setF_other _ _ ej] at hb2
        exact h.dj i j (by omega) (by omega) hij b hb hb2
theorem Crw.pne {w : World} {base p c n : Nat} {A : Option Addr} {D : Nat → Dq} {R : List Ru} {S : Nat → Cs} (h : Crw w base p A c n D R S) : ¬ (Value.slice A n c).ownBlock = some p := fun e => absurd (kin.ne (own_block_of h.arr e).2 h.there.kin) (by decide)
theorem own_down {w : World} {base b2 k n : Nat} {t : TypeId} {v : Value} {xs : List Value} (h : w.ownsRow b2 t k v n xs) (hb : base ≤ b2) : w.ownsRow base t k v n xs := by
  refine ⟨h.1, ?_⟩
  rcases h.2 with h2 | ⟨g, cap, cur, h3, h4, h5⟩
  · exact .inl h2
  · exact .inr ⟨g, cap, cur, h3, Nat.le_trans hb h4, h5⟩
theorem new_cm {P : Nat → Prop} {z p q m : Nat} (h : ∀ b, P b → b < z) (hp : z ≤ p) (hq : z ≤ q) (hm : z ≤ m) : ∀ b, P b → ¬ CM p q none m b := fun b hb e => by
  have := h b hb
  rcases e with e | e | e | e
  · omega
  · omega
  · cases e
  · omega
theorem crneed_any {w : World} {base p c n : Nat} {A : Option Addr} {D : Nat → Dq} {R : List Ru} {S : Nat → Cs} (h : Crw w base p A c n D R S) (n1 : 1 ≤ n) (n7 : n ≤ 7) :
    Calls Tryz.prog 77 #[.pointer (some ⟨p, 0, none⟩)] w fun e w' => e = .returned (.int .i64 (((n : Int) - 1) / 3 + 1)) ∧ w = w' := by
  have p0 : w.cell? ⟨p, 0, none⟩ = some (.slice A n c) := h.there.cell rfl
  have cl := fun W => lie_any (n : Int) W (by omega) (by omega)
  have hd : (0 : Int) ≤ ((n : Int) - 1) / 3 ∧ ((n : Int) - 1) / 3 ≤ 2 := by omega
  obtain ⟨d1, d2⟩ := hd
  have CL := Lib.hid cl
  clear cl h
  generalize ((n : Int) - 1) / 3 = z at *
  go_enter Tryz.func77, Tryz.ntmps77
  go_wp2_with (go_at_call 112; refine (CL.out _).mono ?_; rintro e w1 ⟨rfl, rfl⟩)
  go_ret
  exact ⟨rfl, rfl⟩
set_option maxHeartbeats 1600000 in
set_option maxRecDepth 100000 in
theorem crnew_ok {w : World} {base : Nat} (hb : base ≤ w.heap.size) (n : Nat) (n1 : 1 ≤ n) (n7 : n ≤ 7) (RA : Option Addr) (rc : Nat) (X : List Rx) (hX : RX w base RA X) (hr : rulE (X.map (·.1)) = 0) (ho : okR (X.map (·.1))) :
    Calls Tryz.prog 32 #[.int .i64 n, .slice RA X.length rc] w fun e w' => ∃ p A c D, e = .returned (.tuple #[.pointer (some ⟨p, 0, none⟩), .nilIface]) ∧ Crw w' base p A c n D (X.map (·.1)) (fun _ => Cs.zero) ∧ Below w.heap.size w w' ∧ w.heap.size ≤ p ∧ ∀ b, CrM D n b → w.heap.size ≤ b := by
  have cc := copies_any (n : Int)
  rw [show copB (n : Int) = true from copB_true.2 ⟨by omega, by omega⟩] at cc
  have cn := fun (W : World) (hW : Below w.heap.size w W) => cpnew_ok (w := W) (base := base) (Nat.le_trans hb hW.size) RA rc X (hX.below hb hW) hr ho
  have CC := Lib.hid cc; have CN := Lib.hid cn
  clear cc cn hX hr ho
  go_enter Tryz.func32, Tryz.ntmps32
  go_wp2_with (go_at_call 71; refine (CC.out _).mono ?_; rintro e w1 ⟨rfl, rfl⟩)
  have HP0 : Hid (Crw (w.alloc (.cells #[.slice none 0 0] 143)) base w.heap.size none 0 0 (fun _ => (0, 0, none, 0)) (X.map (·.1)) (fun _ => Cs.zero)) :=
    Lib.hid ⟨AtB.new _ _ _, ⟨rfl, .inl ⟨rfl, rfl⟩⟩, fun i hi => absurd hi (by omega), fun i j hi => absurd hi (by omega), hb, le_al hb _⟩
  go_loopw [7, 8, 16] (fun _ _ s16 wr => ∃ (k : Nat) (A : Option Addr) (c : Nat) (D : Nat → Dq), k ≤ n ∧ s16 = .int .i64 k ∧ Hid (Crw wr base w.heap.size A c k D (X.map (·.1)) (fun _ => Cs.zero)) ∧ Hid (Below w.heap.size w wr) ∧ Hid (∀ b, CrM D k b → w.heap.size ≤ b) ∧ Hid (wr.ownsRow w.heap.size 73 1 (.slice A k c) k (ptrs D k))) (fun _ _ s16 _ => n - (intOf s16).toNat)
  case atStart => exact ⟨0, none, 0, _, Nat.zero_le _, rfl, HP0, Lib.hid (bal1 _ _), Lib.hid (fun b ⟨i, hi, _⟩ => absurd hi (by omega)), Lib.hid ⟨rfl, .inl ⟨rfl, rfl⟩⟩⟩
  case round =>
    clear HP0
    obtain ⟨k, A, c, D, hk, rfl, HC, HB, HD, HOW⟩ := hrel
    by_cases hlt : k < n
    · have i1 : (k : Int) < (n : Int) := by omega
      have hk1 : (ptrs D k).length ≤ 1000000 := by rw [ptrs_length]; omega
      go_wp2_with (first
        | (go_at_call 31; refine (CN.out _ HB.out).mono ?_; rintro e w2 ⟨pk, qk, mk, rfl, hC2, hb2, h1, h2, h3⟩; have HC2 := Lib.hid (HC.out.keep hb2); have HK2 := Lib.hid hC2; have HB2 := Lib.hid (bcl HB.out hb2); have HOW2 := Lib.hid (own_keep HOW.out hb2); have HDJ := Lib.hid (show (∀ b, CrM D k b → ¬ CM pk qk none mk b) ∧ w.heap.size ≤ pk ∧ w.heap.size ≤ qk ∧ w.heap.size ≤ mk from ⟨new_cm HC.out.lts h1 h2 h3, Nat.le_trans HB.out.size h1, Nat.le_trans HB.out.size h2, Nat.le_trans HB.out.size h3⟩); have p0 : w2.cell? ⟨w.heap.size, 0, none⟩ = some (.slice A k c) := HC2.out.there.cell rfl; have hpz := HC2.out.there.lt; clear hC2 hb2 h1 h2 h3)
        | (at_builtin; refine wpList_append_one rfl _ _ _ rfl w.heap.size 73 _ 1 8 Tryz.underlying141 infoPC rfl (by decide) (by decide) A c k _ rfl (own_keep HOW2.out (bal1 _ _)) w2.heap.size [.pointer (some ⟨pk, 0, none⟩)] rfl rfl (fun j u hj => by
              match j, hj with
              | 0, hj => simp at hj; subst hj; exact (AtB.new _ _ _).cell (i := 0) rfl) (by simp [Value.oneCell']) (by omega) (le_al HB2.out.size _) ?_; intro A3 c3 w3 ho3 hg3; have hp3 := (HC2.out.keep (bal1 w2 (.cells #[.pointer (some ⟨pk, 0, none⟩)] 73))).there.chs (Chs.grown hg3) HC2.out.pne; have p3 : w3.cell? ⟨w.heap.size, 0, none⟩ = some (.slice A k c) := hp3.cell rfl; have f3 := hp3.frozen 0; clear hp3; have HO3 := Lib.hid ho3; have HG3 := Lib.hid hg3; clear ho3 hg3))
      obtain ⟨w4, hw4⟩ : ∃ w4, w4 = w3.setCell ⟨w.heap.size, 0, none⟩ (.slice A3 (k + 1) c3) := ⟨_, rfl⟩
      rw [← hw4]
      have hba := bal1 w2 (.cells #[.pointer (some ⟨pk, 0, none⟩)] 73)
      have hc4 := (HC2.out.keep hba).add (HK2.out.keep hba) HDJ.out.1 HG3.out (own_down HO3.out hb) hw4
      have hb4 : Below w.heap.size w w4 := by
        have h1 : Below w.heap.size w w3 := (bcl HB2.out hba).trans ((Chs.grown HG3.out).below (fun b hb => ?_) (bcl HB2.out hba).size)
        · rw [hw4]; exact bset h1 (Nat.le_refl _) _
        · exact (own_block_of HOW2.out hb).1
      go_roundw
      case rel =>
        refine ⟨k + 1, A3, c3, _, by omega, by go_num, Lib.hid (hc4.congr fun i _ => ?_), Lib.hid hb4, Lib.hid (fun b ⟨i, hi, hb⟩ => ?_), Lib.hid ?_⟩
        · show Cs.zero = setF (fun _ => Cs.zero) k Cs.zero i
          unfold setF; split <;> rfl
        · by_cases e : i = k
          · subst e
            rw [setF_same] at hb
            rcases hb with e | e | e | e
            · rw [e]; exact HDJ.out.2.1
            · rw [e]; exact HDJ.out.2.2.1
            · cases e
            · rw [e]; exact HDJ.out.2.2.2
          · rw [setF_other _ _ e] at hb
            exact HD.out b ⟨i, by omega, hb⟩
        · rw [ptrs_succ, setF_same, ptrs_congr (D := D) fun i hi => by rw [setF_other _ _ (by omega)]]
          refine own_stayS HO3.out fun g hg' => ?_
          rw [hw4]
          exact (Chs.set w3 ⟨w.heap.size, 0, none⟩ _).block g (own_block_of HO3.out hg').2.lt fun e => absurd (own_block_of HO3.out hg').2 fun k => absurd (kin.ne k (by rw [e]; exact ((HC2.out.keep hba).there.chs (Chs.grown HG3.out) HC2.out.pne).kin)) (by decide)
      case measure => simp [intOf]; omega
    · obtain rfl : k = n := by omega
      go_wp2_with fail
      go_ret2
      exact ⟨w.heap.size, A, c, D, rfl, HC.out, HB.out, Nat.le_refl _, HD.out⟩
end Go.Proofs.YtpgemofkolmabaaGreatDoor
namespace Go.Proofs.YtpgemofkolmabaaGreatDoor
open Go.ChangeShapes Go.WideShapes Go.ChangeAt Go.RowKit Go.Maps Go.WideMaps
set_option linter.unusedVariables false

/-- what the i-th says -/
def sy (lies : List ByteArray) (s : ByteArray) (i : Nat) : ByteArray := if i < lies.length ∧ gs lies i ≠ ⟨#[]⟩ then gs lies i else s
def sayL (lies : List ByteArray) (s : ByteArray) (k : Nat) : List ByteArray := (List.range k).map (sy lies s)
theorem sayL_length (lies : List ByteArray) (s : ByteArray) (k : Nat) : (sayL lies s k).length = k := by simp [sayL]
theorem sayL_succ (lies : List ByteArray) (s : ByteArray) (k : Nat) : sayL lies s (k + 1) = sayL lies s k ++ [sy lies s k] := by simp [sayL, List.range_succ]
theorem sayL_at (lies : List ByteArray) (s : ByteArray) {k i : Nat} (h : i < k) : gs (sayL lies s k) i = sy lies s i := by simp [gs, sayL, h]
set_option maxRecDepth 100000 in
theorem size_pos {s : ByteArray} (h : s ≠ ⟨#[]⟩) : 0 < s.size := by
  rcases Nat.eq_zero_or_pos s.size with h0 | h0
  · obtain ⟨d⟩ := s
    have h1 : d = #[] := Array.size_eq_zero_iff.1 h0
    exact absurd (by rw [h1]) h
  · exact h0
theorem setF_lt {α : Type} {k : Nat} {s s' : α} (i : Nat) : (if i < k + 1 then s' else s) = setF (fun i => if i < k then s' else s) k s' i := by
  by_cases e : i = k
  · subst e; rw [setF_same, if_pos (Nat.lt_succ_self _)]
  · rw [setF_other _ _ e]
    by_cases h : i < k
    · rw [if_pos h, if_pos (by omega)]
    · rw [if_neg h, if_neg (by omega)]
theorem winV_form (ss : List ByteArray) (need : Int) : ∃ (x : ByteArray) (e : Value), winV ss need = .tuple #[.string x, e] := by
  cases h : wn ss need ss.length with
  | some i => exact ⟨_, _, winV_some h (Nat.le_refl _)⟩
  | none => exact ⟨_, _, winV_none h⟩
section
variable {w w' : World} {base p c n : Nat} {A : Option Addr} {D : Nat → Dq} {R : List Ru} {S : Nat → Cs}
theorem Crw.at_ (h : Crw w base p A c n D R S) {i : Nat} (hi : i < n) : ∃ g, A = some ⟨g, 0, none⟩ ∧ g < w.heap.size ∧ w.cell? ⟨g, i, none⟩ = some (.pointer (some ⟨(D i).1, 0, none⟩)) := by
  obtain ⟨g, cap, hv, _, hlt⟩ := h.arr.form (by omega)
  have hA : A = some ⟨g, 0, none⟩ := by injection hv
  subst hA
  have := h.arr.cells (g := g) rfl i _ (ptrs_at D hi)
  rw [Addr.add_lit] at this
  exact ⟨g, rfl, hlt, by simpa using this⟩
theorem Chs.step {M M' : Nat → Prop} {w w1 w2 : World} (h : Chs M w w1) (k : Chs M' w1 w2) (hM : ∀ b, M' b → M b ∨ w.heap.size ≤ b) : Chs M w w2 := h.trans k hM
set_option maxHeartbeats 3200000 in
set_option maxRecDepth 100000 in
theorem crdo_any {s : Cs} (hC : Crw w base p A c n D R (fun _ => s)) (n1 : 1 ≤ n) (n7 : n ≤ 7) (ht : ∀ W, Below base w W → TT W) (hn : s.n ≤ 1000000) (a : Ak) (TA : Option Addr) (tc : Nat) (hm : a.t.length ≤ maxLen) (hok : okL a.t) (hq : I64 a.q) (hT : Vin w base TA a.t)
    (LA : Option Addr) (lc : Nat) (lies : List ByteArray) (hl : lies.length ≤ n) (hL : ∀ W, Chs (CrM D n) w W → Strs W LA lies) (hls : ∀ i, i < lies.length → (gs lies i).size ≤ maxLen) :
    Calls Tryz.prog 36 #[.pointer (some ⟨p, 0, none⟩), akv a TA tc, .slice LA lies.length lc] w fun e w' => e = .returned (if doE R s a = 0 then winV (sayL lies (doS R s a) n) (((n : Int) - 1) / 3 + 1) else .tuple #[.string ⟨#[]⟩, errV (doE R s a)]) ∧
      ∃ D', Crw w' base p A c n D' R (fun _ => doC R s a) ∧ Chs (CrM D n) w w' ∧ ∀ b, CrM D' n b → CrM D n b ∨ w.heap.size ≤ b := by
  obtain ⟨W1, hW1⟩ : ∃ W1, W1 = w.alloc (.cells #[.int .i64 a.w, .int .i64 a.q, .int .i64 a.d, .slice TA a.t.length tc] 33) := ⟨_, rfl⟩
  have hb01 : Below w.heap.size w W1 := by rw [hW1]; exact bal1 _ _
  have B1 : AtB W1 w.heap.size #[.int .i64 a.w, .int .i64 a.q, .int .i64 a.d, .slice TA a.t.length tc] 33 := by rw [hW1]; exact AtB.new _ _ _
  have hC1 := hC.keep hb01
  have p0 : W1.cell? ⟨p, 0, none⟩ = some (.slice A n c) := hC1.there.cell rfl
  have p0a : (w.alloc (.cells #[.int .i64 a.w, .int .i64 a.q, .int .i64 a.d, .slice TA a.t.length tc] 33)).cell? ⟨p, 0, none⟩ = some (.slice A n c) := by rw [← hW1]; exact p0
  have hown := fun b (hb : CrM D n b) => (hC.mine b hb).1
  have HC1 := Lib.hid hC1; have HB01 := Lib.hid hb01; have HW := Lib.hid hW1; have HB1 := Lib.hid B1; have HOWN := Lib.hid hown; have HBS := Lib.hid hC.hb
  -- the contract of one copy
  have cdo := fun (W : World) (hW : Chs (CrM D n) w W) (d : Dq) (hd : Cpd W base d R s) => cpdo_any (w := W) hd (fun W' h => ht W' ((hW.below hown hC.hb).trans h)) hn a TA tc hm hok hq (hT.chsV hC.hb hW (fun b hb => ⟨(hC.mine b hb).1, (hC.mine b hb).2.1⟩)).1
  have hlz : lies.length ≤ 7 := by omega
  have ng : (decide ((n : Int) < (lies.length : Nat))) = false := by simp; omega
  have ng2 : decide (n < lies.length) = false := by simp; omega
  by_cases e0 : doE R s a = 0
  · rw [if_pos e0]
    rw [e0, eV_zero] at cdo
    obtain ⟨g0, rfl, hgz, hc0⟩ := HC1.out.at_ (i := 0) (by omega)
    have hsz := doS_size (R := R) (a := a) (hC.cp 0 (by omega)).ok
    generalize doS R s a = ans at *
    generalize doC R s a = s' at *
    have hss : ∀ i, i < (sayL lies ans n).length → (gs (sayL lies ans n) i).size ≤ maxLen := fun i hi => by
      rw [sayL_length] at hi
      rw [sayL_at _ _ hi]
      unfold sy; split
      · rename_i h; exact hls i h.1
      · unfold maxLen; omega
    have hnd : copB (((n : Int) - 1) / 3 + 1) = true := copB_true.2 (by omega)
    have cw := fun (W : World) (B : Option Addr) (d : Nat) (hW : Strs W B (sayL lies ans n)) => win_any B d (sayL lies ans n) (((n : Int) - 1) / 3 + 1) W hnd (by rw [sayL_length]; omega) hW hss
    rw [sayL_length] at cw
    have CDO := Lib.hid cdo; have CW := Lib.hid cw; have HL := Lib.hid hL; have HZ := Lib.hid hls
    have HHB := Lib.hid hC.hb
    clear cdo cw hC hC1 hb01 hW1 B1 hown ht hT hL hls hok hm hq hss hnd hsz e0
    generalize hd : ((n : Int) - 1) / 3 + 1 = nd at *
    have HD := Lib.hid hd
    clear hd
    obtain ⟨x, q', d, t⟩ := a
    simp only [akv] at *
    go_enter Tryz.func36, Tryz.ntmps36
    go_wp2_with fail
    rw [← HW.out]
    go_loopw [8, 9, 10, 11, 12, 27] (fun s8 _ _ _ _ s27 wr => ∃ (k : Nat) (Dk : Nat → Dq) (A' : Option Addr) (c' : Nat), k ≤ n ∧ s27 = .int .i64 k ∧ s8 = .slice A' k c' ∧ Hid (Crw wr base p (some ⟨g0, 0, none⟩) c n Dk R (fun i => if i < k then s' else s)) ∧ Hid (OStrs wr w.heap.size A' c' (sayL lies ans k)) ∧ Hid (Chs (CrM D n) w wr) ∧ Hid (∀ b, CrM Dk n b → CrM D n b ∨ w.heap.size ≤ b) ∧ Hid (AtB wr w.heap.size #[.int .i64 x, .int .i64 q', .int .i64 d, .slice TA t.length tc] 33)) (fun _ _ _ _ _ s27 _ => n - (intOf s27).toNat)
    case atStart => exact ⟨0, D, none, 0, Nat.zero_le _, rfl, rfl, Lib.hid (HC1.out.congr fun i _ => if_neg (by omega)), OStrs.nil, Lib.hid (Chs.of_below _ HB01.out), Lib.hid (fun b hb => .inl hb), HB1⟩
    case round =>
      obtain ⟨k, Dk, A', c', hk, rfl, rfl, HC, HO, HCH, HNW, HBX⟩ := hrel
      by_cases hlt : k < n
      · have i0 : (0 : Int) ≤ (k : Int) := by omega
        have i1 : (k : Int) < (n : Int) := by omega
        obtain ⟨g, e, hgk, hck⟩ := HC.out.at_ hlt
        obtain rfl : g0 = g := by injection e with e; injection e
        have hcp : Cpd wr base (Dk k) R s := by have h := HC.out.cp k hlt; simp only [Nat.lt_irrefl, if_false] at h; exact h
        have HCP := Lib.hid hcp
        have k0 : wr.cell? ⟨w.heap.size, 0, none⟩ = some (.int .i64 x) := HBX.out.cell rfl
        have k1 : wr.cell? ⟨w.heap.size, 1, none⟩ = some (.int .i64 q') := HBX.out.cell rfl
        have k2 : wr.cell? ⟨w.heap.size, 2, none⟩ = some (.int .i64 d) := HBX.out.cell rfl
        have k3 : wr.cell? ⟨w.heap.size, 3, none⟩ = some (.slice TA t.length tc) := HBX.out.cell rfl
        have hsk : sayL lies ans (k + 1) = sayL lies ans k ++ [sy lies ans k] := sayL_succ _ _ _
        have hlk : (sayL lies ans k).length = k := sayL_length _ _ _
        have hl1 : (sayL lies ans k).length ≤ 1000000 := by rw [hlk]; omega
        have HSK := Lib.hid hsk; have HLK := Lib.hid hlk
        clear hcp hsk hlk e
        go_upto_region 10 with (go_at_call 35; refine (CDO.out wr HCH.out (Dk k) HCP.out).mono ?_; rintro e w2 ⟨rfl, g2, hc2, hk2, hn2⟩; have hst := HC.out.step hlt hc2 hk2 hn2; have HST := Lib.hid hst; have hch2 := HCH.out.trans hk2 (fun b hb => HNW.out b ⟨k, hlt, hb⟩); have HCH2 := Lib.hid hch2; have HO2 := Lib.hid (HO.out.chs hk2 (fun b hb e => HCP.out.nk (by decide) (by decide) (by decide) b hb (HO.out.block e).2)); have HBX2 := Lib.hid (HBX.out.chs hk2 (fun hb => HCP.out.nk (by decide) (by decide) (by decide) _ hb HBX.out.kin)); clear hst hch2 hc2 hk2 hn2)
        obtain ⟨tb, htb⟩ : ∃ tb : Bool, tb = true ↔ (k < lies.length ∧ gs lies k ≠ ⟨#[]⟩) := by
          by_cases h : k < lies.length ∧ gs lies k ≠ ⟨#[]⟩
          · exact ⟨true, by simp [h]⟩
          · exact ⟨false, by simp only [h]; simp⟩
        have HTB := Lib.hid htb
        clear htb
        go_cut [51] (fun s51 wx => s51 = .bool tb ∧ wx = w2)
        case first =>
          by_cases u : k < lies.length
          · obtain ⟨b2, o2, rfl, hb2, ch⟩ := (HL.out w2 HCH2.out).at_ u
            have u1 : (k : Int) < (lies.length : Nat) := by omega
            by_cases v : gs lies k = ⟨#[]⟩
            · have hsy : tb = false := by rw [← Bool.not_eq_true, HTB.out]; exact fun h => h.2 v
              rw [v] at ch
              subst hsy
              clear v
              go_wp2_with fail
              go_meet
              case rel => exact ⟨rfl, by first | rfl | trivial⟩
            · have hsy : tb = true := HTB.out.2 ⟨u, v⟩
              have he := emp_test (size_pos v)
              subst hsy
              clear v HTB
              generalize gs lies k = lk at *
              go_wp2_with fail
              go_meet
              case rel => exact ⟨rfl, by first | rfl | trivial⟩
          · have hsy : tb = false := by rw [← Bool.not_eq_true, HTB.out]; exact fun h => u h.1
            have u1 : decide ((k : Int) < (lies.length : Nat)) = false := by simp; omega
            subst hsy
            go_wp2_with fail
            go_meet
            case rel => exact ⟨rfl, by first | rfl | trivial⟩
        case rest =>
          obtain ⟨rfl, rfl⟩ := hcut
          obtain ⟨w3, hw⟩ : ∃ w3 : World, w3 = wc := ⟨_, rfl⟩
          subst hw
          go_upto_if 51 with fail
          go_cut [11] (fun s11 wx => s11 = .string (sy lies ans k) ∧ wx = w3)
          case first =>
            cases tb with
            | true =>
              obtain ⟨u, v⟩ := HTB.out.1 rfl
              obtain ⟨b2, o2, rfl, hb2, ch⟩ := (HL.out w3 HCH2.out).at_ u
              have u1 : (k : Int) < (lies.length : Nat) := by omega
              have hsy : sy lies ans k = gs lies k := by rw [sy, if_pos ⟨u, v⟩]
              have HSY := Lib.hid hsy
              clear hsy v
              generalize gs lies k = lk at *
              go_wp2_with fail
              go_meet
              case rel => exact ⟨by rw [HSY.out], by first | rfl | trivial⟩
            | false =>
              have hsy : sy lies ans k = ans := by rw [sy, if_neg (fun h => absurd (HTB.out.2 h) (by decide))]
              have HSY := Lib.hid hsy
              clear hsy
              go_wp2_with fail
              go_meet
              case rel => exact ⟨by rw [HSY.out], by first | rfl | trivial⟩
          case rest =>
            obtain ⟨rfl, rfl⟩ := hcut
            obtain ⟨w3, hw⟩ : ∃ w3 : World, w3 = wc := ⟨_, rfl⟩
            subst hw
            generalize sy lies ans k = say at *
            go_wp2_with (at_builtin; refine wpList_append_strG rfl _ _ rfl w.heap.size A' c' (sayL lies ans k) k HLK.out rfl (HO2.out.keep (bal1 _ _)) w3.heap.size say rfl ((AtB.new _ _ _).cell (i := 0) rfl) hl1 (le_al HCH2.out.size _) ?_; intro A4 c4 w4 h41 h42; have HO4 := Lib.hid h41; have hc4 := (Chs.of_below (fun b => (Value.slice A' (sayL lies ans k).length c').ownBlock = some b) (bal1 w3 (.cells #[.string say] 9))).trans (Chs.grown h42) (fun b hb => .inl hb); have HC4 := Lib.hid hc4; clear h41 h42 hc4)
            have hobk : ∀ b, (Value.slice A' (sayL lies ans k).length c').ownBlock = some b → w.heap.size ≤ b ∧ kin w3 b 9 := fun b hb => HO2.out.block hb
            have hcr := HST.out.1.other HC4.out (fun b hb => ⟨Nat.le_trans HHB.out (hobk b hb).1, (hobk b hb).2⟩) (by decide) (by decide) (by decide) (by decide) (by decide) (by decide) (by decide)
            have hbx4 := HBX2.out.chs HC4.out (fun e => absurd (kin.ne (hobk _ e).2 HBX2.out.kin) (by decide))
            have hch4 := HCH2.out.trans HC4.out (fun b hb => .inr (hobk b hb).1)
            go_roundw
            case rel => exact ⟨k + 1, _, A4, c4, by omega, by go_num, rfl, Lib.hid (hcr.congr fun i hi => setF_lt i), Lib.hid (by rw [HSK.out]; exact HO4.out), Lib.hid hch4, Lib.hid (fun b hb => (HST.out.2 b hb).elim (HNW.out b) fun h => .inr (Nat.le_trans HCH.out.size h)), Lib.hid hbx4⟩
            case measure => simp [intOf]; omega
      · obtain rfl : k = n := by omega
        have hcrw := HC.out.congr (S' := fun _ => s') fun i hi => (if_pos hi).symm
        have cnd := crneed_any hcrw n1 n7
        rw [HD.out] at cnd
        have cwn := CW.out wr A' c' HO.out.strs
        obtain ⟨wx, we, hwv⟩ := winV_form (sayL lies ans k) nd
        rw [hwv] at cwn
        have HWV := Lib.hid hwv
        have CND := Lib.hid cnd; have CWN := Lib.hid cwn; have HCRW := Lib.hid hcrw
        clear cnd cwn hcrw
        clear hwv
        go_wp2_with (first | (go_at_call 77; refine CND.out.mono ?_; rintro e w2 ⟨rfl, rfl⟩) | (go_at_call 76; refine CWN.out.mono ?_; rintro e w2 ⟨rfl, hb2⟩))
        go_ret2
        exact ⟨by rw [HWV.out]; rfl, Dk, HCRW.out.keep hb2, HCH.out.trans (Chs.of_below (fun _ => False) hb2) (fun _ h => h.elim), HNW.out⟩
  · rw [if_neg e0]
    have hdc : doC R s a = s := doC_no e0
    rw [eV_of e0, doS_no e0, hdc] at cdo
    rw [hdc]
    have CDO := Lib.hid cdo
    clear cdo hC hC1 hb01 hW1 B1 hown hdc ht hT hL hls hok hm hq
    generalize doE R s a = E at *
    obtain ⟨x, q', d, t⟩ := a
    simp only [akv] at *
    obtain ⟨g0, rfl, hgz, hc0⟩ := HC1.out.at_ (i := 0) (by omega)
    have k0 : W1.cell? ⟨w.heap.size, 0, none⟩ = some (.int .i64 x) := HB1.out.cell rfl
    have k1 : W1.cell? ⟨w.heap.size, 1, none⟩ = some (.int .i64 q') := HB1.out.cell rfl
    have k2 : W1.cell? ⟨w.heap.size, 2, none⟩ = some (.int .i64 d) := HB1.out.cell rfl
    have k3 : W1.cell? ⟨w.heap.size, 3, none⟩ = some (.slice TA t.length tc) := HB1.out.cell rfl
    have i1 : (0 : Int) < (n : Int) := by omega
    go_enter Tryz.func36, Tryz.ntmps36
    go_wp2_with fail
    rw [← HW.out]
    go_loopw [9, 10, 11, 12, 27] (fun _ _ _ _ s27 wr => s27 = .int .i64 0 ∧ wr = W1) (fun _ _ _ _ _ _ => 0)
    case atStart => exact ⟨rfl, rfl⟩
    case round =>
      obtain ⟨rfl, rfl⟩ := hrel
      go_wp2_with (go_at_call 35; refine (CDO.out _ (Chs.of_below _ HB01.out) (D 0) (HC1.out.cp 0 (by omega))).mono ?_; rintro e w2 ⟨rfl, g2, hc2, hk2, hn2⟩)
      go_ret2
      obtain ⟨h1, h2⟩ := HC1.out.step (i := 0) (by omega) hc2 hk2 hn2
      refine ⟨rfl, _, h1.congr fun i _ => ?_, (Chs.of_below (CrM D n) HB01.out).trans hk2 (fun b hb => .inl ⟨0, by omega, hb⟩), fun b hb => (h2 b hb).imp id fun h => Nat.le_trans HB01.out.size h⟩
      unfold setF; split <;> rfl
end
end Go.Proofs.YtpgemofkolmabaaGreatDoor
