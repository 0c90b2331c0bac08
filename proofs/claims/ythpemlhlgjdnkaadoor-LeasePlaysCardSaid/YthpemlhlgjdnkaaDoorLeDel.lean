/- slices.DeleteFunc at ones, in place. -/
import Derived.Test.YthpemlhlgjdnkaaDoorLease
namespace Go.Proofs.YthpemlhlgjdnkaaDoor
open Go.ChangeShapes Go.WideShapes Go.ChangeAt Go.RowKit
set_option linter.unusedVariables false

theorem zeroOne (w : World) : (zeroValue 115).run Tryd.prog w = .ok (.agg #[.int .i64 0, .int .i64 0, .slice none 0 0]) w := by kernel_rfl
/-- clear(s), s of elements of several cells -/
theorem run_clear_many {P : Program} (w : World) (t e ty : TypeId) (z : Value) (ht : P.underlying t = some (.slice e)) (hv : ∀ w, (zeroValue e).run P w = .ok z w) (h1 : ∀ u ∈ z.cells.toList, u.oneCell' = true) (k : Nat) (hk : z.cells.size = k) (b o n c : Nat) (hn : 0 < n)
    (hc : ∀ j, j < n * k → (w.cell? ⟨b, o + j, none⟩).isSome = true) (hf : ∀ j, j < n * k → w.frozen? ⟨b, o + j, none⟩ = false) :
    ∃ L : List Value, L.length = n * k ∧ (Builtin.clear_ #[t] ty #[.slice (some ⟨b, o, none⟩) n c]).run P w = .ok (.tuple #[]) (w.setCells b o L) := by
  have hl : (Builtin.zeroCells z.cells n).toList.length = n * k := by simp [Builtin.zeroCells, hk]
  refine ⟨(Builtin.zeroCells z.cells n).toList, hl, ?_⟩
  have ho : ∀ v ∈ (Builtin.zeroCells z.cells n).toList, v.oneCell' = true := fun v hv => by
    simp only [Builtin.zeroCells, Array.toList_map, List.mem_map, Array.toList_range, List.mem_range] at hv
    obtain ⟨i, hi, rfl⟩ := hv
    have h0 : 0 < z.cells.size := by
      rcases Nat.eq_zero_or_pos z.cells.size with h | h
      · rw [h, Nat.mul_zero] at hi; omega
      · exact h
    rw [getElem!_pos z.cells (i % z.cells.size) (Nat.mod_lt _ h0)]
    exact h1 _ (by simp)
  have hst := run_storeCells_cells (P := P) b o (Builtin.zeroCells z.cells n).toList 0 w (fun j hj => by rw [hl] at hj; simpa using hc j hj) (fun j hj => by rw [hl] at hj; simpa using hf j hj) ho
  simp only [Nat.add_zero] at hst
  obtain ⟨m, rfl⟩ : ∃ m, n = m + 1 := ⟨n - 1, by omega⟩
  simp [Builtin.clear_, run_underlying ht, hv, hst]

section
variable {w w' : World} {base : Nat} {A : Option Addr} {c n : Nat} {X : List Ox}
/-- a window with one of its ones changed -/
theorem Win.put1 (h : Win w base 115 3 (.slice A n c) n (oxCells X)) {i : Nat} {x : Ox} (hi : i < X.length) {g off : Nat} (hA : A = some ⟨g, off, none⟩) :
    Win (w.setCells g (off + i * 3) (oxv x)) base 115 3 (.slice A n c) n (oxCells (X.set i x)) := by
  have hl := h.1
  rw [oxCells_length] at hl
  refine ⟨by rw [oxCells_length, List.length_set]; exact hl, ?_⟩
  rcases h.2 with ⟨_, h2⟩ | ⟨g', off', c', h1, h2, h3, h4, h5, h6, h7⟩
  · omega
  · injection h1 with h1 _ hc
    rw [hA] at h1
    injection h1 with h1; injection h1 with e1 e2
    subst e1; subst e2; subst hc
    have hsp : ∀ j, j < (oxv x).length → (w.cell? ⟨g, off + i * 3 + j, none⟩).isSome = true := fun j hj => by
      rw [Nat.add_assoc]
      simp [oxv] at hj
      exact h7 _ (by omega)
    refine .inr ⟨g, off, c, by rw [hA], h2, kin_setCells _ h3, h4, h5, fun j u hj => ?_, fun j hj => ?_⟩
    · have hjl := (List.getElem?_eq_some_iff.1 hj).1
      rw [oxCells_length, List.length_set] at hjl
      obtain ⟨q, r, hr, rfl⟩ : ∃ q r, r < 3 ∧ j = q * 3 + r := ⟨j / 3, j % 3, Nat.mod_lt _ (by decide), by omega⟩
      by_cases hq : q = i
      · subst hq
        rw [oxCells_at _ q x (by rw [List.getElem?_set_self hi]) r hr] at hj
        rw [← Nat.add_assoc, World.cell?_setCells_in g (oxv x) (off + q * 3) w hsp r (by simp [oxv]; exact hr)]
        rw [List.getElem?_eq_getElem (by simp [oxv]; exact hr)] at hj
        exact hj
      · have hqx : q < X.length := by omega
        rw [oxCells_at _ q (oxg X q) (by rw [List.getElem?_set_ne (Ne.symm hq)]; exact oxg_at hqx) r hr, ← oxCells_at X q _ (oxg_at hqx) r hr] at hj
        rw [World.cell?_setCells_out g (oxv x) (off + i * 3) w ⟨g, off + (q * 3 + r), none⟩ (fun _ _ => by
          simp only [oxv, List.length_cons, List.length_nil]
          rcases Nat.lt_or_ge q i with h | h
          · left; omega
          · right; omega)]
        exact h6 _ u hj
    · by_cases hin : i * 3 ≤ j ∧ j < i * 3 + 3
      · obtain ⟨r, hr, rfl⟩ : ∃ r, r < 3 ∧ j = i * 3 + r := ⟨j - i * 3, by omega, by omega⟩
        rw [← Nat.add_assoc, World.cell?_setCells_in g (oxv x) (off + i * 3) w hsp r (by simp [oxv]; exact hr)]
        rfl
      · rw [World.cell?_setCells_out g (oxv x) (off + i * 3) w ⟨g, off + j, none⟩ (fun _ _ => by
          simp only [oxv, List.length_cons, List.length_nil]
          omega)]
        exact h7 _ hj
/-- a window made shorter, and what is behind it laid anew -/
theorem Win.cut1 (h : Win w base 115 3 (.slice A n c) n (oxCells X)) {m : Nat} (hm : m ≤ n) {g off : Nat} (hA : A = some ⟨g, off, none⟩) (L : List Value) (hL : m * 3 + L.length ≤ c * 3) :
    Win (w.setCells g (off + m * 3) L) base 115 3 (.slice A m c) m (oxCells (X.take m)) := by
  have hl := h.1
  rw [oxCells_length] at hl
  have hlt : (X.take m).length = m := by rw [List.length_take]; omega
  refine ⟨by rw [oxCells_length, hlt], ?_⟩
  rcases h.2 with ⟨h1, _⟩ | ⟨g', off', c', h1, h2, h3, h4, h5, h6, h7⟩
  · injection h1 with h1; rw [hA] at h1; cases h1
  · injection h1 with h1 _ hc
    rw [hA] at h1
    injection h1 with h1; injection h1 with e1 e2
    subst e1; subst e2; subst hc
    have hsp : ∀ j, j < L.length → (w.cell? ⟨g, off + m * 3 + j, none⟩).isSome = true := fun j hj => by
      rw [Nat.add_assoc]; exact h7 _ (by omega)
    refine .inr ⟨g, off, c, by rw [hA], h2, kin_setCells _ h3, by omega, h5, fun j u hj => ?_, fun j hj => ?_⟩
    · have hjl := (List.getElem?_eq_some_iff.1 hj).1
      rw [oxCells_length, hlt] at hjl
      have hX : (oxCells X)[j]? = some u := by
        have : oxCells X = oxCells (X.take m) ++ oxCells (X.drop m) := by rw [← oxCells_append, List.take_append_drop]
        rw [this, List.getElem?_append_left (by rw [oxCells_length, hlt]; exact hjl)]; exact hj
      rw [World.cell?_setCells_out g L (off + m * 3) w ⟨g, off + j, none⟩ (fun _ _ => .inl (by show off + j < off + m * 3; omega))]
      exact h6 _ u hX
    · by_cases hin : m * 3 ≤ j ∧ j < m * 3 + L.length
      · obtain ⟨r, hr, rfl⟩ : ∃ r, r < L.length ∧ j = m * 3 + r := ⟨j - m * 3, by omega, by omega⟩
        rw [← Nat.add_assoc, World.cell?_setCells_in g L (off + m * 3) w hsp r hr]; rfl
      · rw [World.cell?_setCells_out g L (off + m * 3) w ⟨g, off + j, none⟩ (fun _ _ => by show off + j < off + m * 3 ∨ off + m * 3 + L.length ≤ off + j; omega)]
        exact h7 _ hj
theorem chs_setCells (w : World) (g o : Nat) (L : List Value) : Chs (fun b => b = g) w (w.setCells g o L) :=
  ⟨World.os_setCells _ _ _ _, tape_setCells _ _ _ _, World.output_setCells _ _ _ _, by rw [size_setCells]; exact Nat.le_refl _, fun b hb hne => World.heap_setCells_other _ _ _ _ hb hne⟩
end
section
variable {p : Ox → Bool} {X Y : List Ox} {ki kj : Nat}
/-- how far the ones are gone through: Y as they lie, ki kept of the first kj -/
structure Gone (p : Ox → Bool) (X Y : List Ox) (ki kj : Nat) : Prop where
  lt : ki < kj
  le : kj ≤ X.length
  len : Y.length = X.length
  kept : Y.take ki = (X.take kj).filter fun x => !p x
  rest : Y.drop kj = X.drop kj
theorem Gone.here (h : Gone p X Y ki kj) (hk : kj < X.length) : oxg Y kj = oxg X kj := by
  have h1 := congrArg (fun l : List Ox => l[0]?) h.rest
  simp only [List.getElem?_drop, Nat.add_zero] at h1
  rw [oxg_at (X := Y) (by rw [h.len]; exact hk), oxg_at hk] at h1
  injection h1
theorem take_succ_g {X : List Ox} {k : Nat} (hk : k < X.length) : X.take (k + 1) = X.take k ++ [oxg X k] := by
  rw [List.take_add_one, oxg_at hk]; rfl
theorem Gone.skip (h : Gone p X Y ki kj) (hk : kj < X.length) (hp : p (oxg X kj) = true) : Gone p X Y ki (kj + 1) :=
  ⟨by have := h.lt; omega, hk, h.len, by rw [take_succ_g hk, List.filter_append, h.kept]; simp [hp], by rw [← List.drop_drop, h.rest, List.drop_drop]⟩
theorem Gone.put (h : Gone p X Y ki kj) (hk : kj < X.length) (hp : p (oxg X kj) = false) : Gone p X (Y.set ki (oxg X kj)) (ki + 1) (kj + 1) := by
  have hlt := h.lt
  have hY : ki < Y.length := by rw [h.len]; omega
  refine ⟨by omega, hk, by rw [List.length_set]; exact h.len, ?_, ?_⟩
  · rw [take_succ_g hk, List.filter_append, ← h.kept]
    rw [show [oxg X kj].filter (fun x => !p x) = [oxg X kj] by simp [hp]]
    rw [List.take_add_one, List.getElem?_set_self hY, List.take_set_of_le (Nat.le_refl _)]
    rfl
  · rw [List.drop_set_of_lt (by omega), ← List.drop_drop, h.rest, List.drop_drop]
theorem Gone.start {k : Nat} (hi : idx (fun i => p (oxg X i)) X.length = (k : Int)) : Gone p X X k (k + 1) := by
  obtain ⟨i, e, h1, h2, h3⟩ := idx_at (p := fun i => p (oxg X i)) (n := X.length) (by rw [hi]; omega)
  obtain rfl : i = k := by omega
  refine ⟨by omega, by omega, rfl, ?_, rfl⟩
  rw [take_succ_g h1, List.filter_append]
  simp only [h2, List.filter_cons, Bool.not_true, Bool.false_eq_true, if_false, List.filter_nil, List.append_nil]
  symm
  rw [List.filter_eq_self]
  intro x hx
  obtain ⟨j, hj, rfl⟩ := List.getElem_of_mem hx
  rw [List.length_take] at hj
  have := h3 j (by omega)
  simp only [oxg, List.getD_eq_getElem?_getD, List.getElem?_eq_getElem (show j < X.length by omega), Option.getD_some] at this
  simp [this]
theorem Gone.done (h : Gone p X Y ki kj) (hk : kj = X.length) : Y.take ki = X.filter fun x => !p x := by rw [h.kept, hk, List.take_length]
theorem none_gone (hi : idx (fun i => p (oxg X i)) X.length = -1) : X.filter (fun x => !p x) = X := by
  rw [List.filter_eq_self]
  intro x hx
  obtain ⟨j, hj, rfl⟩ := List.getElem_of_mem hx
  have := (idx_neg (p := fun i => p (oxg X i)) (n := X.length)).1 (by rw [hi]; decide) j hj
  simp only [oxg, List.getD_eq_getElem?_getD, List.getElem?_eq_getElem hj, Option.getD_some] at this
  simp [this]
end
set_option maxHeartbeats 1600000 in
set_option maxRecDepth 100000 in
theorem ldel_any (base : Nat) (A : Option Addr) (c : Nat) (X : List Ox) (hm : X.length ≤ 1000000) (g : FuncId) (q : Value) (p : Ox → Bool) (w : World) (hbs : base ≤ w.heap.size) (hW : Win w base 115 3 (.slice A X.length c) X.length (oxCells X))
    (hp : ∀ W, Chs (fun b => (Value.slice A X.length c).ownBlock = some b) w W → ∀ x ∈ X, Calls Tryd.prog g #[.agg #[.int .i64 x.1.id, .int .i64 x.1.un, .slice x.2.1 x.1.t.length x.2.2], q] W fun e w' => e = .returned (.bool (p x)) ∧ Below W.heap.size W w')
    (hg : ∀ args w, (callFunc g args).run Tryd.prog w = .ok (.enter g args) w) :
    Calls Tryd.prog 84 #[.slice A X.length c, .func (.func g) #[] #[q]] w fun e w' => e = .returned (.slice A (X.filter fun x => !p x).length c) ∧ Win w' base 115 3 (.slice A (X.filter fun x => !p x).length c) (X.filter fun x => !p x).length (oxCells (X.filter fun x => !p x)) ∧ Chs (fun b => (Value.slice A X.length c).ownBlock = some b) w w' := by
  have ci := lidx_any A c X (by unfold maxLen; omega) g q (fun i => p (oxg X i)) w hW.oxs (fun W hb i hi => hp W (Chs.of_below _ hb) _ (by have := oxg_at hi; exact List.mem_of_getElem? this)) hg
  rcases Int.lt_or_le (idx (fun i => p (oxg X i)) X.length) 0 with hz | hz
  · have e1 : idx (fun i => p (oxg X i)) X.length = -1 := by have := idx_neg.1 hz; exact idx_none (fst_none.2 this)
    rw [none_gone e1]
    rw [e1] at ci
    have CI := Lib.hid ci; clear ci hp e1 hz
    go_enter Tryd.func84, Tryd.ntmps84
    go_wp2_with (go_at_call 88; refine CI.out.mono ?_; rintro e w1 ⟨rfl, hb1⟩)
    go_ret
    exact ⟨rfl, hW.keep hb1, Chs.of_below _ hb1⟩
  · obtain ⟨k, hk⟩ : ∃ k : Nat, idx (fun i => p (oxg X i)) X.length = (k : Int) := ⟨_, (Int.toNat_of_nonneg hz).symm⟩
    rw [hk] at ci
    have hgo := Gone.start hk
    have hkl := hgo.le
    have hq : (((k : Nat) : Int) == -1) = false := by simp
    have CI := Lib.hid ci; have HP := Lib.hid hp; have HGO := Lib.hid hgo
    clear ci hp hk hz hgo
    go_enter Tryd.func84, Tryd.ntmps84
    go_wp2_with (go_at_call 88; refine CI.out.mono ?_; rintro e w1 ⟨rfl, hb1⟩)
    have hW1 := hW.keep hb1
    go_loopw [5, 6] (fun i j wr => ∃ ki kj Y, Gone p X Y ki kj ∧ i = .int .i64 (ki : Nat) ∧ j = .int .i64 (kj : Nat) ∧ Win wr base 115 3 (.slice A X.length c) X.length (oxCells Y) ∧ Chs (fun b => (Value.slice A X.length c).ownBlock = some b) w wr) (fun i j _ => X.length - (intOf j).toNat)
    case atStart => exact ⟨k, k + 1, X, HGO.out, rfl, rfl, hW1, Chs.of_below _ hb1⟩
    case round =>
      clear hW1 hb1 CI HGO hkl hq hW
      obtain ⟨ki, kj, Y, hgo, rfl, rfl, hY, hc⟩ := hrel
      have h1 := hgo.lt
      have h2 := hgo.le
      by_cases hlt : kj < X.length
      · have hx := hgo.here hlt
        obtain ⟨b, off, hA, hbl, c0, c1, c2⟩ := hY.oxs kj _ (oxg_at (by rw [hgo.len]; exact hlt))
        rw [hx] at c0 c1 c2
        have hmem : oxg X kj ∈ X := List.mem_of_getElem? (oxg_at hlt)
        have q1 : (0 : Int) ≤ ki := by omega
        have q2 : (ki : Int) < X.length := by omega
        cases hpk : p (oxg X kj) with
        | true =>
          have hcx := fun W hW => HP.out W hW _ hmem
          rw [hpk] at hcx
          have HC := Lib.hid hcx; have HY := Lib.hid hY; have HG := Lib.hid (hgo.skip hlt hpk); have HCH := Lib.hid hc
          clear hcx hY hpk hx hgo hc HP hmem
          subst hA
          generalize oxg X kj = x at *
          go_wp2_with fail
          refine (HC.out _ (HCH.out.trans (Chs.of_below (fun _ => False) (bal1 _ _)) (fun b hb => hb.elim))).mono ?_
          rintro e w2 ⟨rfl, hb2⟩
          go_wp2_with fail
          go_roundw
          case rel => exact ⟨ki, kj + 1, Y, HG.out, rfl, by go_num, (HY.out.keep (bal1 _ _)).keep hb2, HCH.out.trans (Chs.of_below (fun _ => False) (bcl (bal1 _ _) hb2)) (fun b hb => hb.elim)⟩
          case measure => simp [intOf]; omega
        | false =>
          have hcx := fun W hW => HP.out W hW _ hmem
          rw [hpk] at hcx
          have hbx := fun (o : Obj) => bal1 wr o
          have HC := Lib.hid hcx; have HY := Lib.hid hY; have HG := Lib.hid (hgo.put hlt hpk); have HCH := Lib.hid hc
          have hki : ki < Y.length := by rw [hgo.len]; omega
          have HKI := Lib.hid hki
          clear hcx hY hpk hx hgo hc HP hmem hki
          subst hA
          generalize oxg X kj = x at *
          go_wp2_with fail
          refine (HC.out _ (HCH.out.trans (Chs.of_below (fun _ => False) (bal1 _ _)) (fun b hb => hb.elim))).mono ?_
          rintro e w2 ⟨rfl, hb2⟩
          have B2 := (AtB.new wr #[.int .i64 x.1.id, .int .i64 x.1.un, .slice x.2.1 x.1.t.length x.2.2] 115).below hb2 (AtB.new _ _ _).lt
          have k0 := B2.cell (i := 0) rfl
          have k1 := B2.cell (i := 1) rfl
          have k2 := B2.cell (i := 2) rfl
          have W2 := (HY.out.keep (bal1 _ _)).keep hb2
          obtain ⟨b', off', hAe, hbl', d0, d1, d2⟩ := W2.oxs ki _ (oxg_at HKI.out)
          injection hAe with hAe; injection hAe with e1 e2; subst e1; subst e2
          have hfr : ∀ o, w2.frozen? ⟨b, o, none⟩ = false := fun o => by obtain ⟨cur, hk⟩ := (W2.block rfl).2; simp [World.frozen?, hk]
          have f0 := hfr (off + ki * 3)
          have f1 := hfr (off + ki * 3 + 1)
          have f2 := hfr (off + ki * 3 + 2)
          have HW2 := Lib.hid W2
          clear W2 hfr
          go_wp2_with fail
          have hws : ((w2.setCell ⟨b, off + ki * 3, none⟩ (.int .i64 x.1.id)).setCell ⟨b, off + ki * 3 + 1, none⟩ (.int .i64 x.1.un)).setCell ⟨b, off + ki * 3 + 2, none⟩ (.slice x.2.1 x.1.t.length x.2.2) = w2.setCells b (off + ki * 3) (oxv x) := rfl
          rw [hws]
          refine ⟨⟨ki + 1, kj + 1, _, HG.out, by go_num, by go_num, HW2.out.put1 HKI.out rfl, ?_⟩, by simp [intOf]; omega⟩
          exact (HCH.out.trans (Chs.of_below (fun _ => False) (bcl (bal1 _ _) hb2)) (fun b hb => hb.elim)).trans (chs_setCells w2 b _ _) (fun b' hb' => .inl (by subst hb'; rfl))
      · have hkn : kj = X.length := by omega
        have hfil := hgo.done hkn
        have hYl := hgo.len
        obtain ⟨A', c', hAc, hcn, hcm⟩ := hY.form
        injection hAc with e1 _ e2; subst e1; subst e2
        obtain ⟨b, off, hA, hbl, _⟩ := hY.oxs ki _ (oxg_at (by rw [hgo.len]; omega))
        subst hA
        have hfr : ∀ o, wr.frozen? ⟨b, o, none⟩ = false := fun o => by obtain ⟨cur, hk⟩ := (hY.block rfl).2; simp [World.frozen?, hk]
        have hsome : ∀ j, j < c * 3 → (wr.cell? ⟨b, off + j, none⟩).isSome = true := by
          rcases hY.2 with ⟨h1, _⟩ | ⟨g', off', c', h1, _, _, _, _, _, h7⟩
          · injection h1 with h1; cases h1
          · injection h1 with h1 _ hc; injection h1 with h1; injection h1 with e1 e2; subst e1; subst e2; subst hc; exact h7
        have hcl : ∃ L : List Value, L.length = (X.length - ki) * 3 ∧ ∀ ty, (Builtin.clear_ #[111] ty #[.slice (some ⟨b, off + ki * 3, none⟩) (X.length - ki) (c - ki)]).run Tryd.prog wr = .ok (.tuple #[]) (wr.setCells b (off + ki * 3) L) := by
          obtain ⟨L, hL, hr⟩ := run_clear_many (P := Tryd.prog) wr 111 115 0 _ Tryd.underlying111 zeroOne (by decide) 3 rfl b (off + ki * 3) (X.length - ki) (c - ki) (by omega) (fun j hj => by rw [Nat.add_assoc]; exact hsome _ (by omega)) (fun j _ => hfr _)
          exact ⟨L, hL, fun ty => hr⟩
        obtain ⟨L, hL, hcl⟩ := hcl
        have q0 : ki ≤ c := by omega
        have hck : ¬ c = ki := by omega
        have q3 : (0 : Int) ≤ ki := by omega
        have q4 : (ki : Int) ≤ X.length := by omega
        have q5 : ki ≤ X.length := by omega
        have HGO := Lib.hid hgo; have HY := Lib.hid hY; have HCH := Lib.hid hc; have HF := Lib.hid hfil; have HL := Lib.hid hL; have HKN := Lib.hid hkn; have HCN := Lib.hid hcn
        clear hgo hY hc hfil hL hkn hcn hfr hsome HP
        go_wp2_with fail
        go_ret
        have hlen : (X.filter fun x => !p x).length = ki := by rw [← HF.out, List.length_take]; omega
        rw [hlen, ← HF.out]
        refine ⟨rfl, HY.out.cut1 q5 rfl L (by have := HL.out; have := HCN.out; omega), HCH.out.trans (chs_setCells wr b _ _) (fun b' hb' => .inl (by subst hb'; rfl))⟩
end Go.Proofs.YthpemlhlgjdnkaaDoor
