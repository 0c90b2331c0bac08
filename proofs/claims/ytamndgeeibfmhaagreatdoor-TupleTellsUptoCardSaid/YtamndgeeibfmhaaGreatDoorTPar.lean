/- tuple.Parse: what it returns. -/
import Derived.Test.YtamndgeeibfmhaaGreatDoorSseq
import Derived.Test.YtamndgeeibfmhaaGreatDoorVRd2
import Derived.Test.YtamndgeeibfmhaaGreatDoorVOwn
namespace Go.Proofs.YtamndgeeibfmhaaGreatDoor
open Go.RowKit Go.Joins
set_option linter.unusedVariables false
attribute [local go_sem] Oper.semAt_some

/-- the first fault among texts -/
def tpF : List ByteArray → Int
  | [] => 0
  | x :: r => if rdE x ≠ 0 then rdE x else tpF r
theorem tpF_app (l : List ByteArray) (m : List ByteArray) : tpF (l ++ m) = if tpF l ≠ 0 then tpF l else tpF m := by
  induction l with
  | nil => rfl
  | cons y r ih =>
    have e1 : ∀ t, tpF (y :: t) = if rdE y ≠ 0 then rdE y else tpF t := fun _ => rfl
    rw [List.cons_append, e1, e1]
    by_cases h : rdE y = 0
    · simp only [h, ne_eq, not_true_eq_false, if_false]
      exact ih
    · simp only [ne_eq, h, not_false_eq_true, if_true]
theorem tpF_next {l : List ByteArray} {k : Nat} {x : ByteArray} (h : tpF (l.take k) = 0) (hx : l[k]? = some x) (h0 : rdE x = 0) : tpF (l.take (k + 1)) = 0 := by
  rw [List.take_add_one, hx, tpF_app, if_neg (by rw [h]; simp)]
  show (if rdE x ≠ 0 then rdE x else 0) = 0
  rw [if_neg (by rw [h0]; simp)]
theorem tpF_at {l : List ByteArray} {k : Nat} {x : ByteArray} (h : tpF (l.take k) = 0) (hx : l[k]? = some x) (h0 : rdE x ≠ 0) : tpF l = rdE x := by
  have hl : l = l.take k ++ x :: l.drop (k + 1) := by
    obtain ⟨hlt, e⟩ := List.getElem?_eq_some_iff.1 hx
    rw [← e, ← List.drop_eq_getElem_cons hlt, List.take_append_drop]
  rw [hl, tpF_app, if_neg (by rw [h]; simp)]
  show (if rdE x ≠ 0 then rdE x else _) = _
  rw [if_pos h0]
theorem pcs_len (c : UInt8) : ∀ l : List UInt8, ∀ p ∈ pcs c l, p.length ≤ l.length
  | [], p, h => by simp [pcs] at h; simp [h]
  | x :: r, p, h => by
    unfold pcs at h
    have ih := pcs_len c r
    split at h
    · rcases List.mem_cons.1 h with e | e
      · rw [e]; simp
      · have := ih p e; simp; omega
    · split at h
      · rename_i q t e
        rw [e] at ih
        rcases List.mem_cons.1 h with e2 | e2
        · rw [e2]; have := ih q (by simp); simp; omega
        · have := ih p (by simp [e2]); simp; omega
      · simp at h; rw [h]; simp
theorem pcsB_size {c : UInt8} {s : ByteArray} {k : Nat} {x : ByteArray} (h : (pcsB c s)[k]? = some x) : x.size ≤ s.size := by
  have hm := List.mem_of_getElem? h
  obtain ⟨l, hl, rfl⟩ := List.mem_map.1 hm
  have := pcs_len c _ l hl
  rw [Array.length_toList] at this
  show (l.toArray).size ≤ s.size
  rw [List.size_toArray]
  exact this
theorem pcs_cnt (c : UInt8) : ∀ l : List UInt8, (pcs c l).length ≤ l.length + 1
  | [] => by simp [pcs]
  | x :: r => by
    have ih := pcs_cnt c r
    unfold pcs
    split
    · simp; omega
    · split
      · rename_i q t e
        rw [e] at ih
        simp at ih ⊢; omega
      · simp
/-- the fault of a text as a tuple, and the tuple -/
def tpE (s : ByteArray) : Int := if s.size = 0 then 5 else if tpF (pcsB 44 s) ≠ 0 then tpF (pcsB 44 s) else if 5 < (pcsB 44 s).length then 4 else 0
def tpR (s : ByteArray) : List Va := if tpE s = 0 then (pcsB 44 s).map rdR else []
theorem own_low {W : World} {b b' : Nat} {e : TypeId} {n k : Nat} {v : Value} {xs : List Value} (h : W.ownsRow b e n v k xs) (hb : b' ≤ b) : W.ownsRow b' e n v k xs := by
  refine ⟨h.1, ?_⟩
  rcases h.2 with h2 | ⟨g, cap, cur, h3, h4, h5⟩
  · exact .inl h2
  · exact .inr ⟨g, cap, cur, h3, by omega, h5⟩
theorem KeepsOthers.of_below {W W' : World} (h : Below W.heap.size W W') : KeepsOthers W W' := ⟨h.size, fun k o hk _ => (h.block k (Array.getElem?_eq_some_iff.1 hk).1).trans hk⟩

/-- between two fields -/
structure TI (w : World) (ps : List ByteArray) (k : Nat) (W : World) : Prop where
  r1 : Boxed W w.heap.size 22 (.slice none 0 0)
  r2 : Boxed W (w.heap.size + 1) 26 .nilIface
  out : ∃ (A : Option Addr) (c : Nat), Boxed W (w.heap.size + 1 + 1) 22 (.slice A k c) ∧ W.ownsRow (w.heap.size + 6) 41 3 (.slice A k c) k (vaCells ((ps.take k).map rdR))
  ok : tpF (ps.take k) = 0
  le : k ≤ ps.length
  b : Below w.heap.size w W
  z : w.heap.size + 6 ≤ W.heap.size
/-- a field that is none -/
structure TX (w : World) (ps : List ByteArray) (c : Code) (W : World) : Prop where
  c : c = .ret
  r1 : Boxed W w.heap.size 22 (.slice none 0 0)
  r2 : Boxed W (w.heap.size + 1) 26 (errV (tpF ps))
  bad : tpF ps ≠ 0
  b : Below w.heap.size w W
abbrev M3 (w : World) (b : Nat) : Prop := b = w.heap.size + 1 + 1 + 1 + 1 ∨ b = w.heap.size + 1 + 1 + 1 ∨ b = w.heap.size + 1 + 1 + 1 + 1 + 1
theorem box_stay {W W' : World} {row : Option Nat} {w : World} {B : Nat} {t : TypeId} {v : Value} {L : Nat} (h : Boxed W B t v) (hB : B < w.heap.size + 3) (hg : W.grownBy W' row) (hr : ∀ r, row = some r → M3 w r ∨ (L ≤ r ∧ ∃ o : Obj, W.heap[r]? = some o ∧ o.isCells = false)) : Boxed W' B t v := by
  refine h.kept hg fun e => ?_
  rcases hr B e.symm with h1 | ⟨_, o, h2, h3⟩
  · unfold M3 at h1; omega
  · rw [show W.heap[B]? = _ from h] at h2
    cases h2; cases h3
theorem low_stay {W W' : World} {row : Option Nat} {w : World} {L : Nat} (h : Below w.heap.size w W) (hL : w.heap.size ≤ L) (hg : W.grownBy W' row) (hr : ∀ r, row = some r → M3 w r ∨ (L ≤ r ∧ ∃ o : Obj, W.heap[r]? = some o ∧ o.isCells = false)) : Below w.heap.size w W' :=
  h.grown hg h.size fun r e => by
    rcases hr r e with h1 | ⟨h1, _⟩
    · unfold M3 at h1; omega
    · omega
theorem TI.stay {w : World} {ps : List ByteArray} {L : Nat} (hL : w.heap.size ≤ L) : AbR (M3 w) L (TI w ps) := by
  intro k W W' row h hg hr
  obtain ⟨A, c, o1, o2⟩ := h.out
  refine ⟨box_stay h.r1 (by omega) hg hr, box_stay h.r2 (by omega) hg hr, ⟨A, c, box_stay o1 (by omega) hg hr, o2.kept hg ?_⟩, h.ok, h.le, low_stay h.b hL hg hr, Nat.le_trans h.z hg.size⟩
  rcases o2.2 with ⟨e, _⟩ | ⟨g, cap, cur, e, hb, hgb, _⟩
  · exact .inl (by rw [e]; rfl)
  · refine .inr fun e' => ?_
    have er : row = some g := by rw [← e', e]; rfl
    rcases hr g er with h1 | ⟨_, o, h2, h3⟩
    · unfold M3 at h1; omega
    · rw [hgb] at h2; cases h2; cases h3
theorem TX.stay {w : World} {ps : List ByteArray} {L : Nat} (hL : w.heap.size ≤ L) (c : Code) : AbR (M3 w) L (fun _ => TX w ps c) := by
  intro k W W' row h hg hr
  exact ⟨h.c, box_stay h.r1 (by omega) hg hr, box_stay h.r2 (by omega) hg hr, h.bad, low_stay h.b hL hg hr⟩
theorem bx_below {W W' : World} {B : Nat} {t : TypeId} {v : Value} (h : Boxed W B t v) (hb : Below W.heap.size W W') : Boxed W' B t v := (hb.block B h.lt).trans h
theorem add_pl (b o j : Nat) : (⟨b, o, none⟩ : Addr).add j = ⟨b, o + j, none⟩ := Lib.add_plain b o j
set_option maxHeartbeats 3200000 in
set_option maxRecDepth 100000 in
theorem tparse_in (s : ByteArray) (hs : s.size ≤ 140737488351232) (h0 : 0 < s.size) (hl : (pcsB 44 s).length ≤ 4000000) (w : World) (ht : TT w) (he : EE w) :
    CallsIn Fence.wide 5 Tryz.prog 14 #[.string s] w fun e w' => (∃ (A : Option Addr) (c : Nat), e = .returned (.tuple #[.slice A (tpR s).length c, eV (tpE s)]) ∧ OVals w' w.heap.size A c (tpR s)) ∧ Below w.heap.size w w' := by
  have q0 : s.toList.isEmpty = false := emp_test h0
  obtain ⟨i0, hi, hz0, hz1, hz2⟩ := info_parts infoV
  have HTE := Lib.hid (fun (W : World) (h : Below w.heap.size w W) => And.intro (show TT W from tab_stays (g := 6) (by kernel_rfl) ht h (Nat.le_refl _)) (he.below h (Nat.le_refl _)))
  refine callsIn_of_wp_marks Tryz.func14 rfl trivial ?_ rfl
  simp only [Tryz.ntmps14, List.size_toArray, List.length_cons, List.length_nil, Nat.reduceAdd, Nat.reduceSub, Array.replicate_succ, Array.replicate_zero, List.push_toArray, List.append_toArray, List.nil_append, List.cons_append]
  gi_wp2_with (refine ⟨trivial, ?_⟩; gi_at_call 26; refine (callsIn_wide.2 (split_any _ _ _)).mono ?_; rintro e w' ⟨rfl, rfl⟩)
  obtain ⟨X, hX⟩ : ∃ X, X = ((w.alloc (.cells #[.slice none 0 0] 22)).alloc (.cells #[.nilIface] 26)).alloc (.cells #[.slice none 0 0] 22) := ⟨_, rfl⟩
  have hXz : X.heap.size = w.heap.size + 1 + 1 + 1 := by rw [hX]; simp
  have x1 : Boxed X w.heap.size 22 (.slice none 0 0) := by rw [hX]; exact ((Boxed.new w _ _).alloc _).alloc _
  have x2 : Boxed X (w.heap.size + 1) 26 .nilIface := by
    have := Boxed.new (w.alloc (.cells #[.slice none 0 0] 22)) 26 .nilIface
    rw [World.size_alloc] at this
    rw [hX]; exact this.alloc _
  have x3 : Boxed X (w.heap.size + 1 + 1) 22 (.slice none 0 0) := by
    have := Boxed.new ((w.alloc (.cells #[.slice none 0 0] 22)).alloc (.cells #[.nilIface] 26)) 22 (.slice none 0 0)
    rw [World.size_alloc, World.size_alloc] at this
    rw [hX]; exact this
  have xb : Below w.heap.size w X := by rw [hX]; exact bal (bal (bal1 _ _) _) _
  rw [← hX]
  have y2 := ((AtB.new X #[.string s] 9).alloc (.cells #[.string ⟨#[44]⟩] 9)).alloc (.cells #[.int .i64 0] 3)
  have y1 := (AtB.new (X.alloc (.cells #[.string s] 9)) #[.string ⟨#[44]⟩] 9).alloc (.cells #[.int .i64 0] 3)
  have y3 := AtB.new ((X.alloc (.cells #[.string s] 9)).alloc (.cells #[.string ⟨#[44]⟩] 9)) #[.int .i64 0] 3
  obtain ⟨Y, hY⟩ : ∃ Y, Y = ((X.alloc (.cells #[.string s] 9)).alloc (.cells #[.string ⟨#[44]⟩] 9)).alloc (.cells #[.int .i64 0] 3) := ⟨_, rfl⟩
  rw [← hY] at y1 y2 y3 ⊢
  simp only [World.size_alloc, hXz] at y1 y2 y3
  have z1 : Boxed Y w.heap.size 22 (.slice none 0 0) := by rw [hY]; exact ((x1.alloc _).alloc _).alloc _
  have z2 : Boxed Y (w.heap.size + 1) 26 .nilIface := by rw [hY]; exact ((x2.alloc _).alloc _).alloc _
  have z3 : Boxed Y (w.heap.size + 1 + 1) 22 (.slice none 0 0) := by rw [hY]; exact ((x3.alloc _).alloc _).alloc _
  have yb : Below w.heap.size w Y := by rw [hY]; exact bal (bal (bal xb _) _) _
  have hYz : Y.heap.size = w.heap.size + 6 := by rw [hY]; simp [hXz]
  obtain ⟨ps, hps⟩ : ∃ ps, ps = pcsB 44 s := ⟨_, rfl⟩
  have hseq := split1_in 4 (by decide) _ _ _ (by omega) (by omega) 44 s hs Y y1 y2 y3
  rw [← hps] at hseq hl
  have H0 : TI w ps 0 Y := ⟨z1, z2, ⟨none, 0, z3, World.ownsRow_nil _ _ _ _⟩, rfl, Nat.zero_le _, yb, by omega⟩
  have HPS := Lib.hid hps
  clear hX hY hps x1 x2 x3 xb y1 y2 y3 z1 z2 z3 ht he q0 hXz
  refine wpIn_range_texts (M := M3 w) (xs := ps) (gf := 48) (lb := #[.pointer (some ⟨w.heap.size + 1 + 1 + 1 + 1, 0, none⟩), .pointer (some ⟨w.heap.size + 1 + 1 + 1, 0, none⟩), .pointer (some ⟨w.heap.size + 1 + 1 + 1 + 1 + 1, 0, none⟩)]) rfl (enters_of Tryz.func48 (by kernel_rfl) rfl)
    (fun b hb => by unfold M3 at hb; omega) hseq (TI w ps) (fun c _ => TX w ps c) (TI.stay (by omega)) (fun c => TX.stay (by omega) c) H0
    (fun x => { tmps := #[.string s, undef, .pointer (some ⟨w.heap.size, 0, none⟩), .pointer (some ⟨w.heap.size + 1, 0, none⟩), .pointer (some ⟨w.heap.size + 1 + 1, 0, none⟩), .string x, undef, undef, .string s, .bool false, undef, .string s,
      .func (.func 48) #[] #[.pointer (some ⟨w.heap.size + 1 + 1 + 1 + 1, 0, none⟩), .pointer (some ⟨w.heap.size + 1 + 1 + 1, 0, none⟩), .pointer (some ⟨w.heap.size + 1 + 1 + 1 + 1 + 1, 0, none⟩)], .string x, undef, undef, undef, undef, undef, undef, undef, undef, undef, undef, undef, undef, undef, undef, undef, undef, undef], defers := [] }) ?assign ?body ?done ?stop
  case assign =>
    intro l x W K hK
    gi_wp2
    exact hK
  case body =>
    intro l k x W hx hI
    have hxs : x.size ≤ s.size := pcsB_size (c := 44) (k := k) (by rw [← HPS.out]; exact hx)
    obtain ⟨tt, ee⟩ := HTE.out W hI.b
    have cp := vparse_any x (by omega) W tt ee
    have hkl := (List.getElem?_eq_some_iff.1 hx).1
    have hz := hI.z
    by_cases hE : rdE x = 0
    · rw [hE, eV_zero] at cp
      obtain ⟨A, c, o1, o2⟩ := hI.out
      have hmap : (ps.take (k + 1)).map rdR = (ps.take k).map rdR ++ [rdR x] := by rw [List.take_add_one, hx]; simp
      have hok2 := tpF_next hI.ok hx hE
      have HMAP := Lib.hid hmap; have HOK2 := Lib.hid hok2
      generalize rdR x = R at *
      have CP := Lib.hid cp; have HI := Lib.hid hI
      clear cp hE tt ee hxs hx hI hmap hok2
      gi_wp2_with fail
      refine ⟨trivial, ?_⟩
      refine (CallsIn.inRound l (callsIn_wide.2 CP.out)).mono ?_
      rintro e w1 ⟨rfl, hb1⟩
      have b1 := bx_below HI.out.r1 hb1
      have b2 := bx_below HI.out.r2 hb1
      have b3 := bx_below o1 hb1
      have ow := own_keep o2 hb1
      have hz1' := hb1.size
      have p3 := b3.cell; have l3 := b3.lt
      have hcs : ∀ (j : Nat) (u : Value), ([.int .i64 R.k, .int .i64 R.n, .string R.s] : List Value)[j]? = some u → ((w1.alloc (.cells #[.int .i64 R.k, .int .i64 R.n, .string R.s] 41)).alloc (.cells #[.int .i64 R.k, .int .i64 R.n, .string R.s] 41)).cell? ((⟨w1.heap.size + 1, 0, none⟩ : Addr).add j) = some u := by
        intro j u hj
        have hA := AtB.new (w1.alloc (.cells #[.int .i64 R.k, .int .i64 R.n, .string R.s] 41)) #[.int .i64 R.k, .int .i64 R.n, .string R.s] 41
        rw [World.size_alloc] at hA
        have := hA.cell (i := j) (v := u) (by rw [← hj]; simp)
        rw [add_pl, Nat.zero_add]
        exact this
      have HCS := Lib.hid hcs
      have B1 := Lib.hid b1; have B2 := Lib.hid b2; have B3 := Lib.hid b3; have OW := Lib.hid ow; have HB1 := Lib.hid hb1
      clear b1 b2 b3 ow hb1 hcs
      gi_wp2_with (gi_at_builtin; refine wpListIn_append_own _ rfl _ _ 22 rfl (w.heap.size + 6) 41 i0 _ 3 32 Tryz.underlying22 hi hz0 hz1 hz2 rfl (by decide) _ _ _ rfl ((OW.out.alloc _).alloc _) ⟨w1.heap.size + 1, 0, none⟩ 1 1 [.int .i64 R.k, .int .i64 R.n, .string R.s] rfl rfl HCS.out (by simp [Value.oneCell']) (by unfold maxLen; omega) (by omega) (by simp; omega) ?_; intro v' w2 hown' hgrow _; obtain ⟨g', cap', rfl⟩ := ownsRow_succ hown'; obtain ⟨v1, v2, v3, v4, v5⟩ := Boxed.appended (n₀ := w.heap.size) (B3.out.alloc (.cells #[.int .i64 R.k, .int .i64 R.n, .string R.s] 41)) (by decide) (own_low (OW.out.alloc (.cells #[.int .i64 R.k, .int .i64 R.n, .string R.s] 41)) (by omega)) (by simp; omega) (by omega) (own_low hown' (by omega)) hgrow; have v6 := hown'.kept (grownBy_setCell' w2 (w.heap.size + 1 + 1) (.slice (some ⟨g', 0, none⟩) (k + 1) cap')) (.inr (v1.not_row (by decide) hown').symm); have m1 := v1.cell; have m2 := v1.frozen; have G := Lib.hid hgrow; have V2 := Lib.hid v2; have V4 := Lib.hid v4; have V5 := Lib.hid v5; have V6 := Lib.hid v6; clear hown' hgrow v1 v2 v3 v4 v5 v6)
      have hrow := (OW.out.alloc (.cells #[.int .i64 R.k, .int .i64 R.n, .string R.s] 41)).alloc (.cells #[.int .i64 R.k, .int .i64 R.n, .string R.s] 41)
      have hg6 : ∀ r, (Value.slice A k c).ownBlock = some r → w.heap.size + 6 ≤ r := fun r e => by
        rcases hrow.2 with ⟨e2, _⟩ | ⟨g, cap, cur, e2, hb, _⟩
        · rw [e2] at e; cases e
        · rw [e2] at e; cases e; exact hb
      refine ⟨((KeepsOthers.of_below HB1.out).trans ((KeepsOthers.alloc _ _).trans V4.out)).from _, ?_, ?_⟩
      · refine (KpM.below HB1.out fun b hb => by unfold M3 at hb; omega).trans ((show KpM (M3 w) w1 (w1.alloc (.cells #[.int .i64 R.k, .int .i64 R.n, .string R.s] 41)) from KpM.alloc _ fun b hb => by unfold M3 at hb; omega).trans ((show KpM (M3 w) (w1.alloc (.cells #[.int .i64 R.k, .int .i64 R.n, .string R.s] 41)) ((w1.alloc (.cells #[.int .i64 R.k, .int .i64 R.n, .string R.s] 41)).alloc (.cells #[.int .i64 R.k, .int .i64 R.n, .string R.s] 41)) from KpM.alloc _ fun b hb => by unfold M3 at hb; simp; omega).trans ?_))
        intro b hb
        have hb6 : b < w.heap.size + 6 := by unfold M3 at hb; omega
        rw [Below.heap_setCell _ _ _ _ (by unfold M3 at hb; simp; omega)]
        exact G.out.block b (by simp; omega) fun e => by have := hg6 b e.symm; omega
      · refine ⟨?_, ?_, ⟨_, _, V2.out, ?_⟩, HOK2.out, by omega, ?_, ?_⟩
        · exact ((((B1.out.alloc _).alloc _).kept G.out (((B1.out.alloc _).alloc _).not_row (by decide) hrow)).other (by omega) _)
        · exact ((((B2.out.alloc _).alloc _).kept G.out (((B2.out.alloc _).alloc _).not_row (by decide) hrow)).other (by omega) _)
        · rw [HMAP.out, vaCells_append]
          exact V6.out
        · exact (bal (bcl HI.out.b HB1.out) _).trans V5.out
        · have := G.out.size
          simp only [World.size_alloc] at this
          have h2 : (w2.setCell ⟨w.heap.size + 1 + 1, 0, none⟩ (.slice (some ⟨g', 0, none⟩) (k + 1) cap')).heap.size = w2.heap.size := by simp [World.setCell]
          rw [h2]; omega
    · have hF := tpF_at hI.ok hx hE
      rw [eV_of hE, ← hF] at cp
      have hbad : tpF ps ≠ 0 := by rw [hF]; exact hE
      generalize rdR x = R at *
      have CP := Lib.hid cp; have HI := Lib.hid hI
      clear cp hF hE tt ee hxs hx hI
      gi_wp2_with fail
      refine ⟨trivial, ?_⟩
      refine (CallsIn.inRound l (callsIn_wide.2 CP.out)).mono ?_
      rintro e w1 ⟨rfl, hb1⟩
      have b1 := bx_below HI.out.r1 hb1
      have b2 := bx_below HI.out.r2 hb1
      have p1 := b1.cell; have p2 := b2.cell; have f1 := b1.frozen; have f2 := b2.frozen; have l1 := b1.lt; have l2 := b2.lt
      have B1 := Lib.hid b1; have B2 := Lib.hid b2; have HB1 := Lib.hid hb1
      clear b1 b2 hb1
      gi_wp2_with fail
      exact ⟨((((KeepsOthers.of_below HB1.out).trans (KeepsOthers.setCell _ _ _)).trans (KeepsOthers.setCell _ _ _)).trans (KeepsOthers.alloc _ _)).from _, ⟨rfl, ((B1.out.set _).other (by omega) _).alloc _, ((B2.out.other (by omega) _).set _).alloc _, hbad, bal (((bcl HI.out.b HB1.out).setCell (p := ⟨w.heap.size, 0, none⟩) (Nat.le_refl _) _).setCell (p := ⟨w.heap.size + 1, 0, none⟩) (by simp) _) _⟩⟩
  case done =>
    intro D W hD hI hK
    obtain ⟨A, c, o1, o2⟩ := hI.out
    rw [List.take_length] at o2
    have p1 := hI.r1.cell; have p2 := hI.r2.cell; have p3 := o1.cell
    have f1 := hI.r1.frozen; have f2 := hI.r2.frozen
    have l1 := hI.r1.lt; have l2 := hI.r2.lt
    have hne : s.size ≠ 0 := by omega
    have hok := hI.ok
    rw [List.take_length] at hok
    have hlm : (ps.map rdR).length = ps.length := List.length_map _
    have HO := Lib.hid (show W.ownsRow w.heap.size 41 3 (.slice A ps.length c) ps.length (vaCells (ps.map rdR)) from own_low o2 (by omega))
    by_cases h5 : 5 < ps.length
    · have HE := Lib.hid (show tpE s = 4 by rw [tpE, if_neg hne, ← HPS.out, if_neg (by rw [hok]; simp), if_pos h5])
      have HR := Lib.hid (show tpR s = [] by rw [tpR, if_neg (by rw [HE.out]; decide)])
      have h5' : (5 : Int) < (ps.length : Int) := by omega
      have HI := Lib.hid hI
      clear hne hok hI hlm o2
      gi_wp2
      have B1 := (HI.out.r1.set (.slice none 0 0)).other (show w.heap.size ≠ w.heap.size + 1 by omega) (errV 4)
      have B2 := (HI.out.r2.other (show w.heap.size + 1 ≠ w.heap.size by omega) (.slice none 0 0)).set (errV 4)
      have hK2 : ((W.setCell ⟨w.heap.size, 0, none⟩ (.slice none 0 0)).setCell ⟨w.heap.size + 1, 0, none⟩ (errV 4)).heap[D]? = some (.deferred (some [])) := by
        rw [Below.heap_setCell _ _ _ _ (by simp; omega), Below.heap_setCell _ _ _ _ (by simp; omega)]; exact hK
      have e1 := cell_kept B1.cell (grownBy_putObj' _ D (.deferred none)) (fun r e => by cases e; exact ⟨_, hK2, rfl⟩)
      have e2 := cell_kept B2.cell (grownBy_putObj' _ D (.deferred none)) (fun r e => by cases e; exact ⟨_, hK2, rfl⟩)
      refine ⟨by simp, .inl ⟨_, _, rfl, run_takeDeferred hK2, ?_⟩⟩
      refine ⟨.tuple #[.slice none 0 0, errV 4], by simp [results, Tryz.results14, go_sem, e1, e2], ?_⟩
      exact ⟨⟨none, 0, by rw [HE.out, HR.out]; rfl, by rw [HR.out]; exact OVals.nil⟩, ((HI.out.b.setCell (p := ⟨w.heap.size, 0, none⟩) (Nat.le_refl _) _).setCell (p := ⟨w.heap.size + 1, 0, none⟩) (by simp) _).trans (belowK_b (w := w) (Nat.le_refl _) _ D _ _ (by omega) hK2 rfl rfl)⟩
    · have HE := Lib.hid (show tpE s = 0 by rw [tpE, if_neg hne, ← HPS.out, if_neg (by rw [hok]; simp), if_neg h5])
      have HR := Lib.hid (show tpR s = ps.map rdR by rw [tpR, if_pos HE.out, ← HPS.out])
      have h5' : decide ((5 : Int) < (ps.length : Int)) = false := by simp; omega
      have HI := Lib.hid hI; have HLM := Lib.hid hlm
      clear hne hok hI hlm o2 h5
      gi_wp2
      have B1 := (HI.out.r1.set (.slice A ps.length c)).other (show w.heap.size ≠ w.heap.size + 1 by omega) .nilIface
      have B2 := (HI.out.r2.other (show w.heap.size + 1 ≠ w.heap.size by omega) (.slice A ps.length c)).set .nilIface
      have hK2 : ((W.setCell ⟨w.heap.size, 0, none⟩ (.slice A ps.length c)).setCell ⟨w.heap.size + 1, 0, none⟩ .nilIface).heap[D]? = some (.deferred (some [])) := by
        rw [Below.heap_setCell _ _ _ _ (by simp; omega), Below.heap_setCell _ _ _ _ (by simp; omega)]; exact hK
      have e1 := cell_kept B1.cell (grownBy_putObj' _ D (.deferred none)) (fun r e => by cases e; exact ⟨_, hK2, rfl⟩)
      have e2 := cell_kept B2.cell (grownBy_putObj' _ D (.deferred none)) (fun r e => by cases e; exact ⟨_, hK2, rfl⟩)
      have hrow := (HO.out.kept (grownBy_setCell' W w.heap.size (.slice A ps.length c)) (.inr (HI.out.r1.not_row (by decide) HO.out).symm))
      have hrow2 := hrow.kept (grownBy_setCell' _ (w.heap.size + 1) .nilIface) (.inr ((HI.out.r2.other (show w.heap.size + 1 ≠ w.heap.size by omega) (.slice A ps.length c)).not_row (by decide) hrow).symm)
      refine ⟨by simp, .inl ⟨_, _, rfl, run_takeDeferred hK2, ?_⟩⟩
      refine ⟨.tuple #[.slice A ps.length c, .nilIface], by simp [results, Tryz.results14, go_sem, e1, e2], ?_⟩
      refine ⟨⟨A, c, by rw [HE.out, HR.out, HLM.out]; rfl, ?_⟩, ((HI.out.b.setCell (p := ⟨w.heap.size, 0, none⟩) (Nat.le_refl _) _).setCell (p := ⟨w.heap.size + 1, 0, none⟩) (by simp) _).trans (belowK_b (w := w) (Nat.le_refl _) _ D _ _ (by omega) hK2 rfl rfl)⟩
      unfold OVals
      rw [HR.out, HLM.out]
      exact ownsRow_putObj hrow2 _ hK2 rfl
  case stop =>
    rintro D c k W hD ⟨rfl, h1, h2, h3, h4⟩ hK
    have p1 := h1.cell; have p2 := h2.cell
    have hne : s.size ≠ 0 := by omega
    have hE : tpE s = tpF ps := by rw [tpE, if_neg hne, ← HPS.out, if_pos h3]
    have hR : tpR s = [] := by rw [tpR, if_neg (by rw [hE]; exact h3)]
    have HE := Lib.hid hE; have HR := Lib.hid hR; have H3 := Lib.hid h3
    clear hE hR h3 hne
    gi_wp2
    have e1 := cell_kept p1 (grownBy_putObj' W D (.deferred none)) (fun r e => by cases e; exact ⟨_, hK, rfl⟩)
    have e2 := cell_kept p2 (grownBy_putObj' W D (.deferred none)) (fun r e => by cases e; exact ⟨_, hK, rfl⟩)
    refine ⟨by simp, .inl ⟨_, _, rfl, run_takeDeferred hK, ?_⟩⟩
    refine ⟨.tuple #[.slice none 0 0, errV (tpF ps)], by simp [results, Tryz.results14, go_sem, e1, e2], ?_⟩
    exact ⟨⟨none, 0, by rw [HE.out, HR.out, eV_of H3.out]; rfl, by rw [HR.out]; exact OVals.nil⟩, h4.trans (belowK_b (w := w) (Nat.le_refl _) W D _ _ (by omega) hK rfl rfl)⟩
end Go.Proofs.YtamndgeeibfmhaaGreatDoor
