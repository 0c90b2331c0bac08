/- Logs: a record's text; what a log is in memory. Package log: read: a record is read as it was written. What a log has recorded, and the copy that it makes: plain laws. A loop over an iterator of texts as in RgM, where what holds stays only if each block of cells keeps its kind. strings.Lines: what its iterator gives. Package log: redo: what holds between two records. Package log: New; package mirror: Again. Package log: redo. Package log: back. Package log: record, step, Do where nothing is redone; package mirror: Again. Package mirror: Again. Package log: Do where nothing is redone. What is left of a log behind a crash: plain laws. -/
import Derived.Test.YtfelefkmbbfdjaaGreatDoorCpAll
import Derived.Test.YtfelefkmbbfdjaaGreatDoorWord
import Derived.Test.YtfelefkmbbfdjaaGreatDoorTpAll
import Derived.WalkKit
import Derived.WalkLawsBesides
import Derived.WalkSpells
import Derived.RegionTactic
import Derived.Outline
import Derived.RangeFuncNested
import Derived.RangeFuncBound
import Derived.RangeFuncCalls
import Derived.RangeFuncLeaves
import Derived.RangeFuncBox
import Derived.Shelf.Abstract
import Derived.OwnWalkIn
import Derived.TacticsInMore
import Derived.LoopNIn
import Derived.LoopIn
import Derived.Test.YtfelefkmbbfdjaaGreatDoorNest
import Derived.BigRegionIn
import Derived.Deep.QuietTactic
import Derived.BigQuiet
namespace Go.Proofs.YtfelefkmbbfdjaaGreatDoor
open Go.ChangeShapes Go.WideShapes Go.ChangeAt Go.RowKit Go.Joins
set_option linter.unusedVariables false

/-- a number as text -/
def itB (n : Int) : ByteArray := ⟨(Lib.itoa n).toArray⟩
/-- a record without its end, and whole -/
def rcB (a : Ak) : ByteArray := jn [itB a.w, itB a.q, itB a.d, lin a.t] ⟨#[32]⟩
def recB (a : Ak) : ByteArray := rcB a ++ ⟨#[10]⟩
theorem itB_size {n : Int} (h0 : -9223372036854775808 ≤ n) (h1 : n ≤ 9223372036854775807) : (itB n).size ≤ 21 := by
  have h := Lib.itoa_length_le n h0 h1
  show (Lib.itoa n).toArray.size ≤ 21
  rw [List.size_toArray]; exact h
/-- what may be recorded -/
structure Rcd (a : Ak) : Prop where
  w0 : 0 ≤ a.w
  w1 : a.w ≤ 1000000
  q0 : 0 < a.q
  q1 : a.q ≤ 1000000
  d0 : 0 ≤ a.d
  d1 : a.d ≤ 2
  li : liE a.t = 0
theorem rcB_size {a : Ak} (h : Rcd a) : (rcB a).size ≤ 444 := by
  obtain ⟨_, h5, hr⟩ := rgt_of h.li
  have hl := lin_size hr a.t.length
  rw [List.take_length] at hl
  have := h.w0; have := h.w1; have := h.q0; have := h.q1; have := h.d0; have := h.d1
  refine Nat.le_trans (jn_size _ _ 110 fun x hx => ?_) (show 4 * (110 + 1) ≤ 444 by decide)
  simp only [List.mem_cons, List.not_mem_nil, or_false] at hx
  rcases hx with rfl | rfl | rfl | rfl
  · exact Nat.le_trans (itB_size (by omega) (by omega)) (by decide)
  · exact Nat.le_trans (itB_size (by omega) (by omega)) (by decide)
  · exact Nat.le_trans (itB_size (by omega) (by omega)) (by decide)
  · omega
theorem size_app (a b : ByteArray) : (a ++ b).size = a.size + b.size := ByteArray.size_append
theorem recB_size {a : Ak} (h : Rcd a) : (recB a).size ≤ 445 := by
  have := rcB_size h
  rw [recB, size_app]
  show (rcB a).size + 1 ≤ 445
  omega
theorem rcB_three (a : Ak) : 3 ≤ (rcB a).size := by
  have h3 : (rcB a).size = (Lib.join ([itB a.w, itB a.q, itB a.d, lin a.t].map (·.data.toList)) [32]).length := by simp [rcB, jn, ByteArray.size]
  rw [h3]
  simp only [List.map_cons, List.map_nil, Lib.join_cons, List.length_append, Lib.joinTail_length, List.length_cons, List.length_nil]
  omega
theorem recB_four (a : Ak) : 4 ≤ (recB a).size := by
  have := rcB_three a
  rw [recB, size_app]
  show 4 ≤ (rcB a).size + 1
  omega
/-- what a copy has done may be recorded -/
theorem rcd_of {R : List Ru} {s : Cs} {a : Ak} (hs : Cok s) (hn : s.n ≤ 999999) (h : doE R s a = 0) (hg : agB s a = false) : Rcd a := by
  obtain ⟨hq, h2 | ⟨_, h3, _⟩⟩ := doE_zero h
  · rw [hg] at h2; cases h2
  · obtain ⟨hw, hd, _, _, hli, _⟩ := qcE_zero hq
    have := whoB_true.1 hw
    have hd2 : 0 ≤ a.d ∧ a.d ≤ 2 := by
      simp only [deedB, Bool.and_eq_true, decide_eq_true_eq] at hd; exact hd
    have := hs.f0 a.w
    exact ⟨by omega, by omega, by omega, by omega, hd2.1, hd2.2, hli⟩

/-! ### in memory -/
structure Lg (w : World) (base P p q : Nat) (g : Option Nat) (m : Nat) (R : List Ru) (s : Cs) (b : ByteArray) (sf mn : Nat) (lf : Int) (st : Bool) : Prop where
  there : ∃ A c, AtB w P #[.slice A R.length c, .pointer (some ⟨p, 0, none⟩), .string b, .int .i64 sf, .int .i64 mn, .int .i64 lf, .bool st] 62 ∧ ROwn w base A c R
  cpy : Cpy w base p q g m R s
  hp : base ≤ P
def LM (P p q : Nat) (g : Option Nat) (m : Nat) (b : Nat) : Prop := b = P ∨ CM p q g m b
section
variable {w w' : World} {base P p q m : Nat} {g : Option Nat} {R : List Ru} {s : Cs} {b : ByteArray} {sf mn : Nat} {lf : Int} {st : Bool}
theorem Lg.hb (h : Lg w base P p q g m R s b sf mn lf st) : base ≤ w.heap.size := h.cpy.hb
theorem Lg.pkin (h : Lg w base P p q g m R s b sf mn lf st) : kin w P 62 := by obtain ⟨A, c, h1, _⟩ := h.there; exact h1.kin
/-- the log's own block is none of its copy's -/
theorem Lg.nocm (h : Lg w base P p q g m R s b sf mn lf st) : ¬ CM p q g m P := fun hb => by
  rcases hb with e | e | e | e
  · exact absurd (kin.ne h.pkin (e ▸ h.cpy.pkin)) (by decide)
  · exact absurd (kin.ne h.pkin (e ▸ h.cpy.spc.kin)) (by decide)
  · exact absurd (kin.ne h.pkin (h.cpy.spc.gkin e).2) (by decide)
  · exact not_kin_of_map h.cpy.map.isMap (e ▸ h.pkin)
theorem Lg.mine (h : Lg w base P p q g m R s b sf mn lf st) : ∀ x, LM P p q g m x → base ≤ x ∧ ¬ kin w x 31 ∧ ¬ kin w x 34 := fun x hx => by
  rcases hx with rfl | hx
  · exact ⟨h.hp, fun k => absurd (kin.ne k h.pkin) (by decide), fun k => absurd (kin.ne k h.pkin) (by decide)⟩
  · exact h.cpy.mine x hx
theorem Lg.keep (h : Lg w base P p q g m R s b sf mn lf st) (hb : Below w.heap.size w w') : Lg w' base P p q g m R s b sf mn lf st := by
  obtain ⟨A, c, h1, h2⟩ := h.there
  exact ⟨⟨A, c, h1.below hb h1.lt, h2.keep h.hb hb⟩, h.cpy.keep hb, h.hp⟩
/-- its copy has moved on -/
theorem Lg.copied {g' : Option Nat} {s' : Cs} (h : Lg w base P p q g m R s b sf mn lf st) (hc : Cpy w' base p q g' m R s') (k : Chs (CM p q g m) w w') : Lg w' base P p q g' m R s' b sf mn lf st := by
  obtain ⟨A, c, h1, h2⟩ := h.there
  refine ⟨⟨A, c, h1.chs k h.nocm, h2.stay h.hb k.size fun x hx hk => k.block x hx fun e => ?_⟩, hc, h.hp⟩
  obtain ⟨q1, q2, q3⟩ := h.cpy.mine x e
  rcases hk with hk | hk | hk
  · omega
  · exact q2 hk
  · exact q3 hk
/-- its own block is written anew -/
theorem Lg.wrote {b' : ByteArray} {sf' mn' : Nat} {lf' : Int} {st' : Bool} (h : Lg w base P p q g m R s b sf mn lf st) (k : Chs (fun x => x = P) w w')
    (hw : ∀ A c, AtB w P #[.slice A R.length c, .pointer (some ⟨p, 0, none⟩), .string b, .int .i64 sf, .int .i64 mn, .int .i64 lf, .bool st] 62 → AtB w' P #[.slice A R.length c, .pointer (some ⟨p, 0, none⟩), .string b', .int .i64 sf', .int .i64 mn', .int .i64 lf', .bool st'] 62) :
    Lg w' base P p q g m R s b' sf' mn' lf' st' := by
  obtain ⟨A, c, h1, h2⟩ := h.there
  have hm := h.mine P (.inl rfl)
  refine ⟨⟨A, c, hw A c h1, h2.stay h.hb k.size fun x hx hk => k.block x hx fun e => ?_⟩, h.cpy.apart k (fun x e => e ▸ hm) (fun x e => e ▸ h.nocm), h.hp⟩
  subst e
  rcases hk with hk | hk | hk
  · omega
  · exact hm.2.1 hk
  · exact hm.2.2 hk
end
end Go.Proofs.YtfelefkmbbfdjaaGreatDoor
namespace Go.Proofs.YtfelefkmbbfdjaaGreatDoor
open Go.RowKit Go.Joins Go.ChangeShapes Go.WideShapes
set_option linter.unusedVariables false

/-- the table of white space is laid -/
def AS (w : World) : Prop := Lib.TabIs Tryz.prog w "strings.asciiSpace" .u8 Lib.asciiSpaceTab
theorem atoi_back {n : Int} (h0 : -1000000 ≤ n) (h1 : n ≤ 1000000) : Lib.atoiAll (Lib.itoa n) = .ok n := by
  have h := rdN_itoa n h0 h1
  rw [← rd_eq, rdA] at h
  split at h
  · rename_i m hm
    split at h
    · injection h with h; rw [hm, h]
    · cases h
  · cases h
theorem rec_list (a : Ak) : (recB a).data.toList = Lib.join [Lib.itoa a.w, Lib.itoa a.q, Lib.itoa a.d, (lin a.t).data.toList] [32] ++ [10] := by
  rw [recB, ByteArray.data_append, Array.toList_append]
  rfl
theorem rec_fields {a : Ak} (h : Rcd a) : Lib.fields (recB a).data.toList = [Lib.itoa a.w, Lib.itoa a.q, Lib.itoa a.d, (lin a.t).data.toList] := by
  rw [rec_list]
  exact fields_four (itoa_ne _) (itoa_ne _) (itoa_ne _) (lin_ne h.li) (itoa_pln _) (itoa_pln _) (itoa_pln _) (lin_pln h.li)
theorem rec_mem {a : Ak} (h : Rcd a) : ∀ b ∈ (rcB a).data.toList, plnB b ∨ b = 32 := fun b hb => by
  rcases join_mem _ (show b ∈ Lib.join ([itB a.w, itB a.q, itB a.d, lin a.t].map (·.data.toList)) [32] from by simpa [rcB, jn] using hb) with ⟨p, hp, hb2⟩ | h2
  · simp only [List.map_cons, List.map_nil, List.mem_cons, List.not_mem_nil, or_false] at hp
    rcases hp with rfl | rfl | rfl | rfl
    · exact .inl (itoa_pln _ b (by simpa [itB] using hb2))
    · exact .inl (itoa_pln _ b (by simpa [itB] using hb2))
    · exact .inl (itoa_pln _ b (by simpa [itB] using hb2))
    · exact .inl (lin_pln h.li b hb2)
  · simp only [List.mem_singleton] at h2
    exact .inr h2
theorem rec_app (a : Ak) : (recB a).data.toList = (rcB a).data.toList ++ [10] := by
  rw [recB, ByteArray.data_append, Array.toList_append]
theorem rec_ascii {a : Ak} (h : Rcd a) : ∀ (j : Nat) b, (recB a).data.toList[j]? = some b → b.toNat < 128 := fun j b hb => by
  have hm := List.mem_of_getElem? hb
  rw [rec_app] at hm
  rcases List.mem_append.1 hm with h1 | h1
  · rcases rec_mem h b h1 with h2 | h2
    · exact h2.2
    · rw [h2]; decide
  · simp only [List.mem_singleton] at h1
    rw [h1]; decide
theorem rc_no10 {a : Ak} (h : Rcd a) : ∀ b ∈ (rcB a).data.toList, b ≠ 10 := fun b hb => by
  rcases rec_mem h b hb with h2 | h2
  · exact pln_ne h2 (by decide)
  · rw [h2]; decide
/-- the numbers that are read so far -/
def nst (a : Ak) (k : Nat) : Array Value := #[.int .i64 (if 0 < k then a.w else 0), .int .i64 (if 1 < k then a.q else 0), .int .i64 (if 2 < k then a.d else 0)]
set_option maxHeartbeats 1600000 in
set_option maxRecDepth 100000 in
theorem read_rec (a : Ak) (h : Rcd a) (w : World) (ht : ∀ W, Below w.heap.size w W → TT W ∧ EE W ∧ AS W) :
    Calls Tryz.prog 50 #[.string (recB a)] w fun e w' => (∃ (A : Option Addr) (c : Nat), e = .returned (.tuple #[akv a A c, .nilIface]) ∧ OVals w' w.heap.size A c a.t) ∧ Below w.heap.size w w' := by
  have hrs := recB_size h
  have h1 := h.w0; have h2 := h.w1; have h3 := h.q0; have h4 := h.q1; have h6 := h.d0; have h7 := h.d1
  obtain ⟨b1, b2, b3, b4⟩ := lin_back h.li
  have cf := fun (W : World) (hb : Below w.heap.size w W) => Tryz.strings_Fields (recB a) W (by omega) (rec_ascii h) (ht W hb).2.2
  rw [rec_fields h] at cf
  have ca0 := fun (W : World) => atoi_ok (itB a.w) (Nat.le_trans (itB_size (by omega) (by omega)) (by decide)) a.w (atoi_back (by omega) (by omega)) W
  have ca1 := fun (W : World) => atoi_ok (itB a.q) (Nat.le_trans (itB_size (by omega) (by omega)) (by decide)) a.q (atoi_back (by omega) (by omega)) W
  have ca2 := fun (W : World) => atoi_ok (itB a.d) (Nat.le_trans (itB_size (by omega) (by omega)) (by decide)) a.d (atoi_back (by omega) (by omega)) W
  have cp := fun (W : World) (hb : Below w.heap.size w W) => tparse_any (lin a.t) (by omega) (by omega) W (ht W hb).1 (ht W hb).2.1
  rw [b1, b2, eV_zero] at cp
  have CF := Lib.hid cf; have CA0 := Lib.hid ca0; have CA1 := Lib.hid ca1; have CA2 := Lib.hid ca2; have CP := Lib.hid cp
  clear cf ca0 ca1 ca2 cp ht b1 b2 b3 b4 hrs h h1 h2 h3 h4 h6 h7
  generalize recB a = rb at *
  obtain ⟨x, q', d, t⟩ := a
  simp only [akv] at *
  go_enter Tryz.func50, Tryz.ntmps50
  have hb0 := bal1 w (.cells #[.int .i64 0, .int .i64 0, .int .i64 0, .slice none 0 0] 38)
  have HB0 := Lib.hid hb0
  clear hb0
  go_wp2_with (go_at_call 76; refine (CF.out _ HB0.out).mono ?_; rintro e w1 ⟨rfl, rfl⟩)
  obtain ⟨W0, hW0⟩ : ∃ W0, W0 = ((w.alloc (.cells #[.int .i64 0, .int .i64 0, .int .i64 0, .slice none 0 0] 38)).alloc (.cells #[.string ⟨(Lib.itoa x).toArray⟩, .string ⟨(Lib.itoa q').toArray⟩, .string ⟨(Lib.itoa d).toArray⟩, .string ⟨(lin t).data⟩] 9)).alloc (.cells #[.int .i64 0, .int .i64 0, .int .i64 0] 128) := ⟨_, rfl⟩
  rw [← hW0]
  have r0 : AtB W0 w.heap.size #[.int .i64 0, .int .i64 0, .int .i64 0, .slice none 0 0] 38 := by rw [hW0]; exact ((AtB.new w _ _).alloc _).alloc _
  have s0 : AtB W0 (w.heap.size + 1) #[.string ⟨(Lib.itoa x).toArray⟩, .string ⟨(Lib.itoa q').toArray⟩, .string ⟨(Lib.itoa d).toArray⟩, .string ⟨(lin t).data⟩] 9 := by
    have := AtB.new (w.alloc (.cells #[.int .i64 0, .int .i64 0, .int .i64 0, .slice none 0 0] 38)) #[.string ⟨(Lib.itoa x).toArray⟩, .string ⟨(Lib.itoa q').toArray⟩, .string ⟨(Lib.itoa d).toArray⟩, .string ⟨(lin t).data⟩] 9
    rw [World.size_alloc] at this
    rw [hW0]; exact this.alloc _
  have n0 : AtB W0 (w.heap.size + 1 + 1) (nst ⟨x, q', d, t⟩ 0) 128 := by
    have := AtB.new ((w.alloc (.cells #[.int .i64 0, .int .i64 0, .int .i64 0, .slice none 0 0] 38)).alloc (.cells #[.string ⟨(Lib.itoa x).toArray⟩, .string ⟨(Lib.itoa q').toArray⟩, .string ⟨(Lib.itoa d).toArray⟩, .string ⟨(lin t).data⟩] 9)) (nst ⟨x, q', d, t⟩ 0) 128
    rw [World.size_alloc, World.size_alloc] at this
    rw [hW0]; exact this
  have b0 : Below w.heap.size w W0 := by rw [hW0]; exact bal (bal (bal1 _ _) _) _
  have R0 := Lib.hid r0; have S0 := Lib.hid s0; have N0 := Lib.hid n0; have BB := Lib.hid b0
  clear r0 s0 n0 b0 hW0
  go_loopw [6, 7, 8, 13] (fun _ _ _ s13 wr => ∃ k : Nat, k ≤ 3 ∧ s13 = .int .i64 k ∧ Hid (Below w.heap.size w wr) ∧ Hid (AtB wr w.heap.size #[.int .i64 0, .int .i64 0, .int .i64 0, .slice none 0 0] 38) ∧ Hid (AtB wr (w.heap.size + 1) #[.string ⟨(Lib.itoa x).toArray⟩, .string ⟨(Lib.itoa q').toArray⟩, .string ⟨(Lib.itoa d).toArray⟩, .string ⟨(lin t).data⟩] 9) ∧ Hid (AtB wr (w.heap.size + 1 + 1) (nst ⟨x, q', d, t⟩ k) 128)) (fun _ _ _ s13 _ => 3 - (intOf s13).toNat)
  case atStart => exact ⟨0, by decide, rfl, BB, R0, S0, N0⟩
  case round =>
    clear BB R0 S0 N0
    obtain ⟨k, hk, rfl, HB, R, S, N⟩ := hrel
    rcases (show k = 0 ∨ k = 1 ∨ k = 2 ∨ k = 3 by omega) with rfl | rfl | rfl | rfl
    · have y := S.out.cell (i := 0) rfl
      have yl := S.out.lt
      go_wp2_with (go_at_call 77; refine (CA0.out _).mono ?_; rintro e w2 ⟨rfl, hb2⟩; have HB2 := Lib.hid (bcl HB.out hb2); have n2 := N.out.below hb2 N.out.lt; have nf := n2.frozen 0; have nl := n2.lt; have nc := n2.cell (i := 0) rfl; have N2 := Lib.hid n2; have R2 := Lib.hid (R.out.below hb2 R.out.lt); have S2 := Lib.hid (S.out.below hb2 S.out.lt); clear n2 hb2)
      go_roundw
      case rel => exact ⟨1, by decide, rfl, Lib.hid (HB2.out.setCell (p := ⟨w.heap.size + 1 + 1, 0, none⟩) (by show w.heap.size ≤ w.heap.size + 1 + 1; omega) _), Lib.hid (R2.out.far (p := ⟨w.heap.size + 1 + 1, 0, none⟩) (by show w.heap.size ≠ w.heap.size + 1 + 1; omega) _), Lib.hid (S2.out.far (p := ⟨w.heap.size + 1 + 1, 0, none⟩) (by show w.heap.size + 1 ≠ w.heap.size + 1 + 1; omega) _), Lib.hid (N2.out.set 0 (.int .i64 x))⟩
      case measure => decide
    · have y := S.out.cell (i := 1) rfl
      have yl := S.out.lt
      go_wp2_with (go_at_call 77; refine (CA1.out _).mono ?_; rintro e w2 ⟨rfl, hb2⟩; have HB2 := Lib.hid (bcl HB.out hb2); have n2 := N.out.below hb2 N.out.lt; have nf := n2.frozen 1; have nl := n2.lt; have nc := n2.cell (i := 1) rfl; have N2 := Lib.hid n2; have R2 := Lib.hid (R.out.below hb2 R.out.lt); have S2 := Lib.hid (S.out.below hb2 S.out.lt); clear n2 hb2)
      go_roundw
      case rel => exact ⟨2, by decide, rfl, Lib.hid (HB2.out.setCell (p := ⟨w.heap.size + 1 + 1, 1, none⟩) (by show w.heap.size ≤ w.heap.size + 1 + 1; omega) _), Lib.hid (R2.out.far (p := ⟨w.heap.size + 1 + 1, 1, none⟩) (by show w.heap.size ≠ w.heap.size + 1 + 1; omega) _), Lib.hid (S2.out.far (p := ⟨w.heap.size + 1 + 1, 1, none⟩) (by show w.heap.size + 1 ≠ w.heap.size + 1 + 1; omega) _), Lib.hid (N2.out.set 1 (.int .i64 q'))⟩
      case measure => decide
    · have y := S.out.cell (i := 2) rfl
      have yl := S.out.lt
      go_wp2_with (go_at_call 77; refine (CA2.out _).mono ?_; rintro e w2 ⟨rfl, hb2⟩; have HB2 := Lib.hid (bcl HB.out hb2); have n2 := N.out.below hb2 N.out.lt; have nf := n2.frozen 2; have nl := n2.lt; have nc := n2.cell (i := 2) rfl; have N2 := Lib.hid n2; have R2 := Lib.hid (R.out.below hb2 R.out.lt); have S2 := Lib.hid (S.out.below hb2 S.out.lt); clear n2 hb2)
      go_roundw
      case rel => exact ⟨3, by decide, rfl, Lib.hid (HB2.out.setCell (p := ⟨w.heap.size + 1 + 1, 2, none⟩) (by show w.heap.size ≤ w.heap.size + 1 + 1; omega) _), Lib.hid (R2.out.far (p := ⟨w.heap.size + 1 + 1, 2, none⟩) (by show w.heap.size ≠ w.heap.size + 1 + 1; omega) _), Lib.hid (S2.out.far (p := ⟨w.heap.size + 1 + 1, 2, none⟩) (by show w.heap.size + 1 ≠ w.heap.size + 1 + 1; omega) _), Lib.hid (N2.out.set 2 (.int .i64 d))⟩
      case measure => decide
    · have y := S.out.cell (i := 3) rfl
      have yl := S.out.lt
      go_wp2_with (go_at_call 78; refine (CP.out _ HB.out).mono ?_; rintro e w2 ⟨⟨A, c, rfl, hO⟩, hb2⟩; have HB2 := Lib.hid (bcl HB.out hb2); have HO := Lib.hid hO; have n2 := N.out.below hb2 N.out.lt; have c0 : w2.cell? ⟨w.heap.size + 1 + 1, 0, none⟩ = some (.int .i64 x) := n2.cell rfl; have c1 : w2.cell? ⟨w.heap.size + 1 + 1, 1, none⟩ = some (.int .i64 q') := n2.cell rfl; have c2 : w2.cell? ⟨w.heap.size + 1 + 1, 2, none⟩ = some (.int .i64 d) := n2.cell rfl; have nl := n2.lt; have r2 := R.out.below hb2 R.out.lt; have p0 := r2.cell (i := 0) rfl; have p1 := r2.cell (i := 1) rfl; have p2 := r2.cell (i := 2) rfl; have p3 := r2.cell (i := 3) rfl; have f0 := r2.frozen 0; have f1 := r2.frozen 1; have f2 := r2.frozen 2; have f3 := r2.frozen 3; have rl := r2.lt; have R2 := Lib.hid r2; clear n2 r2 hb2 hO)
      have hz := HB.out.size
      have hN := R.out.lt
      have hg : w2.grownBy ((((w2.setCell ⟨w.heap.size, 0, none⟩ (.int .i64 x)).setCell ⟨w.heap.size, 1, none⟩ (.int .i64 q')).setCell ⟨w.heap.size, 2, none⟩ (.int .i64 d)).setCell ⟨w.heap.size, 3, none⟩ (.slice A t.length c)) (some w.heap.size) :=
        ⟨rfl, rfl, rfl, by simp [World.setCell], fun k hk hne => by
          have hk2 : k ≠ w.heap.size := fun e => hne (by rw [e])
          rw [Below.heap_setCell _ _ _ _ hk2, Below.heap_setCell _ _ _ _ hk2, Below.heap_setCell _ _ _ _ hk2, Below.heap_setCell _ _ _ _ hk2]⟩
      have ho2 : OVals ((((w2.setCell ⟨w.heap.size, 0, none⟩ (.int .i64 x)).setCell ⟨w.heap.size, 1, none⟩ (.int .i64 q')).setCell ⟨w.heap.size, 2, none⟩ (.int .i64 d)).setCell ⟨w.heap.size, 3, none⟩ (.slice A t.length c)) w.heap.size A c t := by
        refine own_low (HO.out.kept hg ?_) hz
        rcases HO.out.2 with ⟨e, _⟩ | ⟨g, cap, cur, e, hb, _⟩
        · exact .inl (by rw [e]; rfl)
        · refine .inr fun e' => ?_
          rw [e] at e'
          have e3 : g = w.heap.size := by first | exact Option.some.inj e' | exact (Option.some.inj e').symm
          have h4 : w.heap.size < wr.heap.size := hN
          omega
      have hb2 := (((HB2.out.setCell (p := ⟨w.heap.size, 0, none⟩) (Nat.le_refl _) (.int .i64 x)).setCell (p := ⟨w.heap.size, 1, none⟩) (Nat.le_refl _) (.int .i64 q')).setCell (p := ⟨w.heap.size, 2, none⟩) (Nat.le_refl _) (.int .i64 d)).setCell (p := ⟨w.heap.size, 3, none⟩) (Nat.le_refl _) (.slice A t.length c)
      exact bodyPost_ret (v := .tuple #[.agg #[.int .i64 x, .int .i64 q', .int .i64 d, .slice A t.length c], .nilIface]) (by simp [results, Tryz.results50, go_sem, p0, p1, p2, p3]) rfl ⟨⟨A, c, rfl, ho2⟩, hb2⟩
end Go.Proofs.YtfelefkmbbfdjaaGreatDoor
namespace Go.Proofs.YtfelefkmbbfdjaaGreatDoor
open Go.RowKit
set_option linter.unusedVariables false

/-- the copy that did these -/
def cpD (R : List Ru) (D : List Ak) : Cs := D.foldl (doC R) Cs.zero
/-- each was done, and was new -/
def VdD (R : List Ru) (D : List Ak) : Prop := ∀ (k : Nat) (a : Ak), D[k]? = some a → okL a.t ∧ doE R (cpD R (D.take k)) a = 0 ∧ agB (cpD R (D.take k)) a = false
/-- the records -/
def recs (D : List Ak) : ByteArray := ⟨(D.map fun a => (recB a).data.toList).flatten.toArray⟩
section
variable {R : List Ru} {D : List Ak}
theorem cpD_nil : cpD R [] = Cs.zero := rfl
theorem cpD_snoc (a : Ak) : cpD R (D ++ [a]) = doC R (cpD R D) a := by simp [cpD, List.foldl_append]
theorem cpD_next {k : Nat} {a : Ak} (h : D[k]? = some a) : cpD R (D.take (k + 1)) = doC R (cpD R (D.take k)) a := by
  rw [List.take_add_one, h]; exact cpD_snoc a
theorem VdD.nil : VdD R [] := fun k a h => by simp at h
theorem VdD.take (h : VdD R D) (j : Nat) : VdD R (D.take j) := fun k a hk => by
  rw [List.getElem?_take] at hk
  split at hk
  · rename_i hlt
    have := h k a hk
    rw [List.take_take, show min k j = k by omega]
    exact this
  · cases hk
theorem VdD.snoc (h : VdD R D) {a : Ak} (ho : okL a.t) (h1 : doE R (cpD R D) a = 0) (h2 : agB (cpD R D) a = false) : VdD R (D ++ [a]) := fun k b hb => by
  rcases Nat.lt_or_ge k D.length with hlt | hge
  · rw [List.getElem?_append_left hlt] at hb
    rw [List.take_append_of_le_length (by omega)]
    exact h k b hb
  · rw [List.getElem?_append_right hge] at hb
    have hk : k = D.length := by
      have := (List.getElem?_eq_some_iff.1 hb).1
      simp at this; omega
    subst hk
    simp at hb
    subst hb
    rw [List.take_left]
    exact ⟨ho, h1, h2⟩
theorem doC_n1 {s : Cs} {a : Ak} (h1 : doE R s a = 0) (h2 : agB s a = false) : (doC R s a).n = s.n + 1 := by rw [doC_new h1 h2]
theorem VdD.ok (h : VdD R D) : ∀ k, k ≤ D.length → Cok (cpD R (D.take k)) ∧ (cpD R (D.take k)).n = k
  | 0, _ => ⟨Cok.zero, rfl⟩
  | k + 1, hk => by
    obtain ⟨i1, i2⟩ := VdD.ok h k (by omega)
    obtain ⟨a, ha⟩ : ∃ a, D[k]? = some a := ⟨_, List.getElem?_eq_getElem (by omega)⟩
    obtain ⟨h1, h2, h3⟩ := h k a ha
    rw [cpD_next ha]
    exact ⟨i1.step h1, by rw [doC_n1 h2 h3, i2]⟩
theorem VdD.n (h : VdD R D) : (cpD R D).n = D.length := by
  have := (h.ok D.length (Nat.le_refl _)).2
  rwa [List.take_length] at this
theorem VdD.cok (h : VdD R D) : Cok (cpD R D) := by
  have := (h.ok D.length (Nat.le_refl _)).1
  rwa [List.take_length] at this
theorem VdD.rcd (h : VdD R D) (hl : D.length ≤ 999999) {k : Nat} {a : Ak} (hk : D[k]? = some a) : Rcd a := by
  have hlt := (List.getElem?_eq_some_iff.1 hk).1
  obtain ⟨i1, i2⟩ := h.ok k (by omega)
  obtain ⟨_, h2, h3⟩ := h k a hk
  exact rcd_of i1 (by omega) h2 h3
theorem VdD.all (h : VdD R D) (hl : D.length ≤ 999999) : ∀ a ∈ D, Rcd a := fun a ha => by
  obtain ⟨k, hk, e⟩ := List.mem_iff_getElem.1 ha
  exact h.rcd hl (k := k) (by rw [← e]; exact List.getElem?_eq_getElem hk)
end
theorem recs_nil : recs [] = ⟨#[]⟩ := rfl
theorem recs_snoc (D : List Ak) (a : Ak) : recs (D ++ [a]) = recs D ++ recB a := bytes_eq (by simp [recs, ByteArray.data_append])
theorem recs_list (a : Ak) (D : List Ak) : (recs (a :: D)).data.toList = (rcB a).data.toList ++ 10 :: (recs D).data.toList := by
  show (((a :: D).map fun a => (recB a).data.toList).flatten.toArray).toList = _
  rw [List.map_cons, List.flatten_cons, rec_app]
  simp [recs]
/-- the records' lines are the records -/
theorem lns_recs : ∀ D : List Ak, (∀ a ∈ D, Rcd a) → lns (recs D).data.toList = D.map fun a => (recB a).data.toList
  | [], _ => rfl
  | a :: D, h => by
    rw [recs_list, lns_app _ _ (rc_no10 (h a (by simp))), lns_recs D fun b hb => h b (List.mem_cons_of_mem _ hb), List.map_cons, rec_app]
theorem lnB_recs {D : List Ak} (h : ∀ a ∈ D, Rcd a) : lnB (recs D) = D.map recB := by
  rw [lnB, lns_recs D h, List.map_map]
  exact List.map_congr_left fun a _ => rfl
theorem recs_size : ∀ D : List Ak, (∀ a ∈ D, Rcd a) → (recs D).size ≤ D.length * 445
  | [], _ => Nat.zero_le _
  | a :: D, h => by
    have h1 := recs_size D fun b hb => h b (List.mem_cons_of_mem _ hb)
    have h2 := rcB_size (h a (by simp))
    have h3 : (recs (a :: D)).size = (rcB a).size + 1 + (recs D).size := by
      have := congrArg List.length (recs_list a D)
      rw [List.length_append, List.length_cons, Array.length_toList, Array.length_toList, Array.length_toList] at this
      show (recs (a :: D)).data.size = (rcB a).data.size + 1 + (recs D).data.size
      omega
    rw [h3, List.length_cons, Nat.succ_mul]
    omega
end Go.Proofs.YtfelefkmbbfdjaaGreatDoor
namespace Go.Proofs.YtfelefkmbbfdjaaGreatDoor
open Go.RowKit
set_option linter.unusedVariables false

/-- each block of cells keeps its kind -/
def Kds (W W' : World) : Prop := ∀ (b : Nat) (t : TypeId), kin W b t → kin W' b t
theorem Kds.alloc (W : World) (o : Obj) : Kds W (W.alloc o) := fun b t ⟨cs, h⟩ => ⟨cs, (Below.heap_alloc _ _ _ (Array.getElem?_eq_some_iff.1 h).1).trans h⟩
theorem Kds.put {W : World} {l : Nat} {o : Obj} (o' : Obj) (hl : W.heap[l]? = some o) (ho : o.isCells = false) : Kds W (W.putObj l o') := fun b t ⟨cs, h⟩ => by
  by_cases e : b = l
  · subst e; rw [hl] at h; cases h; cases ho
  · exact ⟨cs, (World.putObj_heap_other e).trans h⟩
theorem Kds.set (W : World) (g i : Nat) (v : Value) : Kds W (W.setCell ⟨g, i, none⟩ v) := fun b t ⟨cs, h⟩ => by
  by_cases e : b = g
  · subst e
    exact ⟨cs.setIfInBounds i v, by simp [World.setCell, Array.getElem?_modify, h]⟩
  · exact ⟨cs, (Below.heap_setCell W ⟨g, i, none⟩ v b e).trans h⟩
theorem Kds.setd (W : World) (g i : Nat) (v : Value) : Kds W (W.setCell ⟨g, i, none⟩ v).drew := Kds.set W g i v
/-- J stands where a block of M is turned, or a new one made -/
def AbMk (M : Nat → Prop) (J : Nat → World → Prop) : Prop := ∀ (s : Nat) (W W' : World) (row : Option Nat), J s W → W.grownBy W' row → (∀ r, row = some r → M r) → Kds W W' → J s W'
/-- .. or one from B on that is no cells -/
def AbRk (M : Nat → Prop) (B : Nat) (I : Nat → World → Prop) : Prop :=
  ∀ (s : Nat) (W W' : World) (row : Option Nat), I s W → W.grownBy W' row → (∀ r, row = some r → M r ∨ (B ≤ r ∧ ∃ o : Obj, W.heap[r]? = some o ∧ o.isCells = false)) → Kds W W' → I s W'
/-- an iterator gives the texts xs, one by one, as long as it is let; the blocks M are its own -/
def SeqK (n : Nat) (P : Program) (gf : Nat) (lb : Array Value) (M : Nat → Prop) (xs : List ByteArray) (w : World) : Prop :=
  ∀ (l : Nat) (J Jx : Nat → World → Prop) (W : World), KpM M w W → w.heap.size ≤ W.heap.size → AbMk M J → AbMk M Jx →
    (∀ (k : Nat) (x : ByteArray) (W1 : World), xs[k]? = some x → J k W1 → YieldAt Fence.wide (n - 1) P l #[.string x] W1 fun e W' => (e = .returned (.bool true) ∧ J (k + 1) W' ∧ KpM M W1 W') ∨ (e = .returned (.bool false) ∧ Jx (k + 1) W')) →
    J 0 W → CallsIn Fence.wide n P gf (#[.func (.yield l) #[] #[]] ++ lb) W fun e W' => (∃ v, e = .returned v) ∧ (J xs.length W' ∨ ∃ k, Jx k W')
theorem wpIn_range_textsK {P : Program} {n : Nat} {g : Operand} {p : Tmp} {assign body : Code} {Q : Exit → Act → World → Prop} {a : Act} {w : World}
    {gf : Nat} {lb : Array Value} (hg : a.eval g = .func (.func gf) #[] lb) (eg : ∀ args w, (callFunc gf args).run P w = .ok (.enter gf args) w)
    {M : Nat → Prop} {xs : List ByteArray} (hM : ∀ b, M b → b < w.heap.size) (hseq : SeqK (n - 1) P gf lb M xs w)
    (I : Nat → World → Prop) (Ix : Code → Nat → World → Prop) (hI : AbRk M w.heap.size I) (hIx : ∀ c, AbRk M w.heap.size (Ix c)) (h0 : I 0 w) (a₁ : ByteArray → Act)
    (hassign : ∀ (l : Nat) (x : ByteArray) (W : World) (K : Act → World → Prop), K (a₁ x) W →
      assign.wpIn (Fence.wide.inRound l) (n - 1 - 1) P (Exit.then K (fun _ _ _ => False)) { tmps := a.tmps.setIfInBounds p (.string x), defers := [] } W)
    (hbody : ∀ (l : Nat) (k : Nat) (x : ByteArray) (W : World), xs[k]? = some x → I k W → body.wpIn (Fence.wide.inRound l) (n - 1 - 1) P (postM w.heap.size M I Ix (k + 1) W) (a₁ x) W)
    (hdone : ∀ (D : Nat) (W : World), w.heap.size ≤ D → I xs.length W → W.heap[D]? = some (.deferred (some [])) → Q .normal { a with defers := { target := .collected D, args := #[] } :: a.defers } W)
    (hstop : ∀ (D : Nat) (c : Code) (k : Nat) (W : World), w.heap.size ≤ D → Ix c k W → W.heap[D]? = some (.deferred (some [])) → c.wpIn Fence.wide n P Q { a with defers := { target := .collected D, args := #[] } :: a.defers } W) :
    (Code.rangeFunc g #[p] assign body).wpIn Fence.wide n P Q a w := by
  refine wpIn_rangeFunc fun fn hfn => ?_
  obtain ⟨rec, hrec⟩ : ∃ rec : LoopState → Option Code → Loop, rec = fun st pe => { state := st, pending := pe, fn, tmps := a.tmps, params := #[p], assign, body, defers := w.heap.size } := ⟨_, rfl⟩
  obtain ⟨W1, hW1⟩ : ∃ W1, (w.alloc (.deferred (some []))).alloc (.loop (rec .ready none)) = W1 := ⟨_, rfl⟩
  have hL1 : W1.heap[w.heap.size + 1]? = some (.loop (rec .ready none)) := by
    rw [← hW1]; have := World.alloc_heap_new (w.alloc (.deferred (some []))) (.loop (rec .ready none)); rwa [World.size_alloc] at this
  have hK1 : W1.heap[w.heap.size]? = some (.deferred (some [])) := by
    rw [← hW1]; exact (Below.heap_alloc _ _ _ (by simp)).trans (World.alloc_heap_new w _)
  have hst : ∀ s W o, I s W → I s (W.alloc o) := fun s W o h => hI s W _ none h (World.grownBy_alloc W o none) (fun r e => by cases e) (Kds.alloc W o)
  have hI1 : I 0 W1 := by rw [← hW1]; exact hst _ _ _ (hst _ _ _ h0)
  have hz1 : w.heap.size + 2 ≤ W1.heap.size := by rw [← hW1]; simp
  have hM1 : KpM M w W1 := by rw [← hW1]; exact (KpM.alloc _ hM).trans (KpM.alloc _ fun b hb => by simp; have := hM b hb; omega)
  have putI : ∀ {J : Nat → World → Prop} (hJ : AbRk M w.heap.size J) {s : Nat} {W : World} {l : Nat} {o : Obj} (o' : Obj), J s W → w.heap.size ≤ l → W.heap[l]? = some o → o.isCells = false → J s (W.putObj l o') :=
    fun hJ s W l o o' hs hB hl ho => hJ s W _ (some l) hs (grownBy_putObj' W l o') (fun r e => by cases e; exact .inr ⟨hB, o, hl, ho⟩) (Kds.put o' hl ho)
  have putM : ∀ (W : World) (l : Nat) (o : Obj), w.heap.size ≤ l → KpM M W (W.putObj l o) := fun W l o hl => KpM.put o fun b hb => by have := hM b hb; omega
  have keep : ∀ {A B : World} {row : Option Nat} {l : Nat} {o : Obj}, A.grownBy B row → (∀ r, row = some r → M r) → w.heap.size ≤ l → A.heap[l]? = some o → B.heap[l]? = some o := fun hg' hr hl hh =>
    (hg'.block _ (Array.getElem?_eq_some_iff.1 hh).1 (fun e => by have := hM _ (hr _ e.symm); omega)).trans hh
  refine ⟨w.heap.size + 1, [{ target := .collected w.heap.size, args := #[] }], W1, { target := .fn (.func gf) lb, args := #[.func (.yield (w.heap.size + 1)) #[] #[]] }, W1, gf,
    #[.func (.yield (w.heap.size + 1)) #[] #[]] ++ lb, W1, ?_, ?_, ?_, ?_, (fun h => by cases h), ?_⟩
  · rw [← hW1, hrec]; exact run_enterLoop_outer _ _ _ _ _
  · simp only [resolve, hg]
    simp [go_sem]
  · intro f' hf'; exact trivial
  · simp [invoke, go_sem, eg]
  · refine (hseq (w.heap.size + 1)
      (fun k W => I k W ∧ W.heap[w.heap.size + 1]? = some (.loop (rec .ready none)) ∧ W.heap[w.heap.size]? = some (.deferred (some [])))
      (fun k W => ∃ c, Ix c k W ∧ W.heap[w.heap.size + 1]? = some (.loop (rec .done (some c))) ∧ W.heap[w.heap.size]? = some (.deferred (some [])))
      W1 hM1 (by omega)
      (fun s A B row hs hg' hr hkd => ⟨hI s A B row hs.1 hg' (fun r e => .inl (hr r e)) hkd, keep hg' hr (by omega) hs.2.1, keep hg' hr (by omega) hs.2.2⟩)
      (fun s A B row hs hg' hr hkd => by
        obtain ⟨c, hc, hl, hk⟩ := hs
        exact ⟨c, hIx c s A B row hc hg' (fun r e => .inl (hr r e)) hkd, keep hg' hr (by omega) hl, keep hg' hr (by omega) hk⟩)
      ?_ ⟨hI1, hL1, hK1⟩).mono ?_
    · rintro k x W hx ⟨hi, hl, hk⟩
      have hlt : w.heap.size + 1 < W.heap.size := (Array.getElem?_eq_some_iff.1 hl).1
      have hy := run_yield (P := P) (args := #[.string x]) hl (by rw [hrec]; rfl)
      rw [hrec] at hy
      have hz : ((#[p] : Array Tmp).zip #[Value.string x]).foldl (fun tmps (t, a) => tmps.setIfInBounds t a) a.tmps = a.tmps.setIfInBounds p (.string x) := by simp
      dsimp only at hy
      rw [hz] at hy
      refine ⟨fn, _, assign, body, hy, roundIn_of_wpIn hfn (hassign _ x W _ ⟨_, run_beginRound hl (by rw [hrec]), ?_⟩)⟩
      have hl2 : (W.putObj (w.heap.size + 1) (.loop { rec .ready none with state := .busy })).heap[w.heap.size + 1]? = some (.loop { rec .ready none with state := .busy }) := World.putObj_heap_same hlt
      have hk2 : (W.putObj (w.heap.size + 1) (.loop { rec .ready none with state := .busy })).heap[w.heap.size]? = some (.deferred (some [])) := (World.putObj_heap_other (by omega)).trans hk
      refine wpIn_mono (hbody _ k x _ hx (putI hI _ hi (by omega) hl rfl)) ?_
      have fin : ∀ (jump : Option Code) (W3 : World), KeepsFrom w.heap.size (W.putObj (w.heap.size + 1) (.loop { rec .ready none with state := .busy })) W3 →
          (Instr.endRound (w.heap.size + 1) jump).run P W3 = .ok (.bool jump.isNone) (W3.putObj (w.heap.size + 1) (.loop (rec (if jump.isNone then .ready else .done) jump))) ∧
          W3.heap[w.heap.size + 1]? = some (.loop { rec .ready none with state := .busy }) ∧
          (W3.putObj (w.heap.size + 1) (.loop (rec (if jump.isNone then .ready else .done) jump))).heap[w.heap.size + 1]? = some (.loop (rec (if jump.isNone then .ready else .done) jump)) ∧
          (W3.putObj (w.heap.size + 1) (.loop (rec (if jump.isNone then .ready else .done) jump))).heap[w.heap.size]? = some (.deferred (some [])) := fun jump W3 hk3 => by
        have hl3 := hk3.same _ _ (by omega) hl2 rfl
        have := run_endRound (P := P) jump hl3
        rw [hrec] at this ⊢
        exact ⟨this, by rw [hrec] at hl3; exact hl3, World.putObj_heap_same (Array.getElem?_eq_some_iff.1 hl3).1, (World.putObj_heap_other (by omega)).trans (hk3.same _ _ (Nat.le_refl _) hk2 rfl)⟩
      rintro e a3 W3 hp
      cases e with
      | normal =>
        obtain ⟨hk3, hkp3, hi3⟩ := hp
        obtain ⟨hr, hl3, hl4, hk4⟩ := fin none W3 hk3
        exact ⟨_, _, hr, .inl ⟨rfl, ⟨putI hI _ hi3 (by omega) hl3 rfl, hl4, hk4⟩, ((putM _ _ _ (by omega)).trans hkp3).trans (putM _ _ _ (by omega))⟩⟩
      | ret =>
        obtain ⟨hk3, hi3⟩ := hp
        obtain ⟨hr, hl3, hl4, hk4⟩ := fin (some .ret) W3 hk3
        exact ⟨_, _, hr, .inr ⟨rfl, .ret, putI (hIx _) _ hi3 (by omega) hl3 rfl, hl4, hk4⟩⟩
      | exit id =>
        obtain ⟨hk3, hi3⟩ := hp
        obtain ⟨hr, hl3, hl4, hk4⟩ := fin (some (.exit id)) W3 hk3
        exact ⟨_, _, hr, .inr ⟨rfl, .exit id, putI (hIx _) _ hi3 (by omega) hl3 rfl, hl4, hk4⟩⟩
      | goto t =>
        obtain ⟨hk3, hi3⟩ := hp
        obtain ⟨hr, hl3, hl4, hk4⟩ := fin (some (.goto t)) W3 hk3
        exact ⟨_, _, hr, .inr ⟨rfl, .goto t, putI (hIx _) _ hi3 (by omega) hl3 rfl, hl4, hk4⟩⟩
      | panic ch => exact hp.elim
      | outgrown => exact hp.elim
    · rintro e W2 ⟨⟨v, rfl⟩, (⟨hi, hl, hk⟩ | ⟨k, c, hi, hl, hk⟩)⟩
      · exact ⟨none, _, by have := run_endLoop (P := P) hl (by rw [hrec]; simp); rw [hrec] at this; exact this, hdone _ _ (Nat.le_refl _) (putI hI _ hi (by omega) hl rfl) ((World.putObj_heap_other (by omega)).trans hk)⟩
      · exact ⟨some c, _, by have := run_endLoop (P := P) hl (by rw [hrec]; simp); rw [hrec] at this; exact this, hstop _ c k _ (Nat.le_refl _) (putI (hIx c) _ hi (by omega) hl rfl) ((World.putObj_heap_other (by omega)).trans hk)⟩
end Go.Proofs.YtfelefkmbbfdjaaGreatDoor
namespace Go.Proofs.YtfelefkmbbfdjaaGreatDoor
open Go.RowKit
set_option linter.unusedVariables false
attribute [local go_sem] Oper.semAt_some

theorem grown_set (w : World) (b : Nat) (v : Value) : w.grownBy (w.setCell ⟨b, 0, none⟩ v) (some b) := grownBy_setCell' w b v
theorem grown_drew {w w' : World} {row : Option Nat} (h : w.grownBy w' row) : w.grownBy w'.drew row := ⟨h.os, h.tape, h.output, h.size, h.block⟩
set_option maxHeartbeats 2000000 in
set_option maxRecDepth 100000 in
theorem lines_in (n : Nat) (hn : 1 ≤ n) (b2 : Nat) (s : ByteArray) (hs : s.size ≤ 140737488351232) (w : World) (h2 : AtB w b2 #[.string s] 9) :
    SeqK n Tryz.prog 74 #[.pointer (some ⟨b2, 0, none⟩)] (fun b => b = b2) (lnB s) w := by
  intro l J Jx W hk hsz hJ hJx hY h0
  have a2 : AtB W b2 #[.string s] 9 := h2.stay (hk b2 rfl)
  have ci := fun (t : ByteArray) (W : World) => (Tryz.strings_IndexByte t 10 W).mono (R' := fun e w' => e = .returned (.int .i64 (Lib.indexByte t.data.toList 10)) ∧ W = w') fun e w' ⟨q1, q2⟩ => ⟨q1, q2.symm⟩
  have CI := Lib.hid ci; have HY := Lib.hid hY; have HJ := Lib.hid hJ; have HJX := Lib.hid hJx; have H0 := Lib.hid h0
  obtain ⟨xs, hxs⟩ : ∃ xs, xs = lnB s := ⟨_, rfl⟩
  rw [← hxs] at HY ⊢
  have HXS := Lib.hid hxs
  have A2 := Lib.hid a2
  clear ci hY hJ hJx h0 hxs h2 hk a2
  refine callsIn_of_wp Tryz.func74 rfl trivial ?_ rfl
  simp only [Tryz.ntmps74, List.size_toArray, List.length_cons, List.length_nil, Nat.reduceAdd, Nat.reduceSub, Array.replicate_succ, Array.replicate_zero, List.push_toArray, List.append_toArray, List.nil_append, List.cons_append]
  gi_wp2
  gi_loopw [3, 4] (fun _ _ wr => ∃ (k : Nat) (t : ByteArray), t.size ≤ 140737488351232 ∧ k ≤ xs.length ∧ Hid (xs.drop k = lnB t) ∧ Hid (AtB wr b2 #[.string t] 9) ∧ Hid (J k wr)) (fun _ _ wr => strAt wr b2)
  case atStart => exact ⟨0, s, hs, Nat.zero_le _, Lib.hid (by rw [HXS.out]; rfl), A2, H0⟩
  case round =>
    obtain ⟨k, t, ht, hkl, HD, B2, HJK⟩ := hrel
    have y2 := B2.out.cell (i := 0) (v := .string t) rfl
    have y2f := B2.out.frozen 0
    have y2l := B2.out.lt
    have HST := Lib.hid (strAt_of y2)
    by_cases hz : 0 < t.size
    · have i9 : (0 : Int) < (t.size : Int) := by omega
      have ci := CI.out t
      rcases idx_cases t 10 with e | ⟨i, e⟩
      · rw [e] at ci
        have hp := lnB_none hz e
        have hd := HD.out
        rw [hp] at hd
        have hx : xs[k]? = some t := by
          have := congrArg (fun l => l[0]?) hd
          simpa [List.getElem?_drop] using this
        have hn2 : xs.drop (k + 1) = lnB ⟨#[]⟩ := by
          have := congrArg List.tail hd
          rw [lnB_nil (show (⟨#[]⟩ : ByteArray).size = 0 from rfl)]
          simpa [List.tail_drop] using this
        have hlt := (List.getElem?_eq_some_iff.1 hx).1
        have hj2 := HJ.out k wr _ (some b2) HJK.out (grown_set wr b2 (.string ⟨#[]⟩)) (fun r e => by cases e; rfl) (Kds.set _ _ _ _)
        have B3 := Lib.hid (B2.out.set 0 (.string ⟨#[]⟩))
        obtain ⟨fn, tmps, assign, body, hy, hR⟩ := HY.out k t _ hx hj2
        have CI1 := Lib.hid ci; have HR := Lib.hid hR; have HN := Lib.hid hn2
        clear ci e hp hd hx hR hn2 hj2
        gi_wp2_with (refine ⟨trivial, ?_⟩; gi_at_call 75; refine (callsIn_wide.2 (CI1.out _)).mono ?_; rintro e w' ⟨rfl, rfl⟩)
        refine HR.out.mono ?_
        rintro e W3 (⟨rfl, hJ3, hk3⟩ | ⟨rfl, hJx3⟩)
        · have d2 := B3.out.stay (hk3 b2 rfl)
          have hm := strAt_of (d2.cell (i := 0) (v := .string ⟨#[]⟩) rfl)
          have D2 := Lib.hid d2; have HM := Lib.hid hm; have HJ3 := Lib.hid hJ3
          clear d2 hm hk3 hJ3
          gi_wp2
          go_roundw
          case rel => exact ⟨k + 1, ⟨#[]⟩, by decide, by omega, HN, D2, HJ3⟩
          case measure => rw [HM.out, HST.out]; show 0 + 1 < _; omega
        · gi_wp2
          refine bodyPost_ret (results_none rfl _ _ _) rfl ?_
          exact ⟨⟨_, rfl⟩, .inr ⟨_, hJx3⟩⟩
      · rw [e] at ci
        obtain ⟨hi, hp⟩ := lnB_some e
        have hd := HD.out
        rw [hp] at hd
        have hx : xs[k]? = some (t.extract 0 (i + 1)) := by
          have := congrArg (fun l => l[0]?) hd
          simpa [List.getElem?_drop] using this
        have hn2 : xs.drop (k + 1) = lnB (t.extract (i + 1) t.size) := by
          have := congrArg List.tail hd
          simpa [List.tail_drop] using this
        have hlt := (List.getElem?_eq_some_iff.1 hx).1
        have CI1 := Lib.hid ci; have HN := Lib.hid hn2; have HX := Lib.hid hx
        have i0 : (0 : Int) ≤ (i : Int) := by omega
        have i1 : (i : Int) < (t.size : Int) := by omega
        clear ci e hp hd hx hn2
        gi_wp2_with (refine ⟨trivial, ?_⟩; gi_at_call 75; refine (callsIn_wide.2 (CI1.out _)).mono ?_; rintro e w' ⟨rfl, rfl⟩)
        gi_region
        have hj2 := HJ.out k wr _ (some b2) HJK.out (grown_drew (grown_set wr b2 (.string (t.extract (i + 1) t.size)))) (fun r e => by cases e; rfl) (Kds.setd _ _ _ _)
        have hd2 := B2.out.set 0 (.string (t.extract (i + 1) t.size))
        rw [show (#[Value.string t].setIfInBounds 0 (.string (t.extract (i + 1) t.size))) = #[.string (t.extract (i + 1) t.size)] from rfl] at hd2
        have B3 := Lib.hid (show AtB (wr.setCell ⟨b2, 0, none⟩ (.string (t.extract (i + 1) t.size))).drew b2 #[.string (t.extract (i + 1) t.size)] 9 from hd2)
        obtain ⟨fn, tmps, assign, body, hy, hR⟩ := HY.out k _ _ HX.out hj2
        have HR := Lib.hid hR
        clear hR hj2 hd2
        gi_wp2
        refine HR.out.mono ?_
        rintro e W3 (⟨rfl, hJ3, hk3⟩ | ⟨rfl, hJx3⟩)
        · have d2 := B3.out.stay (hk3 b2 rfl)
          have hm := strAt_of (d2.cell (i := 0) (v := .string (t.extract (i + 1) t.size)) rfl)
          rw [ByteArray.size_extract] at hm
          have D2 := Lib.hid d2; have HM := Lib.hid hm; have HJ3 := Lib.hid hJ3
          clear d2 hm hk3 hJ3
          gi_wp2
          go_roundw
          case rel => exact ⟨k + 1, t.extract (i + 1) t.size, by rw [ByteArray.size_extract]; omega, by omega, HN, D2, HJ3⟩
          case measure => rw [HM.out, HST.out]; omega
        · gi_wp2
          refine bodyPost_ret (results_none rfl _ _ _) rfl ?_
          exact ⟨⟨_, rfl⟩, .inr ⟨_, hJx3⟩⟩
    · obtain rfl := emp_of (show t.size = 0 by omega)
      have hd := HD.out
      rw [lnB_nil (show (⟨#[]⟩ : ByteArray).size = 0 from rfl)] at hd
      have hl : k = xs.length := by
        have := congrArg List.length hd
        rw [List.length_drop, List.length_nil] at this
        omega
      have HL := Lib.hid hl
      clear hd hl hz
      gi_wp2
      go_end0
      exact ⟨⟨_, rfl⟩, .inl (by rw [← HL.out]; exact HJK.out)⟩
/-- strings.Lines -/
theorem lines_any (s : ByteArray) (w : World) :
    Calls Tryz.prog 49 #[.string s] w fun e w' => e = .returned (.func (.func 74) #[] #[.pointer (some ⟨w.heap.size, 0, none⟩)]) ∧ w' = w.alloc (.cells #[.string s] 9) := by
  go_enter Tryz.func49, Tryz.ntmps49
  go_wp2
  go_ret
  exact ⟨rfl, rfl⟩
end Go.Proofs.YtfelefkmbbfdjaaGreatDoor
namespace Go.Proofs.YtfelefkmbbfdjaaGreatDoor
open Go.RowKit Go.Joins Go.ChangeShapes Go.WideShapes Go.ChangeAt
set_option linter.unusedVariables false

structure RI (w : World) (base bc bm bl p q m : Nat) (R : List Ru) (D : List Ak) (k : Nat) (W : World) : Prop where
  r1 : Boxed W w.heap.size 57 (.pointer none)
  r2 : Boxed W (w.heap.size + 1) 3 (.int .i64 0)
  r3 : Boxed W (w.heap.size + 1 + 1) 27 .nilIface
  c : Boxed W bc 57 (.pointer (some ⟨p, 0, none⟩))
  n : Boxed W bm 3 (.int .i64 k)
  kl : kin W bl 9
  cpy : ∃ g, Cpy W base p q g m R (cpD R (D.take k)) ∧ ∀ x, CM p q g m x → w.heap.size ≤ x
  le : k ≤ D.length
  b : Below w.heap.size w W
theorem RI.stay {w : World} {base bc bm bl p q m B : Nat} {R : List Ru} {D : List Ak} (hl : w.heap.size + 1 + 1 < bl) (hbc : bc ≠ bl) (hbm : bm ≠ bl) (hm : m < B) (hb : base ≤ w.heap.size) (hB : w.heap.size ≤ B) :
    AbRk (fun b => b = bl) B (RI w base bc bm bl p q m R D) := by
  intro k W W' row h hg hr hkd
  have box : ∀ {x : Nat} {t : TypeId} {v : Value}, Boxed W x t v → x ≠ bl → Boxed W' x t v := fun {x t v} hx hn => hx.kept hg fun e => by
    rcases hr x e.symm with h1 | ⟨_, o, h2, h3⟩
    · exact hn h1
    · rw [show W.heap[x]? = _ from hx] at h2
      cases h2; cases h3
  refine ⟨box h.r1 (by omega), box h.r2 (by omega), box h.r3 (by omega), box h.c hbc, box h.n hbm, hkd _ _ h.kl, ?_, h.le, h.b.grown hg h.b.size fun r e => ?_⟩
  · obtain ⟨g, hc, hfr⟩ := h.cpy
    refine ⟨g, hc.far (Chs.grown hg) fun x hx => ?_, hfr⟩
    rcases hr x hx with rfl | ⟨hx2, o, ho, hnc⟩
    · refine ⟨by omega, fun k => absurd (kin.ne k h.kl) (by decide), fun k => absurd (kin.ne k h.kl) (by decide), fun e => ?_⟩
      rcases e with e | e | e | e
      · exact absurd (kin.ne h.kl (e ▸ hc.pkin)) (by decide)
      · exact absurd (kin.ne h.kl (e ▸ hc.spc.kin)) (by decide)
      · exact absurd (kin.ne h.kl (hc.spc.gkin e).2) (by decide)
      · exact not_kin_of_map hc.map.isMap (e ▸ h.kl)
    · have nk : ∀ t, ¬ kin W x t := fun t ⟨cs, hk⟩ => by rw [ho] at hk; cases hk; cases hnc
      refine ⟨by omega, nk _, nk _, fun e => ?_⟩
      rcases e with e | e | e | e
      · exact nk _ (e ▸ hc.pkin)
      · exact nk _ (e ▸ hc.spc.kin)
      · exact nk _ (hc.spc.gkin e).2
      · omega
  · rcases hr r e with h1 | ⟨h1, _⟩
    · omega
    · omega
end Go.Proofs.YtfelefkmbbfdjaaGreatDoor
namespace Go.Proofs.YtfelefkmbbfdjaaGreatDoor
open Go.ChangeShapes Go.WideShapes Go.ChangeAt Go.RowKit Go.Joins Go.Deep Go.Maps Go.WideMaps
set_option linter.unusedVariables false

set_option maxHeartbeats 1600000 in
set_option maxRecDepth 100000 in
theorem lgnew_ok {w : World} {base : Nat} (hb : base ≤ w.heap.size) (A : Option Addr) (c : Nat) (X : List Rx) (hX : RX w base A X) (hr : rulE (X.map (·.1)) = 0) (ho : okR (X.map (·.1))) :
    Calls Tryz.prog 4 #[.slice A X.length c] w fun e w' => ∃ P p q m, e = .returned (.tuple #[.pointer (some ⟨P, 0, none⟩), .nilIface]) ∧ Lg w' base P p q none m (X.map (·.1)) Cs.zero ⟨#[]⟩ 0 0 (-1) false ∧ Below w.heap.size w w' ∧ w.heap.size ≤ P ∧ w.heap.size ≤ p ∧ w.heap.size ≤ q ∧ w.heap.size ≤ m := by
  obtain ⟨h8, h5⟩ := ru_lens hr
  have hl : (X.map (·.1)).length = X.length := by simp
  have cn := cpnew_ok hb A c X hX hr ho
  have co := fun (W : World) (hW : Below w.heap.size w W) => ruown_any (w := W) (base := base) (Nat.le_trans hb hW.size) A c X (hX.below hb hW) h8 h5
  have CN := Lib.hid cn; have CO := Lib.hid co; have HL := Lib.hid hl
  clear cn co hX hr ho h5 hl
  go_enter Tryz.func4, Tryz.ntmps4
  go_wp2_with (first
    | (go_at_call 18; refine CN.out.mono ?_; rintro e w1 ⟨p, q, m, rfl, hC1, hb1, hp1, hq1, hm1⟩; have HC1 := Lib.hid hC1; have HB1 := Lib.hid hb1; clear hC1 hb1)
    | (go_at_call 19; refine (CO.out _ HB1.out).mono ?_; rintro e w2 ⟨A2, c2, rfl, ho2, hb2⟩; have HB2 := Lib.hid hb2; have HO2 := Lib.hid ho2; clear hb2 ho2))
  go_ret2
  have hb23 := bal1 w2 (.cells #[.slice A2 X.length c2, .pointer (some ⟨p, 0, none⟩), .string ⟨#[]⟩, .int .i64 0, .int .i64 0, .int .i64 (-1), .bool false] 62)
  have hP := AtB.new w2 #[.slice A2 X.length c2, .pointer (some ⟨p, 0, none⟩), .string ⟨#[]⟩, .int .i64 0, .int .i64 0, .int .i64 (-1), .bool false] 62
  have hz1 := HB1.out.size
  have hz2 := HB2.out.size
  refine ⟨w2.heap.size, p, q, m, rfl, ⟨⟨A2, c2, by rw [HL.out]; exact hP, HO2.out.keep (by omega) hb23⟩, (HC1.out.keep HB2.out).keep hb23, by omega⟩, bcl (bcl HB1.out HB2.out) hb23, by omega, hp1, hq1, hm1⟩
set_option maxHeartbeats 800000 in
theorem lgnew_no {w : World} (A : Option Addr) (c : Nat) (l : List Ru) (hm : l.length ≤ maxLen) (hA : Rls w A l) (hr : rulE l ≠ 0) (ho : okR l) :
    Calls Tryz.prog 4 #[.slice A l.length c] w fun e w' => e = .returned (.tuple #[.pointer none, errV (rulE l)]) ∧ Below w.heap.size w w' := by
  have cn := cpnew_no A c l hm hA hr ho
  have CN := Lib.hid cn
  clear cn hA ho hr hm
  generalize rulE l = E at *
  go_enter Tryz.func4, Tryz.ntmps4
  go_wp2_with (go_at_call 18; refine CN.out.mono ?_; rintro e w1 ⟨rfl, hb1⟩)
  go_ret2
  exact ⟨rfl, hb1⟩
section
variable {w w' : World} {base P p q m : Nat} {g : Option Nat} {R : List Ru} {s : Cs} {b : ByteArray} {sf mn : Nat} {lf : Int} {st : Bool}
theorem Lg.cells (h : Lg w base P p q g m R s b sf mn lf st) : w.cell? ⟨P, 1, none⟩ = some (.pointer (some ⟨p, 0, none⟩)) ∧ w.cell? ⟨P, 2, none⟩ = some (.string b) ∧ w.cell? ⟨P, 3, none⟩ = some (.int .i64 sf) ∧ w.cell? ⟨P, 4, none⟩ = some (.int .i64 mn) ∧ w.cell? ⟨P, 5, none⟩ = some (.int .i64 lf) ∧ w.cell? ⟨P, 6, none⟩ = some (.bool st) := by
  obtain ⟨A, c, h1, _⟩ := h.there
  exact ⟨h1.cell rfl, h1.cell rfl, h1.cell rfl, h1.cell rfl, h1.cell rfl, h1.cell rfl⟩
theorem Lg.frozen (h : Lg w base P p q g m R s b sf mn lf st) (i : Nat) : w.frozen? ⟨P, i, none⟩ = false := by
  obtain ⟨A, c, h1, _⟩ := h.there
  exact h1.frozen i
theorem lgbytes_any (h : Lg w base P p q g m R s b sf mn lf st) : Calls Tryz.prog 9 #[.pointer (some ⟨P, 0, none⟩)] w fun e w' => e = .returned (.int .i64 b.size) ∧ w = w' := by
  obtain ⟨_, c2, _⟩ := h.cells
  go_enter Tryz.func9, Tryz.ntmps9
  go_wp2_with fail
  go_ret
  exact ⟨rfl, rfl⟩
end
end Go.Proofs.YtfelefkmbbfdjaaGreatDoor
namespace Go.Proofs.YtfelefkmbbfdjaaGreatDoor
open Go.RowKit Go.Joins Go.ChangeShapes Go.WideShapes Go.ChangeAt
set_option linter.unusedVariables false
attribute [local go_sem] Oper.semAt_some

theorem Lg.rx {w : World} {base P p q m : Nat} {g : Option Nat} {R : List Ru} {s : Cs} {b : ByteArray} {sf mn : Nat} {lf : Int} {st : Bool} (h : Lg w base P p q g m R s b sf mn lf st) :
    ∃ (A : Option Addr) (c : Nat) (X : List Rx), X.map (·.1) = R ∧ RX w base A X ∧ w.cell? ⟨P, 0, none⟩ = some (.slice A X.length c) := by
  obtain ⟨A, c, h1, h2⟩ := h.there
  rcases h2 with rfl | ⟨X, rfl, h3, h4⟩
  · exact ⟨A, c, [], rfl, ⟨fun h => absurd h (by simp), fun x h => by simp at h⟩, h1.cell rfl⟩
  · exact ⟨A, c, X, rfl, h3.rxs h4, by have := h1.cell (i := 0) rfl; rwa [List.length_map] at this⟩
set_option maxHeartbeats 3200000 in
set_option maxRecDepth 100000 in
theorem redo_in {w : World} {base P p0 q0 m0 : Nat} {g0 : Option Nat} {R : List Ru} {s : Cs} {b : ByteArray} {sf mn : Nat} {lf : Int} {st : Bool} (h : Lg w base P p0 q0 g0 m0 R s b sf mn lf st)
    (ht : ∀ W, Below base w W → TT W ∧ EE W ∧ AS W) (D : List Ak) (hD : VdD R D) (hl : D.length ≤ 1000) :
    CallsIn Fence.wide 5 Tryz.prog 26 #[.pointer (some ⟨P, 0, none⟩), .string (recs D)] w fun e w' => ∃ p q m g, e = .returned (.tuple #[.pointer (some ⟨p, 0, none⟩), .int .i64 D.length, .nilIface]) ∧ Cpy w' base p q g m R (cpD R D) ∧ Below w.heap.size w w' ∧ w.heap.size ≤ p ∧ w.heap.size ≤ q ∧ w.heap.size ≤ m ∧ ∀ x, CM p q g m x → w.heap.size ≤ x := by
  obtain ⟨A, c, X, hXR, hX, p00⟩ := h.rx
  have hPl := h.pkin.lt
  subst hXR
  have hbs := h.hb
  have cn := fun (W : World) (hW : Below w.heap.size w W) => cpnew_ok (w := W) (base := base) (Nat.le_trans hbs hW.size) A c X (hX.below hbs hW) h.cpy.rul h.cpy.okr
  obtain ⟨W1, hW1⟩ : ∃ W1, W1 = ((w.alloc (.cells #[.pointer none] 57)).alloc (.cells #[.int .i64 0] 3)).alloc (.cells #[.nilIface] 27) := ⟨_, rfl⟩
  have hb1 : Below w.heap.size w W1 := by rw [hW1]; exact bal (bal (bal1 _ _) _) _
  have q00 : W1.cell? ⟨P, 0, none⟩ = some (.slice A X.length c) := (hb1.cell (p := ⟨P, 0, none⟩) hPl).trans p00
  have x1 : Boxed W1 w.heap.size 57 (.pointer none) := by rw [hW1]; exact ((Boxed.new w _ _).alloc _).alloc _
  have x2 : Boxed W1 (w.heap.size + 1) 3 (.int .i64 0) := by
    have := Boxed.new (w.alloc (.cells #[.pointer none] 57)) 3 (.int .i64 0)
    rw [World.size_alloc] at this
    rw [hW1]; exact this.alloc _
  have x3 : Boxed W1 (w.heap.size + 1 + 1) 27 .nilIface := by
    have := Boxed.new ((w.alloc (.cells #[.pointer none] 57)).alloc (.cells #[.int .i64 0] 3)) 27 .nilIface
    rw [World.size_alloc, World.size_alloc] at this
    rw [hW1]; exact this
  have hz1 : W1.heap.size = w.heap.size + 1 + 1 + 1 := by rw [hW1]; simp
  have X1 := Lib.hid x1; have X2 := Lib.hid x2; have X3 := Lib.hid x3
  clear x1 x2 x3
  have HB1 := Lib.hid hb1; have HW1 := Lib.hid hW1; have CN := Lib.hid cn
  clear cn hW1 hb1
  have hP1 : P < w.heap.size + 1 := by omega
  have hP2 : P < w.heap.size + 1 + 1 := by omega
  generalize hrd : recs D = rd at *
  have HRD := Lib.hid hrd
  clear hrd
  refine callsIn_of_wp_marks Tryz.func26 rfl trivial ?_ rfl
  simp only [Tryz.ntmps26, List.size_toArray, List.length_cons, List.length_nil, Nat.reduceAdd, Nat.reduceSub, Array.replicate_succ, Array.replicate_zero, List.push_toArray, List.append_toArray, List.nil_append, List.cons_append]
  gi_wp2_with (first
    | (refine ⟨trivial, ?_⟩; gi_at_call 18; rw [← HW1.out]; refine (callsIn_wide.2 (CN.out _ HB1.out)).mono ?_; rintro e w2 ⟨p, q, m, rfl, hC2, hb2, hp2, hq2, hm2⟩)
    | (refine ⟨trivial, ?_⟩; gi_at_call 49; refine (callsIn_wide.2 (lines_any _ _)).mono ?_; rintro e w' ⟨rfl, rfl⟩))
  obtain ⟨Y, hY⟩ : ∃ Y, Y = ((w2.alloc (.cells #[.pointer (some ⟨p, 0, none⟩)] 57)).alloc (.cells #[.int .i64 0] 3)).alloc (.cells #[.string rd] 9) := ⟨_, rfl⟩
  have hyb : Below w2.heap.size w2 Y := by rw [hY]; exact bal (bal (bal1 _ _) _) _
  have yc : Boxed Y w2.heap.size 57 (.pointer (some ⟨p, 0, none⟩)) := by rw [hY]; exact ((Boxed.new w2 _ _).alloc _).alloc _
  have yn : Boxed Y (w2.heap.size + 1) 3 (.int .i64 0) := by
    have := Boxed.new (w2.alloc (.cells #[.pointer (some ⟨p, 0, none⟩)] 57)) 3 (.int .i64 0)
    rw [World.size_alloc] at this
    rw [hY]; exact this.alloc _
  have yl : AtB Y (w2.heap.size + 1 + 1) #[.string rd] 9 := by
    have := AtB.new ((w2.alloc (.cells #[.pointer (some ⟨p, 0, none⟩)] 57)).alloc (.cells #[.int .i64 0] 3)) #[.string rd] 9
    rw [World.size_alloc, World.size_alloc] at this
    rw [hY]; exact this
  have hYz : Y.heap.size = w2.heap.size + 3 := by rw [hY]; simp
  rw [← hY]
  have hz2 := hb2.size
  have hmz : m < w2.heap.size := hC2.map.lt
  have kb : ∀ {B : Nat} {t : TypeId} {v : Value}, Boxed W1 B t v → Boxed Y B t v := fun {B t v} hx => (hyb.block B (Nat.lt_of_lt_of_le hx.lt hz2)).trans ((hb2.block B hx.lt).trans hx)
  have H0 : RI w base w2.heap.size (w2.heap.size + 1) (w2.heap.size + 1 + 1) p q m (X.map (·.1)) D 0 Y :=
    ⟨kb X1.out, kb X2.out, kb X3.out, yc, yn, yl.kin, ⟨none, hC2.keep hyb, fun x e => by rcases e with e | e | e | e <;> first | omega | cases e⟩, Nat.zero_le _, bcl (bcl HB1.out hb2) hyb⟩
  have hal := hD.all (Nat.le_trans hl (by decide))
  have hrz : rd.size ≤ 140737488351232 := by
    have := recs_size D hal
    rw [HRD.out] at this
    omega
  have hseq := lines_in 4 (by decide) (w2.heap.size + 1 + 1) rd hrz Y yl
  rw [← HRD.out, lnB_recs hal] at hseq
  clear hY yc yn yl kb hyb
  have HI0 : ∀ {k : Nat} (W : World), RI w base w2.heap.size (w2.heap.size + 1) (w2.heap.size + 1 + 1) p q m (X.map (·.1)) D k W → Below base w W := fun W h => h.b.mono hbs
  refine wpIn_range_textsK (M := fun b => b = w2.heap.size + 1 + 1) (xs := D.map recB) (gf := 74) (lb := #[.pointer (some ⟨w2.heap.size + 1 + 1, 0, none⟩)]) rfl (enters_of Tryz.func74 (by kernel_rfl) rfl)
    (fun b hb => by omega) hseq (RI w base w2.heap.size (w2.heap.size + 1) (w2.heap.size + 1 + 1) p q m (X.map (·.1)) D) (fun _ _ _ => False) (RI.stay (by omega) (by omega) (by omega) (by omega) hbs (by omega)) (fun c s W W' row h _ _ _ => h.elim) H0
    (fun x => { tmps := #[.pointer (some ⟨P, 0, none⟩), .string rd, undef, undef, .pointer (some ⟨w.heap.size, 0, none⟩), .pointer (some ⟨w.heap.size + 1, 0, none⟩), .pointer (some ⟨w.heap.size + 1 + 1, 0, none⟩), .pointer (some ⟨w2.heap.size, 0, none⟩), .nilIface, .pointer (some ⟨w2.heap.size + 1, 0, none⟩), .string x, undef, undef, undef, undef,
      .tuple #[.pointer (some ⟨p, 0, none⟩), .nilIface], .pointer (some ⟨P, 0, none⟩), .pointer (some ⟨P, 0, none⟩), .pointer (some ⟨P, 0, none⟩), .slice A X.length c, .tuple #[.pointer (some ⟨p, 0, none⟩), .nilIface], .pointer (some ⟨p, 0, none⟩), .nilIface, .nilIface, .bool false, undef, .string rd, .func (.func 74) #[] #[.pointer (some ⟨w2.heap.size + 1 + 1, 0, none⟩)], .string x,
      undef, undef, undef, undef, undef, undef, undef, undef, undef, undef, undef, undef, undef, undef, undef, undef, undef, undef, undef, undef, undef], defers := [] }) ?assign ?body ?done ?stop
  case assign =>
    intro l x W K hK
    gi_wp2
    exact hK
  case body =>
    intro l k x W hx hI
    obtain ⟨a, ha, rfl⟩ : ∃ a, D[k]? = some a ∧ recB a = x := by
      rw [List.getElem?_map] at hx
      cases e : D[k]? with
      | none => rw [e] at hx; cases hx
      | some a => rw [e] at hx; exact ⟨a, rfl, by injection hx⟩
    have hlt := (List.getElem?_eq_some_iff.1 ha).1
    obtain ⟨hoa, hea, hga⟩ := hD k a ha
    have hra := hD.rcd (Nat.le_trans hl (by decide)) ha
    have hok := hD.ok k (by omega)
    have hnx := cpD_next (R := X.map (·.1)) ha
    have rr := read_rec a hra W fun W' hb => ht W' ((HI0 W hI).trans (hb.mono (Nat.le_trans hbs hI.b.size)))
    obtain ⟨g, hc, hfr⟩ := hI.cpy
    have HI := Lib.hid hI; have HC := Lib.hid hc
    have RR := Lib.hid rr
    clear rr hI hc
    gi_wp2_with fail
    refine ⟨trivial, ?_⟩
    refine (CallsIn.inRound l (callsIn_wide.2 RR.out)).mono ?_
    rintro e w3 ⟨⟨A3, c3, rfl, hO⟩, hb3⟩
    have d1 := (bx_below HI.out.c hb3).cell
    have dl := (bx_below HI.out.c hb3).lt
    simp only [akv]
    gi_wp2_with fail
    have hb4 := bcl hb3 (bal1 w3 (.cells #[.int .i64 a.w, .int .i64 a.q, .int .i64 a.d, .slice A3 a.t.length c3] 38))
    have hv4 : Vals (w3.alloc (.cells #[.int .i64 a.w, .int .i64 a.q, .int .i64 a.d, .slice A3 a.t.length c3] 38)) A3 a.t := Sl.alloc hO.vals _
    generalize w3.alloc (.cells #[.int .i64 a.w, .int .i64 a.q, .int .i64 a.d, .slice A3 a.t.length c3] 38) = w4 at *
    have hc4 := HC.out.keep hb4
    have q0' := hra.q0; have q1' := hra.q1
    have cd := cpdo_any hc4 (fun W' h => (ht W' ((HI0 W HI.out).trans ((hb4.mono (Nat.le_trans hbs HI.out.b.size)).trans h))).1) (by rw [hok.2]; omega) a A3 c3 (by have := (rgt_of hra.li).2.1; unfold maxLen; omega) hoa (WalkArith.wf_i64 ⟨by omega, by omega⟩) hv4
    rw [hea, eV_zero, ← hnx] at cd
    simp only [akv] at cd
    refine ⟨trivial, ?_⟩
    refine (CallsIn.inRound l (callsIn_wide.2 cd)).mono ?_
    rintro e w5 ⟨rfl, g5, hc5, hk5, hn5⟩
    have nb4 := bx_below HI.out.n hb4
    have hno : ∀ {x : Nat} {t : TypeId} {v : Value}, Boxed w4 x t v → t ≠ 90 → t ≠ 113 → t ≠ 32 → ¬ CM p q g m x := fun {x t v} hx n1 n2 n3 e => by
      have hk : kin w4 x t := ⟨_, hx⟩
      rcases e with e | e | e | e
      · exact n1 (kin.ne hk (e ▸ hc4.pkin))
      · exact n2 (kin.ne hk (e ▸ hc4.spc.kin))
      · exact n3 (kin.ne hk (hc4.spc.gkin e).2)
      · exact not_kin_of_map hc4.map.isMap (e ▸ hk)
    have up : ∀ {x : Nat} {t : TypeId} {v : Value}, Boxed w4 x t v → t ≠ 90 → t ≠ 113 → t ≠ 32 → Boxed w5 x t v := fun {x t v} hx n1 n2 n3 => (hk5.block x hx.lt (hno hx n1 n2 n3)).trans hx
    have nb5 := up nb4 (by decide) (by decide) (by decide)
    have n1 := nb5.cell; have n2 := nb5.frozen; have n3 := nb5.lt
    gi_wp2_with fail
    have kl4 : kin w4 (w2.heap.size + 1 + 1) 9 := by obtain ⟨cs, hcs⟩ := HI.out.kl; exact ⟨cs, (hb4.block _ (Array.getElem?_eq_some_iff.1 hcs).1).trans hcs⟩
    have hnl : ¬ CM p q g m (w2.heap.size + 1 + 1) := fun e => by
      rcases e with e | e | e | e
      · exact absurd (kin.ne kl4 (e ▸ hc4.pkin)) (by decide)
      · exact absurd (kin.ne kl4 (e ▸ hc4.spc.kin)) (by decide)
      · exact absurd (kin.ne kl4 (hc4.spc.gkin e).2) (by decide)
      · exact not_kin_of_map hc4.map.isMap (e ▸ kl4)
    have hll : w2.heap.size + 1 + 1 < W.heap.size := by obtain ⟨cs, hcs⟩ := HI.out.kl; exact (Array.getElem?_eq_some_iff.1 hcs).1
    have hz4 := hb4.size
    have hz5 := hk5.size
    have hl5 : w5.heap[w2.heap.size + 1 + 1]? = W.heap[w2.heap.size + 1 + 1]? := (hk5.block _ (by omega) hnl).trans (hb4.block _ hll)
    have hnb : ∀ (x : Nat), x ≠ w2.heap.size + 1 → (w5.setCell ⟨w2.heap.size + 1, 0, none⟩ (.int .i64 ((k : Int) + 1))).heap[x]? = w5.heap[x]? := fun x hx => Below.heap_setCell _ _ _ _ hx
    have hzs : (w5.setCell ⟨w2.heap.size + 1, 0, none⟩ (.int .i64 ((k : Int) + 1))).heap.size = w5.heap.size := by simp [World.setCell]
    refine ⟨⟨by rw [hzs]; omega, fun x o hB ho hnc => ?_⟩, fun x hx => by rw [hx, hnb _ (by omega)]; exact hl5, ?_⟩
    · have hx := (Array.getElem?_eq_some_iff.1 ho).1
      have ho4 : w4.heap[x]? = some o := (hb4.block x hx).trans ho
      rw [hnb x (by omega), hk5.block x (by omega) (fun e => by
        have nk : ∀ t, ¬ kin w4 x t := fun t ⟨cs, hk⟩ => by rw [ho4] at hk; cases hk; cases hnc
        rcases e with e | e | e | e
        · exact nk _ (e ▸ hc4.pkin)
        · exact nk _ (e ▸ hc4.spc.kin)
        · exact nk _ (hc4.spc.gkin e).2
        · omega)]
      exact ho4
    · refine ⟨(up (bx_below HI.out.r1 hb4) (by decide) (by decide) (by decide)).other (by omega) _, (up (bx_below HI.out.r2 hb4) (by decide) (by decide) (by decide)).other (by omega) _, (up (bx_below HI.out.r3 hb4) (by decide) (by decide) (by decide)).other (by omega) _,
        (up (bx_below HI.out.c hb4) (by decide) (by decide) (by decide)).other (by omega) _, nb5.set _, Kds.set _ _ _ _ _ _ (by obtain ⟨cs, hcs⟩ := HI.out.kl; exact ⟨cs, hl5.trans hcs⟩), ⟨g5, hc5.far (Chs.set w5 ⟨w2.heap.size + 1, 0, none⟩ _) fun x hx => ?_, fun x e => (nw_cm hn5 (Nat.le_refl _) e).elim (hfr x) (fun h => by have := HI.out.b.size; omega)⟩, by omega, ?_⟩
      · have hx : x = w2.heap.size + 1 := hx
        subst hx
        have hk : kin w5 (w2.heap.size + 1) 3 := ⟨_, nb5⟩
        refine ⟨by omega, fun k => absurd (kin.ne k hk) (by decide), fun k => absurd (kin.ne k hk) (by decide), fun e => ?_⟩
        rcases e with e | e | e | e
        · exact absurd (kin.ne hk (e ▸ hc5.pkin)) (by decide)
        · exact absurd (kin.ne hk (e ▸ hc5.spc.kin)) (by decide)
        · exact absurd (kin.ne hk (hc5.spc.gkin e).2) (by decide)
        · exact not_kin_of_map hc5.map.isMap (e ▸ hk)
      · exact (HI.out.b.trans ((hb4.mono HI.out.b.size).trans (hk5.below hfr (by have := HI.out.b.size; omega)))).setCell (p := ⟨w2.heap.size + 1, 0, none⟩) (by show w.heap.size ≤ w2.heap.size + 1; omega) _
  case done =>
    intro E W hE hI hK
    rw [List.length_map] at hI
    have c1 := hI.c.cell; have c2 := hI.n.cell; have p1 := hI.r1.cell; have p2 := hI.r2.cell; have p3 := hI.r3.cell
    have f1 := hI.r1.frozen; have f2 := hI.r2.frozen; have f3 := hI.r3.frozen
    have l1 := hI.r1.lt; have l2 := hI.r2.lt; have l3 := hI.r3.lt; have l4 := hI.c.lt; have l5 := hI.n.lt
    have HI := Lib.hid hI
    clear hI
    gi_wp2
    gi_region
    obtain ⟨Z, hZ⟩ : ∃ Z, Z = (((W.setCell ⟨w.heap.size, 0, none⟩ (.pointer (some ⟨p, 0, none⟩))).setCell ⟨w.heap.size + 1, 0, none⟩ (.int .i64 D.length)).setCell ⟨w.heap.size + 1 + 1, 0, none⟩ .nilIface).drew := ⟨_, rfl⟩
    have b1 : Boxed Z w.heap.size 57 (.pointer (some ⟨p, 0, none⟩)) := by rw [hZ]; exact ((HI.out.r1.set _).other (by omega) _).other (by omega) _
    have b2 : Boxed Z (w.heap.size + 1) 3 (.int .i64 D.length) := by rw [hZ]; exact ((HI.out.r2.other (by omega) _).set _).other (by omega) _
    have b3 : Boxed Z (w.heap.size + 1 + 1) 27 .nilIface := by rw [hZ]; exact ((HI.out.r3.other (by omega) _).other (by omega) _).set _
    have kz : Chs (fun b => b = w.heap.size ∨ b = w.heap.size + 1 ∨ b = w.heap.size + 1 + 1) W Z := by
      have k1 := ((Chs.set W ⟨w.heap.size, 0, none⟩ (.pointer (some ⟨p, 0, none⟩))).mono (M' := fun b => b = w.heap.size ∨ b = w.heap.size + 1 ∨ b = w.heap.size + 1 + 1) fun b e => .inl e)
      have k2 := k1.trans (Chs.set _ ⟨w.heap.size + 1, 0, none⟩ (.int .i64 D.length)) fun b e => .inl (.inr (.inl e))
      have k3 := k2.trans (Chs.set _ ⟨w.heap.size + 1 + 1, 0, none⟩ .nilIface) fun b e => .inl (.inr (.inr e))
      rw [hZ]; exact ⟨k3.os, k3.tape, k3.output, k3.size, k3.block⟩
    rw [← hZ]
    clear hZ c1 c2 p1 p2 p3 f1 f2 f3
    obtain ⟨g, hc, hfr⟩ := HI.out.cpy
    have HFR := Lib.hid hfr
    clear hfr
    rw [List.take_length] at hc
    have hcz : Cpy Z base p q g m (X.map (·.1)) (cpD (X.map (·.1)) D) := hc.far kz fun x hx => by
      have nk : ∀ {x : Nat} {t : TypeId} {v : Value}, Boxed W x t v → kin W x t := fun {x t v} h => ⟨_, h⟩
      rcases hx with rfl | rfl | rfl
      · have hk := nk HI.out.r1
        exact ⟨by omega, fun k => absurd (kin.ne k hk) (by decide), fun k => absurd (kin.ne k hk) (by decide), fun e => by
          rcases e with e | e | e | e
          · omega
          · omega
          · exact absurd (kin.ne hk (hc.spc.gkin e).2) (by decide)
          · omega⟩
      · have hk := nk HI.out.r2
        exact ⟨by omega, fun k => absurd (kin.ne k hk) (by decide), fun k => absurd (kin.ne k hk) (by decide), fun e => by
          rcases e with e | e | e | e
          · omega
          · omega
          · exact absurd (kin.ne hk (hc.spc.gkin e).2) (by decide)
          · omega⟩
      · have hk := nk HI.out.r3
        exact ⟨by omega, fun k => absurd (kin.ne k hk) (by decide), fun k => absurd (kin.ne k hk) (by decide), fun e => by
          rcases e with e | e | e | e
          · omega
          · omega
          · exact absurd (kin.ne hk (hc.spc.gkin e).2) (by decide)
          · omega⟩
    have hKZ : Z.heap[E]? = some (.deferred (some [])) := (kz.block E (Array.getElem?_eq_some_iff.1 hK).1 (by omega)).trans hK
    have hcf : Cpy (Z.putObj E (.deferred none)) base p q g m (X.map (·.1)) (cpD (X.map (·.1)) D) := hcz.far (Chs.grown (grownBy_putObj' Z E (.deferred none))) fun x hx => by
      cases hx
      have nk : ∀ t, ¬ kin Z E t := fun t ⟨cs, hk⟩ => by rw [hKZ] at hk; cases hk
      refine ⟨by omega, nk _, nk _, fun e => ?_⟩
      rcases e with e | e | e | e
      · exact nk _ (e ▸ hcz.pkin)
      · exact nk _ (e ▸ hcz.spc.kin)
      · exact nk _ (hcz.spc.gkin e).2
      · omega
    have hbz : Below w.heap.size w Z := HI.out.b.trans (kz.below (fun b hb => by omega) HI.out.b.size)
    have e1 := cell_kept b1.cell (grownBy_putObj' Z E (.deferred none)) (fun r e => by cases e; exact ⟨_, hKZ, rfl⟩)
    have e2 := cell_kept b2.cell (grownBy_putObj' Z E (.deferred none)) (fun r e => by cases e; exact ⟨_, hKZ, rfl⟩)
    have e3 := cell_kept b3.cell (grownBy_putObj' Z E (.deferred none)) (fun r e => by cases e; exact ⟨_, hKZ, rfl⟩)
    have HCF := Lib.hid hcf; have HBZ := Lib.hid hbz
    clear hcf hbz hcz hc kz b1 b2 b3
    gi_wp2
    refine ⟨by simp, .inl ⟨_, _, rfl, run_takeDeferred hKZ, ?_⟩⟩
    refine ⟨.tuple #[.pointer (some ⟨p, 0, none⟩), .int .i64 D.length, .nilIface], by simp [results, Tryz.results26, go_sem, e1, e2, e3], ?_⟩
    exact ⟨p, rfl, q, m, g, HCF.out, HBZ.out.trans (belowK_b (w := w) (Nat.le_refl _) Z E _ _ (by omega) hKZ rfl rfl), by omega, by omega, by omega, HFR.out⟩
  case stop =>
    intro D2 c2 k W hD2 hF
    exact hF.elim
end Go.Proofs.YtfelefkmbbfdjaaGreatDoor
namespace Go.Proofs.YtfelefkmbbfdjaaGreatDoor
open Go.RowKit Go.Joins Go.ChangeShapes Go.WideShapes Go.ChangeAt
set_option linter.unusedVariables false

set_option maxHeartbeats 800000 in
theorem lgback {w : World} {base P p q m : Nat} {g : Option Nat} {R : List Ru} {s : Cs} {D : List Ak} {sf mn : Nat} {lf : Int} {st : Bool} (h : Lg w base P p q g m R s (recs D) sf mn lf st)
    (ht : ∀ W, Below base w W → TT W ∧ EE W ∧ AS W) (hD : VdD R D) (hl : D.length ≤ 1000) :
    Calls Tryz.prog 22 #[.pointer (some ⟨P, 0, none⟩)] w fun e w' => e = .returned .nilIface ∧ ∃ p' q' m' g', Lg w' base P p' q' g' m' R (cpD R D) (recs D) sf mn lf st ∧ Chs (fun x => x = P) w w' ∧ ∀ x, CM p' q' g' m' x → w.heap.size ≤ x := by
  obtain ⟨_, c2, _⟩ := h.cells
  have c := callsIn_wide.1 (redo_in h ht D hD hl)
  have C := Lib.hid c; have H := Lib.hid h
  have hPl := h.pkin.lt
  clear c h ht hD hl
  generalize hrd : recs D = rd at *
  clear hrd
  go_enter Tryz.func22, Tryz.ntmps22
  go_wp2_with (go_at_call 26; refine C.out.mono ?_; rintro e w1 ⟨p', q', m', g', rfl, hc, hb, h1, h2, h3, h4⟩; have H4 := Lib.hid h4; clear h4; have f1 := (H.out.keep hb).frozen 1; have hl1 := (H.out.keep hb).pkin.lt; have x1 := (H.out.keep hb).cells.1; have HC := Lib.hid hc; have HB := Lib.hid hb; clear hc hb)
  go_ret
  obtain ⟨A, cc, hA, hR⟩ := (H.out.keep HB.out).there
  have hm := (H.out.keep HB.out).mine P (.inl rfl)
  have hk := (H.out.keep HB.out).pkin
  have kc := Chs.set w1 ⟨P, 1, none⟩ (.pointer (some ⟨p', 0, none⟩))
  refine ⟨rfl, p', q', m', g', ⟨⟨A, cc, hA.set 1 _, hR.stay (H.out.keep HB.out).hb kc.size fun x hx hkx => kc.block x hx fun e => ?_⟩, HC.out.far kc fun x e => ?_, H.out.hp⟩, (Chs.of_below _ HB.out).trans kc (fun b e => .inl e), H4.out⟩
  · obtain rfl : x = P := e
    rcases hkx with hk1 | hk1 | hk1
    · omega
    · exact hm.2.1 hk1
    · exact hm.2.2 hk1
  · obtain rfl : x = P := e
    exact ⟨hm.1, hm.2.1, hm.2.2, fun e => by
      rcases e with e | e | e | e
      · omega
      · omega
      · exact absurd (kin.ne hk (HC.out.spc.gkin e).2) (by decide)
      · omega⟩
end Go.Proofs.YtfelefkmbbfdjaaGreatDoor
namespace Go.Proofs.YtfelefkmbbfdjaaGreatDoor
open Go.ChangeShapes Go.WideShapes Go.ChangeAt Go.RowKit Go.Joins Go.Deep Go.Maps Go.WideMaps
set_option linter.unusedVariables false

theorem strs_four {W : World} {b : Nat} {x y z t : ByteArray} (h : AtB W b #[.string x, .string y, .string z, .string t] 9) : Strs W (some ⟨b, 0, none⟩) [x, y, z, t] := fun _ => ⟨b, 0, rfl, h.lt, fun i hi j hj => by
  obtain rfl : j = 0 := by omega
  have hi4 : i < 4 := hi
  rcases (show i = 0 ∨ i = 1 ∨ i = 2 ∨ i = 3 by omega) with rfl | rfl | rfl | rfl <;> exact h.cell rfl⟩
set_option maxHeartbeats 1600000 in
set_option maxRecDepth 100000 in
theorem rec_any (a : Ak) (h : Rcd a) (A : Option Addr) (c : Nat) (w : World) (ht : ∀ W, Below w.heap.size w W → TT W) (hA : Vals w A a.t) :
    Calls Tryz.prog 23 #[akv a A c] w fun e w' => e = .returned (.string (recB a)) ∧ Below w.heap.size w w' := by
  obtain ⟨_, h5, hr⟩ := rgt_of h.li
  have h1 := h.w0; have h2 := h.w1; have h3 := h.q0; have h4 := h.q1; have h6 := h.d0; have h7 := h.d1
  have ci1 := fun (W : World) (hb : Below w.heap.size w W) => itoa_any a.w (by omega) (by omega) W (ht W hb)
  have ci2 := fun (W : World) (hb : Below w.heap.size w W) => itoa_any a.q (by omega) (by omega) W (ht W hb)
  have ci3 := fun (W : World) (hb : Below w.heap.size w W) => itoa_any a.d (by omega) (by omega) W (ht W hb)
  have ct := fun (W : World) (hb : Below w.heap.size w W) => tword_any A c a.t (by omega) hr W (hA.below hb (Nat.le_refl _)) (ht W hb)
  have cj := fun (W : World) (B : Nat) (hB : AtB W B #[.string (itB a.w), .string (itB a.q), .string (itB a.d), .string (lin a.t)] 9) => join_any (some ⟨B, 0, none⟩) 4 [itB a.w, itB a.q, itB a.d, lin a.t] ⟨#[32]⟩ W (strs_four hB) (Nat.le_refl _) (show 4 ≤ 1000000 by decide) (by have := rcB_size h; unfold rcB at this; omega)
  have hsz := rcB_size h
  have hrec : recB a = rcB a ++ ⟨#[10]⟩ := rfl
  rw [show jn [itB a.w, itB a.q, itB a.d, lin a.t] ⟨#[32]⟩ = rcB a from rfl] at cj
  rw [show (ByteArray.mk (Lib.itoa a.w).toArray) = itB a.w from rfl] at ci1
  rw [show (ByteArray.mk (Lib.itoa a.q).toArray) = itB a.q from rfl] at ci2
  rw [show (ByteArray.mk (Lib.itoa a.d).toArray) = itB a.d from rfl] at ci3
  rw [hrec]
  generalize rcB a = rc at *
  generalize itB a.w = x1 at *
  generalize itB a.q = x2 at *
  generalize itB a.d = x3 at *
  generalize lin a.t = x4 at *
  obtain ⟨W1, hW1⟩ : ∃ W1, W1 = w.alloc (.cells #[.int .i64 a.w, .int .i64 a.q, .int .i64 a.d, .slice A a.t.length c] 38) := ⟨_, rfl⟩
  have hb01 : Below w.heap.size w W1 := by rw [hW1]; exact bal1 _ _
  have B1 : AtB W1 w.heap.size #[.int .i64 a.w, .int .i64 a.q, .int .i64 a.d, .slice A a.t.length c] 38 := by rw [hW1]; exact AtB.new _ _ _
  have CI1 := Lib.hid ci1; have CI2 := Lib.hid ci2; have CI3 := Lib.hid ci3; have CT := Lib.hid ct; have CJ := Lib.hid cj
  have HB := Lib.hid hb01; have HW := Lib.hid hW1; have BX := Lib.hid B1
  have cells := fun (W : World) (hW : Below W1.heap.size W1 W) => And.intro ((BX.out.below hW BX.out.lt).cell (i := 0) rfl) (And.intro ((BX.out.below hW BX.out.lt).cell (i := 1) rfl) (And.intro ((BX.out.below hW BX.out.lt).cell (i := 2) rfl) ((BX.out.below hW BX.out.lt).cell (i := 3) rfl)))
  have HCELL := Lib.hid cells
  clear ci1 ci2 ci3 ct cj hb01 hW1 B1 cells ht hA h h5 hr h1 h2 h3 h4 h6 h7 hrec
  obtain ⟨x, q', d, t⟩ := a
  simp only [akv] at *
  have hb00 := Below.refl W1.heap.size W1
  have HB0 := Lib.hid hb00
  clear hb00
  obtain ⟨d0, d1, d2, d3⟩ := HCELL.out W1 HB0.out
  go_enter Tryz.func23, Tryz.ntmps23
  go_wp2_with fail
  rw [← HW.out]
  go_region_held3 (fun w' => w'.cell? ⟨w.heap.size, 0, none⟩ = some (.int .i64 x) ∧ w'.cell? ⟨w.heap.size, 1, none⟩ = some (.int .i64 q') ∧ w'.cell? ⟨w.heap.size, 2, none⟩ = some (.int .i64 d) ∧ w'.cell? ⟨w.heap.size, 3, none⟩ = some (.slice A t.length c)) (first | exact ⟨d0, d1, d2, d3⟩ | go_keep) ((first
    | (go_at_call 44; (with_reducible refine (CI1.out _ (bdr HB.out)).mono ?_); rintro e w2 ⟨rfl, hb2⟩; have HB2 := Lib.hid (bcl (bdr HB0.out) hb2); clear hb2 d0 d1 d2 d3; obtain ⟨d0, d1, d2, d3⟩ := HCELL.out w2 HB2.out)
    | (go_at_call 44; (with_reducible refine (CI2.out _ (bcl HB.out HB2.out)).mono ?_); rintro e w3 ⟨rfl, hb3⟩; have HB3 := Lib.hid (bcl HB2.out hb3); clear hb3 d0 d1 d2 d3; obtain ⟨d0, d1, d2, d3⟩ := HCELL.out w3 HB3.out)
    | (go_at_call 44; (with_reducible refine (CI3.out _ (bcl HB.out HB3.out)).mono ?_); rintro e w4 ⟨rfl, hb4⟩; have HB4 := Lib.hid (bcl HB3.out hb4); clear hb4 d0 d1 d2 d3; obtain ⟨d0, d1, d2, d3⟩ := HCELL.out w4 HB4.out)
    | (go_at_call 45; (with_reducible refine (CT.out _ (bcl HB.out HB4.out)).mono ?_); rintro e w5 ⟨rfl, hb5⟩; have HB5 := Lib.hid (bcl HB4.out hb5); clear hb5 d0 d1 d2 d3; obtain ⟨d0, d1, d2, d3⟩ := HCELL.out w5 HB5.out)))
  go_wp2_with (go_at_call 46; refine (CJ.out _ _ (AtB.new _ _ _)).mono ?_; rintro e w6 ⟨rfl, hb6⟩; have HB6 := Lib.hid (bcl (bal (bcl HB.out HB5.out) _) hb6); clear hb6)
  go_ret
  exact ⟨rfl, HB6.out⟩
section
variable {w w' : World} {base P p q m : Nat} {g : Option Nat} {R : List Ru} {s : Cs} {b : ByteArray} {sf mn : Nat} {lf : Int} {st : Bool}
/-- the steps that are left, one later -/
def lfN (lf : Int) : Int := max (-1) (lf - 1)
set_option maxHeartbeats 800000 in
theorem lgstep_any (h : Lg w base P p q g m R s b sf mn lf st) (h0 : -1 ≤ lf) (h1 : lf ≤ 9223372036854775807) :
    Calls Tryz.prog 24 #[.pointer (some ⟨P, 0, none⟩)] w fun e w' => e = .returned (.bool (decide (lf = 0))) ∧ Lg w' base P p q g m R s b sf mn (lfN lf) (decide (lf = 0)) ∧ Chs (fun x => x = P) w w' := by
  obtain ⟨_, _, _, _, c5, c6⟩ := h.cells
  have f5 := h.frozen 5; have f6 := h.frozen 6
  have hl := h.pkin.lt
  have HH := Lib.hid h
  have fin : ∀ W, W = (w.setCell ⟨P, 6, none⟩ (.bool (decide (lf = 0)))).setCell ⟨P, 5, none⟩ (.int .i64 (lfN lf)) → Lg W base P p q g m R s b sf mn (lfN lf) (decide (lf = 0)) ∧ Chs (fun x => x = P) w W ∧ W.cell? ⟨P, 6, none⟩ = some (.bool (decide (lf = 0))) := fun W hW => by
    have hc : Chs (fun x => x = P) w W := by rw [hW]; exact (Chs.set w ⟨P, 6, none⟩ _).trans (Chs.set _ ⟨P, 5, none⟩ _) (fun b hb => .inl hb)
    have hl : Lg W base P p q g m R s b sf mn (lfN lf) (decide (lf = 0)) := HH.out.wrote hc fun A c hA => by rw [hW]; exact (hA.set 6 _).set 5 _
    exact ⟨hl, hc, hl.cells.2.2.2.2.2⟩
  have FIN := Lib.hid fin
  clear h fin
  rcases (show lf = -1 ∨ lf = 0 ∨ 0 < lf by omega) with rfl | rfl | hp
  · rw [show decide ((-1 : Int) = 0) = false from rfl, show lfN (-1) = -1 by decide] at FIN ⊢
    go_enter Tryz.func24, Tryz.ntmps24
    go_wp2_with fail
    obtain ⟨q1, q2, q3⟩ := FIN.out _ rfl
    go_wp2_with fail
    go_ret
    exact ⟨rfl, q1, q2⟩
  · rw [show decide ((0 : Int) = 0) = true from rfl, show lfN 0 = -1 by decide] at FIN ⊢
    go_enter Tryz.func24, Tryz.ntmps24
    go_wp2_with fail
    obtain ⟨q1, q2, q3⟩ := FIN.out _ rfl
    go_wp2_with fail
    go_ret
    exact ⟨rfl, q1, q2⟩
  · have e1 : (lf == 0) = false := beq_eq_false_iff_ne.2 (by omega)
    rw [show decide (lf = 0) = false from decide_eq_false (by omega), show lfN lf = max (-1) (lf - 1) from rfl] at FIN ⊢
    go_enter Tryz.func24, Tryz.ntmps24
    go_wp2_with fail
    obtain ⟨q1, q2, q3⟩ := FIN.out _ rfl
    go_wp2_with fail
    go_ret
    exact ⟨rfl, q1, q2⟩
end
end Go.Proofs.YtfelefkmbbfdjaaGreatDoor
namespace Go.Proofs.YtfelefkmbbfdjaaGreatDoor
open Go.ChangeShapes Go.WideShapes Go.ChangeAt Go.RowKit Go.Joins Go.Deep Go.Maps Go.WideMaps
set_option linter.unusedVariables false

section
variable {w : World} {base p q m : Nat} {g : Option Nat} {R : List Ru} {s : Cs}
set_option maxHeartbeats 1600000 in
set_option maxRecDepth 100000 in
theorem cpagain_any (hC : Cpy w base p q g m R s) (a : Ak) (A : Option Addr) (c : Nat) (hw64 : I64 a.w) :
    Calls Tryz.prog 20 #[.pointer (some ⟨p, 0, none⟩), akv a A c] w fun e w' => e = .returned (.bool (agB s a)) ∧ Below w.heap.size w w' := by
  obtain ⟨RA, rc, h1, _⟩ := hC.there
  obtain ⟨mm, hs, f, hv, hf⟩ := hC.map
  obtain ⟨W1, hW1⟩ : ∃ W1, W1 = w.alloc (.cells #[.int .i64 a.w, .int .i64 a.q, .int .i64 a.d, .slice A a.t.length c] 38) := ⟨_, rfl⟩
  have hb01 : Below w.heap.size w W1 := by rw [hW1]; exact bal1 _ _
  have B1 : AtB W1 w.heap.size #[.int .i64 a.w, .int .i64 a.q, .int .i64 a.d, .slice A a.t.length c] 38 := by rw [hW1]; exact AtB.new _ _ _
  have hV1 := hv.keep hb01
  have HW := Lib.hid hW1; have HB := Lib.hid hb01
  obtain ⟨Y, hY⟩ : ∃ Y, Y = s.F a.w := ⟨_, rfl⟩
  have hfa := hf a.w
  rw [← hY] at hfa
  have hag : agB s a = (decide (a.q = Y.1) && decide (0 < Y.1)) := by rw [agB, ← hY]
  obtain ⟨y1, y2⟩ := Y
  obtain ⟨x, q', d, t⟩ := a
  simp only [akv] at *
  have d0 : W1.cell? ⟨w.heap.size, 0, none⟩ = some (.int .i64 x) := B1.cell rfl
  have d1 : W1.cell? ⟨w.heap.size, 1, none⟩ = some (.int .i64 q') := B1.cell rfl
  have p2 : W1.cell? ⟨p, 2, none⟩ = some (.map (some m)) := (h1.below hb01 h1.lt).cell rfl
  have hlk := run_lookup_v (w := W1.drew) 88 3 93 lawI Tryz.underlying88 m _ mm _ hs f (zeroDone _) (hV1.stay rfl) _ _ (keyOf_int_mk Tryz.underlying3 hw64)
  rw [hfa] at hlk
  have hlk2 : (Instr.lookup 88 (.map (some m)) (.int .i64 x) false).run Tryz.prog W1.drew = .ok (.agg #[.int .i64 y1, .string y2]) W1.drew := hlk
  have hlq : ∀ k, (Instr.lookup 88 (.map (some m)) (.int .i64 x) false).run Tryz.prog (W1.drewN k) = .ok (.agg #[.int .i64 y1, .string y2]) (W1.drewN k) := fun k => by
    have h := run_lookup_v (w := W1.drewN k) 88 3 93 lawI Tryz.underlying88 m _ mm _ hs f (zeroDone _) (hV1.keep (bdn (Below.refl _ _) k)) _ _ (keyOf_int_mk Tryz.underlying3 hw64)
    rw [hfa] at h
    exact h
  have hfld : ∀ (W : World) (u v : Value), (Instr.field 93 (.agg #[u, v]) 0).run Tryz.prog W = .ok u W := fun W u v => by rfl
  have HAG := Lib.hid hag
  have hl0 : w.heap.size < W1.heap.size := B1.lt
  have hlp : p < W1.heap.size := (h1.below hb01 h1.lt).lt
  clear hW1 hb01 B1 hV1 hv hf hfa hlk hag hC h1 hY hw64
  have fin : ∀ W, W = W1.drew → Below w.heap.size w W := fun W hW => by rw [hW]; exact bdr HB.out
  by_cases h0 : 0 < q'
  · have q0 : decide (0 < q') = true := decide_eq_true h0
    have hv : (y1 == q') = agB s ⟨x, q', d, t⟩ := by
      rw [HAG.out]
      by_cases e : y1 = q'
      · subst e; simp [h0]
      · rw [decide_eq_false (fun h => e h.symm), Bool.false_and]; exact beq_eq_false_iff_ne.2 e
    go_enter Tryz.func20, Tryz.ntmps20
    go_wp2_with fail
    rw [← HW.out]
    go_quiet (fail)
    go_wp2_with fail
    go_ret
    exact ⟨by first | rfl | (rw [hv]; rfl), by first | exact bdn HB.out _ | exact bdr HB.out | exact HB.out⟩
  · have q0 : decide (0 < q') = false := decide_eq_false h0
    have hv : agB s ⟨x, q', d, t⟩ = false := by
      rw [HAG.out]
      by_cases e : q' = y1
      · subst e; rw [decide_eq_false h0, Bool.and_false]
      · rw [decide_eq_false e, Bool.false_and]
    go_enter Tryz.func20, Tryz.ntmps20
    go_wp2_with fail
    rw [← HW.out]
    go_quiet (fail)
    go_wp2_with fail
    go_ret
    exact ⟨by first | rfl | (rw [hv]; rfl), by first | exact bdn HB.out _ | exact bdr HB.out | exact HB.out⟩
end
end Go.Proofs.YtfelefkmbbfdjaaGreatDoor
namespace Go.Proofs.YtfelefkmbbfdjaaGreatDoor
open Go.ChangeShapes Go.WideShapes Go.ChangeAt Go.RowKit Go.Joins Go.Deep Go.Maps Go.WideMaps
set_option linter.unusedVariables false

section
variable {w w' : World} {base P p q m : Nat} {g : Option Nat} {R : List Ru} {s : Cs} {b : ByteArray} {sf mn : Nat} {lf : Int} {st : Bool}
theorem Chs.lm {w w' : World} (k : Chs (CM p q g m) w w') : Chs (LM P p q g m) w w' := k.mono fun _ h => .inr h
set_option maxHeartbeats 3200000 in
set_option maxRecDepth 100000 in
theorem lgdo_no (h : Lg w base P p q g m R s b sf mn lf false) (ht : ∀ W, Below base w W → TT W) (hn : s.n ≤ 1000000) (a : Ak) (A : Option Addr) (c : Nat) (hm : a.t.length ≤ maxLen) (hok : okL a.t) (hw64 : I64 a.w) (hq64 : I64 a.q) (hA : Vals w A a.t)
    (hno : doE R s a ≠ 0 ∨ agB s a = true) :
    Calls Tryz.prog 5 #[.pointer (some ⟨P, 0, none⟩), akv a A c] w fun e w' => e = .returned (.tuple #[.string (doS R s a), eV (doE R s a)]) ∧
      ∃ g', Lg w' base P p q g' m R s b sf mn lf false ∧ Chs (LM P p q g m) w w' ∧ Nw g g' w.heap.size := by
  obtain ⟨W1, hW1⟩ : ∃ W1, W1 = w.alloc (.cells #[.int .i64 a.w, .int .i64 a.q, .int .i64 a.d, .slice A a.t.length c] 38) := ⟨_, rfl⟩
  have hb01 : Below w.heap.size w W1 := by rw [hW1]; exact bal1 _ _
  have B1 : AtB W1 w.heap.size #[.int .i64 a.w, .int .i64 a.q, .int .i64 a.d, .slice A a.t.length c] 38 := by rw [hW1]; exact AtB.new _ _ _
  have h1 := h.keep hb01
  have hd : doC R s a = s := hno.elim doC_no doC_ag
  have cc := fun (W : World) (hb : Below W1.heap.size W1 W) => cpdo_any ((h1.keep hb).cpy) (fun W' hb' => ht W' ((hb01.mono h.hb).trans ((hb.mono (Nat.le_trans h.hb hb01.size)).trans hb'))) hn a A c hm hok hq64 (hA.below (bcl hb01 hb) (Nat.le_refl _))
  rw [hd] at cc
  have ca := fun (W : World) (hb : Below W1.heap.size W1 W) => cpagain_any (h1.keep hb).cpy a A c hw64
  have hnc : ¬ CM p q g m w.heap.size := fun e => absurd (h.cpy.lts _ e) (by omega)
  have HB := Lib.hid hb01; have HW := Lib.hid hW1; have BX := Lib.hid B1; have HL := Lib.hid h1; have HNO := Lib.hid hnc
  clear hnc
  obtain ⟨p1, _, _, _, _, p6⟩ := h1.cells
  have hnw : ∀ g' : Option Nat, Nw g g' W1.heap.size → Nw g g' w.heap.size := fun _ k => nw_le k hb01.size
  have HNW := Lib.hid hnw
  clear hb01 hW1 h1 hd ht h hA hok hm hq64 hw64 hn hnw
  by_cases hE : doE R s a = 0
  · have hg : agB s a = true := hno.resolve_left fun e => e hE
    rw [hE, eV_zero] at cc ⊢
    rw [hg] at ca
    have CC := Lib.hid cc; have CA := Lib.hid ca
    clear cc ca hE hg hno
    generalize doS R s a = S at *
    obtain ⟨x, q', d, t⟩ := a
    simp only [akv] at *
    have d0 : W1.cell? ⟨w.heap.size, 0, none⟩ = some (.int .i64 x) := B1.cell rfl
    have d1 : W1.cell? ⟨w.heap.size, 1, none⟩ = some (.int .i64 q') := B1.cell rfl
    have d2 : W1.cell? ⟨w.heap.size, 2, none⟩ = some (.int .i64 d) := B1.cell rfl
    have d3 : W1.cell? ⟨w.heap.size, 3, none⟩ = some (.slice A t.length c) := B1.cell rfl
    clear B1
    go_enter Tryz.func5, Tryz.ntmps5
    go_upto_region 1 with fail
    rw [← HW.out]
    go_wp2_with fail
    go_region_held3 (fun w' => w'.cell? ⟨P, 1, none⟩ = some (.pointer (some ⟨p, 0, none⟩)) ∧ w'.cell? ⟨w.heap.size, 0, none⟩ = some (.int .i64 x) ∧ w'.cell? ⟨w.heap.size, 1, none⟩ = some (.int .i64 q') ∧ w'.cell? ⟨w.heap.size, 2, none⟩ = some (.int .i64 d) ∧ w'.cell? ⟨w.heap.size, 3, none⟩ = some (.slice A t.length c)) (first | exact ⟨p1, d0, d1, d2, d3⟩ | exact ⟨z1, y0, y1, y2, y3⟩ | go_keep) ((go_at_call 20; refine (CA.out _ (bdr (Below.refl _ _))).mono ?_; rintro e w2 ⟨rfl, hb2⟩; have HB2 := Lib.hid (bcl (bdr (Below.refl W1.heap.size W1)) hb2); have y := BX.out.below HB2.out BX.out.lt; have BX2 := Lib.hid (show AtB w2.drew w.heap.size #[.int .i64 x, .int .i64 q', .int .i64 d, .slice A t.length c] 38 from y); have y0 : w2.cell? ⟨w.heap.size, 0, none⟩ = some (.int .i64 x) := y.cell rfl; have y1 : w2.cell? ⟨w.heap.size, 1, none⟩ = some (.int .i64 q') := y.cell rfl; have y2 : w2.cell? ⟨w.heap.size, 2, none⟩ = some (.int .i64 d) := y.cell rfl; have y3 : w2.cell? ⟨w.heap.size, 3, none⟩ = some (.slice A t.length c) := y.cell rfl; obtain ⟨z1, _, _, _, _, _⟩ := (HL.out.keep HB2.out).cells; clear y; clear hb2))
    go_wp2_with fail
    go_region_held3 (fun w' => w'.cell? ⟨P, 1, none⟩ = some (.pointer (some ⟨p, 0, none⟩)) ∧ w'.cell? ⟨w.heap.size, 0, none⟩ = some (.int .i64 x) ∧ w'.cell? ⟨w.heap.size, 1, none⟩ = some (.int .i64 q') ∧ w'.cell? ⟨w.heap.size, 2, none⟩ = some (.int .i64 d) ∧ w'.cell? ⟨w.heap.size, 3, none⟩ = some (.slice A t.length c)) (first | exact ⟨z1, y0, y1, y2, y3⟩ | exact ⟨u1, v0, v1, v2, v3⟩ | go_keep) ((go_at_call 21; refine (CC.out _ (bdr HB2.out)).mono ?_; rintro e w3 ⟨rfl, g3, hc3, hk3, hn3⟩; have HL3 := Lib.hid ((HL.out.keep (bdr HB2.out)).copied hc3 hk3); have HK3 := Lib.hid hk3; have HN3 := Lib.hid hn3; have y := BX2.out.chs hk3 HNO.out; have v0 : w3.cell? ⟨w.heap.size, 0, none⟩ = some (.int .i64 x) := y.cell rfl; have v1 : w3.cell? ⟨w.heap.size, 1, none⟩ = some (.int .i64 q') := y.cell rfl; have v2 : w3.cell? ⟨w.heap.size, 2, none⟩ = some (.int .i64 d) := y.cell rfl; have v3 : w3.cell? ⟨w.heap.size, 3, none⟩ = some (.slice A t.length c) := y.cell rfl; obtain ⟨u1, _, _, u4, _, _⟩ := HL3.out.cells; clear y hc3 hk3 hn3))
    go_wp2_with fail
    go_ret2
    exact ⟨rfl, g3, HL3.out, (Chs.of_below _ (bcl HB.out (bdr HB2.out))).trans HK3.out.lm (fun _ h => .inl h), HNW.out _ (nw_le HN3.out (bdr HB2.out).size)⟩
  · rw [eV_of hE] at cc ⊢
    generalize agB s a = ag at *
    have CC := Lib.hid cc; have CA := Lib.hid ca
    clear cc ca hE hno
    generalize doS R s a = S at *
    generalize doE R s a = E at *
    obtain ⟨x, q', d, t⟩ := a
    simp only [akv] at *
    have d0 : W1.cell? ⟨w.heap.size, 0, none⟩ = some (.int .i64 x) := B1.cell rfl
    have d1 : W1.cell? ⟨w.heap.size, 1, none⟩ = some (.int .i64 q') := B1.cell rfl
    have d2 : W1.cell? ⟨w.heap.size, 2, none⟩ = some (.int .i64 d) := B1.cell rfl
    have d3 : W1.cell? ⟨w.heap.size, 3, none⟩ = some (.slice A t.length c) := B1.cell rfl
    clear B1
    go_enter Tryz.func5, Tryz.ntmps5
    go_upto_region 1 with fail
    rw [← HW.out]
    go_wp2_with fail
    go_region_held3 (fun w' => w'.cell? ⟨P, 1, none⟩ = some (.pointer (some ⟨p, 0, none⟩)) ∧ w'.cell? ⟨w.heap.size, 0, none⟩ = some (.int .i64 x) ∧ w'.cell? ⟨w.heap.size, 1, none⟩ = some (.int .i64 q') ∧ w'.cell? ⟨w.heap.size, 2, none⟩ = some (.int .i64 d) ∧ w'.cell? ⟨w.heap.size, 3, none⟩ = some (.slice A t.length c)) (first | exact ⟨p1, d0, d1, d2, d3⟩ | exact ⟨z1, y0, y1, y2, y3⟩ | go_keep) ((go_at_call 20; refine (CA.out _ (bdr (Below.refl _ _))).mono ?_; rintro e w2 ⟨rfl, hb2⟩; have HB2 := Lib.hid (bcl (bdr (Below.refl W1.heap.size W1)) hb2); have y := BX.out.below HB2.out BX.out.lt; have BX2 := Lib.hid (show AtB w2.drew w.heap.size #[.int .i64 x, .int .i64 q', .int .i64 d, .slice A t.length c] 38 from y); have y0 : w2.cell? ⟨w.heap.size, 0, none⟩ = some (.int .i64 x) := y.cell rfl; have y1 : w2.cell? ⟨w.heap.size, 1, none⟩ = some (.int .i64 q') := y.cell rfl; have y2 : w2.cell? ⟨w.heap.size, 2, none⟩ = some (.int .i64 d) := y.cell rfl; have y3 : w2.cell? ⟨w.heap.size, 3, none⟩ = some (.slice A t.length c) := y.cell rfl; obtain ⟨z1, _, _, _, _, _⟩ := (HL.out.keep HB2.out).cells; clear y; clear hb2))
    go_wp2_with fail
    go_region_held3 (fun w' => w'.cell? ⟨P, 1, none⟩ = some (.pointer (some ⟨p, 0, none⟩)) ∧ w'.cell? ⟨w.heap.size, 0, none⟩ = some (.int .i64 x) ∧ w'.cell? ⟨w.heap.size, 1, none⟩ = some (.int .i64 q') ∧ w'.cell? ⟨w.heap.size, 2, none⟩ = some (.int .i64 d) ∧ w'.cell? ⟨w.heap.size, 3, none⟩ = some (.slice A t.length c)) (first | exact ⟨z1, y0, y1, y2, y3⟩ | exact ⟨u1, v0, v1, v2, v3⟩ | go_keep) ((go_at_call 21; refine (CC.out _ (bdr HB2.out)).mono ?_; rintro e w3 ⟨rfl, g3, hc3, hk3, hn3⟩; have HL3 := Lib.hid ((HL.out.keep (bdr HB2.out)).copied hc3 hk3); have HK3 := Lib.hid hk3; have HN3 := Lib.hid hn3; have y := BX2.out.chs hk3 HNO.out; have v0 : w3.cell? ⟨w.heap.size, 0, none⟩ = some (.int .i64 x) := y.cell rfl; have v1 : w3.cell? ⟨w.heap.size, 1, none⟩ = some (.int .i64 q') := y.cell rfl; have v2 : w3.cell? ⟨w.heap.size, 2, none⟩ = some (.int .i64 d) := y.cell rfl; have v3 : w3.cell? ⟨w.heap.size, 3, none⟩ = some (.slice A t.length c) := y.cell rfl; obtain ⟨u1, _, _, u4, _, _⟩ := HL3.out.cells; clear y hc3 hk3 hn3))
    go_wp2_with fail
    go_ret2
    exact ⟨rfl, g3, HL3.out, (Chs.of_below _ (bcl HB.out (bdr HB2.out))).trans HK3.out.lm (fun _ h => .inl h), HNW.out _ (nw_le HN3.out (bdr HB2.out).size)⟩
set_option maxHeartbeats 3200000 in
set_option maxRecDepth 100000 in
theorem lgdo_new (h : Lg w base P p q g m R s b sf mn lf false) (ht : ∀ W, Below base w W → TT W) (hn : s.n ≤ 999999) (a : Ak) (A : Option Addr) (c : Nat) (hm : a.t.length ≤ maxLen) (hok : okL a.t) (hw64 : I64 a.w) (hq64 : I64 a.q) (hV : Vin w base A a.t)
    (hE : doE R s a = 0) (hg : agB s a = false) (hmn : mn ≠ 30) (hm2 : mn ≤ 1000000) (hl0 : -1 ≤ lf) (hl1 : lf ≤ 9223372036854775807) (hlf : lf ≠ 0) (hbs : b.size ≤ 1000000) :
    Calls Tryz.prog 5 #[.pointer (some ⟨P, 0, none⟩), akv a A c] w fun e w' => e = .returned (.tuple #[.string (doS R s a), .nilIface]) ∧
      ∃ g', Lg w' base P p q g' m R (doC R s a) (b ++ recB a) sf (mn + 1) (lfN lf) false ∧ Chs (LM P p q g m) w w' ∧ Nw g g' w.heap.size := by
  have hrc := rcd_of h.cpy.ok hn hE hg
  have hrs := recB_size hrc
  obtain ⟨W1, hW1⟩ : ∃ W1, W1 = w.alloc (.cells #[.int .i64 a.w, .int .i64 a.q, .int .i64 a.d, .slice A a.t.length c] 38) := ⟨_, rfl⟩
  have hb01 : Below w.heap.size w W1 := by rw [hW1]; exact bal1 _ _
  have B1 : AtB W1 w.heap.size #[.int .i64 a.w, .int .i64 a.q, .int .i64 a.d, .slice A a.t.length c] 38 := by rw [hW1]; exact AtB.new _ _ _
  have h1 := h.keep hb01
  have hV1 := hV.chsV h.hb (Chs.of_below (fun _ => False) hb01) (fun _ h => h.elim)
  have hno : ¬ CM p q g m w.heap.size := fun e => absurd (h.cpy.lts _ e) (by omega)
  have hT1 : ∀ W, Below base W1 W → TT W := fun W hb => ht W ((hb01.mono h.hb).trans hb)
  have cc := fun (W : World) (hb : Below W1.heap.size W1 W) => cpdo_any ((h1.keep hb).cpy) (fun W' hb' => hT1 W' ((hb.mono h1.hb).trans hb')) (Nat.le_trans hn (by decide)) a A c hm hok hq64 (hV1.1.below hb (Nat.le_refl _))
  rw [hE, eV_zero] at cc
  have ca := fun (W : World) (hb : Below W1.heap.size W1 W) => cpagain_any (h1.keep hb).cpy a A c hw64
  rw [hg] at ca
  have hback : ∀ W2 W3, Below W1.heap.size W1 W2 → Chs (CM p q g m) W2 W3 → Vals W3 A a.t ∧ Below base W1 W3 := fun W2 W3 hb hk => by
    have h2 := h1.keep hb
    refine ⟨((hV1.chsV h1.hb (Chs.of_below (fun _ => False) hb) (fun _ h => h.elim)).chsV h2.hb hk fun x hx => ⟨h2.cpy.own x hx, (h2.cpy.kinds x hx).1⟩).1, ?_⟩
    exact (hb.mono h1.hb).trans (hk.below h2.cpy.own h2.hb)
  have cr := fun (W2 W3 : World) (hb : Below W1.heap.size W1 W2) (hk : Chs (CM p q g m) W2 W3) => rec_any a hrc A c W3 (fun W hb' => hT1 W ((hback W2 W3 hb hk).2.trans (hb'.mono (Nat.le_trans h1.hb (Nat.le_trans hb.size hk.size))))) (hback W2 W3 hb hk).1
  have cs := fun (W : World) (g' : Option Nat) (s' : Cs) (h' : Lg W base P p q g' m R s' b sf mn lf false) => lgstep_any h' hl0 hl1
  rw [decide_eq_false hlf] at cs
  have HB := Lib.hid hb01; have HW := Lib.hid hW1; have BX := Lib.hid B1; have HL := Lib.hid h1; have HNO := Lib.hid hno
  obtain ⟨p1, _, _, _, _, p6⟩ := h1.cells
  have hnw : ∀ g' : Option Nat, Nw g g' W1.heap.size → Nw g g' w.heap.size := fun _ k => nw_le k hb01.size
  have HNW := Lib.hid hnw
  have CA := Lib.hid ca; have CC := Lib.hid cc; have CR := Lib.hid cr; have CS := Lib.hid cs
  have HMN := Lib.hid (show ((mn : Int) == 30) = false from beq_eq_false_iff_ne.2 (by omega))
  have hcat : (b ++ recB a).size = b.size + (recB a).size := size_app _ _
  clear hb01 hW1 h1 hT1 hback ht h hV hV1 hok hm hq64 hw64 hn hnw ca cc cr cs hrc hE hg hno hlf hmn
  generalize doS R s a = S at *
  generalize doC R s a = C at *
  generalize recB a = rb at *
  obtain ⟨x, q', d, t⟩ := a
  simp only [akv] at *
  have d0 : W1.cell? ⟨w.heap.size, 0, none⟩ = some (.int .i64 x) := B1.cell rfl
  have d1 : W1.cell? ⟨w.heap.size, 1, none⟩ = some (.int .i64 q') := B1.cell rfl
  have d2 : W1.cell? ⟨w.heap.size, 2, none⟩ = some (.int .i64 d) := B1.cell rfl
  have d3 : W1.cell? ⟨w.heap.size, 3, none⟩ = some (.slice A t.length c) := B1.cell rfl
  clear B1
  go_enter Tryz.func5, Tryz.ntmps5
  go_upto_region 1 with fail
  rw [← HW.out]
  go_wp2_with fail
  go_region_held3 (fun w' => w'.cell? ⟨P, 1, none⟩ = some (.pointer (some ⟨p, 0, none⟩)) ∧ w'.cell? ⟨w.heap.size, 0, none⟩ = some (.int .i64 x) ∧ w'.cell? ⟨w.heap.size, 1, none⟩ = some (.int .i64 q') ∧ w'.cell? ⟨w.heap.size, 2, none⟩ = some (.int .i64 d) ∧ w'.cell? ⟨w.heap.size, 3, none⟩ = some (.slice A t.length c)) (first | exact ⟨p1, d0, d1, d2, d3⟩ | exact ⟨z1, y0, y1, y2, y3⟩ | go_keep) ((go_at_call 20; refine (CA.out _ (bdr (Below.refl _ _))).mono ?_; rintro e w2 ⟨rfl, hb2⟩; have HB2 := Lib.hid (bcl (bdr (Below.refl W1.heap.size W1)) hb2); have y := BX.out.below HB2.out BX.out.lt; have BX2 := Lib.hid (show AtB w2.drew w.heap.size #[.int .i64 x, .int .i64 q', .int .i64 d, .slice A t.length c] 38 from y); have y0 : w2.cell? ⟨w.heap.size, 0, none⟩ = some (.int .i64 x) := y.cell rfl; have y1 : w2.cell? ⟨w.heap.size, 1, none⟩ = some (.int .i64 q') := y.cell rfl; have y2 : w2.cell? ⟨w.heap.size, 2, none⟩ = some (.int .i64 d) := y.cell rfl; have y3 : w2.cell? ⟨w.heap.size, 3, none⟩ = some (.slice A t.length c) := y.cell rfl; obtain ⟨z1, _, _, _, _, _⟩ := (HL.out.keep HB2.out).cells; clear y; clear hb2))
  go_wp2_with fail
  go_region_held3 (fun w' => w'.cell? ⟨P, 1, none⟩ = some (.pointer (some ⟨p, 0, none⟩)) ∧ w'.cell? ⟨w.heap.size, 0, none⟩ = some (.int .i64 x) ∧ w'.cell? ⟨w.heap.size, 1, none⟩ = some (.int .i64 q') ∧ w'.cell? ⟨w.heap.size, 2, none⟩ = some (.int .i64 d) ∧ w'.cell? ⟨w.heap.size, 3, none⟩ = some (.slice A t.length c)) (first | exact ⟨z1, y0, y1, y2, y3⟩ | exact ⟨u1, v0, v1, v2, v3⟩ | go_keep) ((go_at_call 21; refine (CC.out _ (bdr HB2.out)).mono ?_; rintro e w3 ⟨rfl, g3, hc3, hk3, hn3⟩; have HL3 := Lib.hid ((HL.out.keep (bdr HB2.out)).copied hc3 hk3); have HK3 := Lib.hid hk3; have HN3 := Lib.hid hn3; have y := BX2.out.chs hk3 HNO.out; have v0 : w3.cell? ⟨w.heap.size, 0, none⟩ = some (.int .i64 x) := y.cell rfl; have v1 : w3.cell? ⟨w.heap.size, 1, none⟩ = some (.int .i64 q') := y.cell rfl; have v2 : w3.cell? ⟨w.heap.size, 2, none⟩ = some (.int .i64 d) := y.cell rfl; have v3 : w3.cell? ⟨w.heap.size, 3, none⟩ = some (.slice A t.length c) := y.cell rfl; obtain ⟨u1, _, _, u4, _, _⟩ := HL3.out.cells; clear y hc3 hk3 hn3))
  have hmn := HMN.out
  go_wp2_with (first
    | (go_at_call 23; refine (CR.out _ _ (bdr HB2.out) HK3.out).mono ?_; rintro e w4 ⟨rfl, hb4⟩; have HL4 := Lib.hid (HL3.out.keep hb4); have HB4 := Lib.hid hb4; clear hb4)
    | (go_at_call 24; refine (CS.out _ _ _ HL4.out).mono ?_; rintro e w5 ⟨rfl, hL5, hk5⟩; have HL5 := Lib.hid hL5; have HK5 := Lib.hid hk5; obtain ⟨_, u2, _, u5, _, _⟩ := hL5.cells; have f2 := hL5.frozen 2; have f4 := hL5.frozen 4; have l5 := hL5.pkin.lt; clear hL5 hk5))
  go_ret2
  have k6 : Chs (fun x => x = P) w5 ((w5.setCell ⟨P, 2, none⟩ (.string (b ++ rb))).setCell ⟨P, 4, none⟩ (.int .i64 ((mn : Int) + 1))) := (Chs.set w5 ⟨P, 2, none⟩ _).trans (Chs.set _ ⟨P, 4, none⟩ _) (fun b hb => .inl hb)
  refine ⟨rfl, g3, HL5.out.wrote k6 (fun A c hA => (hA.set 2 _).set 4 _), ?_, HNW.out _ (nw_le HN3.out (bdr HB2.out).size)⟩
  refine (Chs.of_below (LM P p q g m) (bcl HB.out (bdr HB2.out))).trans ((HK3.out.lm (P := P)).trans ((Chs.of_below (LM P p q g m) HB4.out).trans (((HK5.out.trans k6 (fun b hb => .inl hb)).mono (fun x e => .inl e) : Chs (LM P p q g m) _ _)) (fun b hb => .inl hb)) (fun b hb => .inl hb)) (fun b hb => .inl hb)
end
end Go.Proofs.YtfelefkmbbfdjaaGreatDoor
namespace Go.Proofs.YtfelefkmbbfdjaaGreatDoor
set_option linter.unusedVariables false

theorem recs_cons_size (a : Ak) (D : List Ak) : (recs (a :: D)).size = (rcB a).data.toList.length + 1 + (recs D).size := by
  have := congrArg List.length (recs_list a D)
  have e : (rcB a).data.toList.length = (rcB a).data.size := Array.length_toList
  rw [List.length_append, List.length_cons, Array.length_toList, Array.length_toList, Array.length_toList] at this
  rw [e]
  show (recs (a :: D)).data.size = _ + 1 + (recs D).data.size
  omega
/-- the bytes up to any place are whole records, and a rest without an end -/
theorem recs_cut : ∀ (D : List Ak) (h : ∀ a ∈ D, Rcd a) (junk : List UInt8) (hj : ∀ b ∈ junk, b ≠ 10) (hi : Nat),
    ∃ (j : Nat) (q : List UInt8), j ≤ D.length ∧ ((recs D).data.toList ++ junk).take hi = (recs (D.take j)).data.toList ++ q ∧ (∀ b ∈ q, b ≠ 10) ∧ (recs (D.take j)).size ≤ hi ∧ ∀ j', j < j' → j' ≤ D.length → hi < (recs (D.take j')).size
  | [], _, junk, hj, hi => ⟨0, junk.take hi, Nat.le_refl _, rfl, fun b hb => hj b (List.mem_of_mem_take hb), Nat.zero_le _, fun j' h1 h2 => by simp at h2; omega⟩
  | a :: D, h, junk, hj, hi => by
    have hl := recs_list a D
    rcases Nat.lt_or_ge (rcB a).data.toList.length hi with hlt | hge
    · obtain ⟨h2, rfl⟩ : ∃ h2, hi = (rcB a).data.toList.length + 1 + h2 := ⟨hi - ((rcB a).data.toList.length + 1), by omega⟩
      obtain ⟨j, q, i1, i2, i3, i4, i5⟩ := recs_cut D (fun b hb => h b (List.mem_cons_of_mem _ hb)) junk hj h2
      refine ⟨j + 1, q, by rw [List.length_cons]; omega, ?_, i3, ?_, ?_⟩
      · rw [List.take_succ_cons, hl, recs_list a (D.take j), List.append_assoc, List.cons_append, List.take_append, List.take_of_length_le (by omega), show (rcB a).data.toList.length + 1 + h2 - (rcB a).data.toList.length = h2 + 1 by omega, List.take_succ_cons, i2]
        simp
      · rw [List.take_succ_cons, recs_cons_size]; omega
      · intro j' h1 h3
        obtain ⟨j2, rfl⟩ : ∃ j2, j' = j2 + 1 := ⟨j' - 1, by omega⟩
        have := i5 j2 (by omega) (by rw [List.length_cons] at h3; omega)
        rw [List.take_succ_cons, recs_cons_size]; omega
    · refine ⟨0, (rcB a).data.toList.take hi, Nat.zero_le _, ?_, fun b hb => rc_no10 (h a (by simp)) b (List.mem_of_mem_take hb), Nat.zero_le _, ?_⟩
      · rw [hl, List.append_assoc, List.take_append, show hi - (rcB a).data.toList.length = 0 by omega]
        simp [recs]
      · intro j' h1 h3
        obtain ⟨j2, rfl⟩ : ∃ j2, j' = j2 + 1 := ⟨j' - 1, by omega⟩
        rw [List.take_succ_cons, recs_cons_size]; omega
/-- records end with an end of a line -/
theorem recs_end (D : List Ak) : (recs D).data.toList = [] ∨ ∃ r, (recs D).data.toList = r ++ [10] := by
  rcases List.eq_nil_or_concat D with rfl | ⟨E, a, rfl⟩
  · exact .inl rfl
  · refine .inr ⟨(recs E).data.toList ++ (rcB a).data.toList, ?_⟩
    rw [List.concat_eq_append, recs_snoc, ByteArray.data_append, Array.toList_append, rec_app, List.append_assoc]
/-- the place behind the last end of a line -/
theorem last_end {r q : List UInt8} (hr : r = [] ∨ ∃ r', r = r' ++ [10]) (hq : ∀ b ∈ q, b ≠ 10) : (∀ i : Nat, (r ++ q)[i]? = some 10 → (∀ k, i < k → (r ++ q)[k]? ≠ some 10) → i + 1 = r.length) ∧ ((∀ k : Nat, (r ++ q)[k]? ≠ some 10) → r = []) := by
  refine ⟨fun i h1 h2 => ?_, fun h => ?_⟩
  · have hlt : i < r.length := by
      rcases Nat.lt_or_ge i r.length with h | h
      · exact h
      · rw [List.getElem?_append_right h] at h1
        exact absurd rfl (hq 10 (List.mem_of_getElem? h1))
    rcases hr with rfl | ⟨r', rfl⟩
    · simp at hlt
    · rcases Nat.lt_or_ge i r'.length with h | h
      · refine absurd ?_ (h2 r'.length h)
        rw [List.append_assoc, List.getElem?_append_right (Nat.le_refl _)]
        simp
      · rw [List.length_append] at hlt ⊢
        simp at hlt ⊢
        omega
  · rcases hr with rfl | ⟨r', rfl⟩
    · rfl
    · refine absurd ?_ (h r'.length)
      rw [List.append_assoc, List.getElem?_append_right (Nat.le_refl _)]
      simp
end Go.Proofs.YtfelefkmbbfdjaaGreatDoor
