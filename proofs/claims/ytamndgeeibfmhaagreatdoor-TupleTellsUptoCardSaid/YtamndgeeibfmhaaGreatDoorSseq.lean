/- strings.SplitSeq at a byte: what its iterator gives. -/
import Derived.Test.YtamndgeeibfmhaaGreatDoorPcs
import Derived.Test.YtamndgeeibfmhaaGreatDoorRgM
import Derived.Test.YtamndgeeibfmhaaGreatDoorChs
import Derived.Test.YtamndgeeibfmhaaGreatDoorShelf
import Derived.Outline
namespace Go.Proofs.YtamndgeeibfmhaaGreatDoor
open Go.RowKit
set_option linter.unusedVariables false
attribute [local go_sem] Oper.semAt_some

/-- the text in a box -/
def strAt (w : World) (b : Nat) : Nat := match w.cell? ⟨b, 0, none⟩ with
  | some (.string t) => t.size + 1
  | _ => 0
theorem strAt_of {w : World} {b : Nat} {t : ByteArray} (h : w.cell? ⟨b, 0, none⟩ = some (.string t)) : strAt w b = t.size + 1 := by rw [strAt, h]
set_option maxHeartbeats 2000000 in
set_option maxRecDepth 100000 in
theorem split1_in (n : Nat) (hn : 1 ≤ n) (b1 b2 b3 : Nat) (h12 : b1 ≠ b2) (h32 : b3 ≠ b2) (c : UInt8) (s : ByteArray) (hs : s.size ≤ 140737488351232) (w : World)
    (h1 : AtB w b1 #[.string ⟨#[c]⟩] 9) (h2 : AtB w b2 #[.string s] 9) (h3 : AtB w b3 #[.int .i64 0] 3) :
    SeqM n Tryz.prog 48 #[.pointer (some ⟨b1, 0, none⟩), .pointer (some ⟨b2, 0, none⟩), .pointer (some ⟨b3, 0, none⟩)] (fun b => b = b1 ∨ b = b2 ∨ b = b3) (pcsB c s) w := by
  intro l J Jx W hk hsz hJ hJx hY h0
  have a1 : AtB W b1 #[.string ⟨#[c]⟩] 9 := h1.stay (hk b1 (.inl rfl))
  have a2 : AtB W b2 #[.string s] 9 := h2.stay (hk b2 (.inr (.inl rfl)))
  have a3 : AtB W b3 #[.int .i64 0] 3 := h3.stay (hk b3 (.inr (.inr rfl)))
  have x1 := a1.cell (i := 0) (v := .string ⟨#[c]⟩) rfl
  have ci := fun (t : ByteArray) (W : World) => (Tryz.strings_Index_one t c W).mono (R' := fun e w' => e = .returned (.int .i64 (Lib.indexByte t.data.toList c)) ∧ W = w') fun e w' ⟨q1, q2⟩ => ⟨q1, q2.symm⟩
  have CI := Lib.hid ci; have HY := Lib.hid hY; have HJ := Lib.hid hJ; have HJX := Lib.hid hJx; have H0 := Lib.hid h0
  obtain ⟨xs, hxs⟩ : ∃ xs, xs = pcsB c s := ⟨_, rfl⟩
  rw [← hxs] at HY ⊢
  have HXS := Lib.hid hxs
  have A1 := Lib.hid a1; have A2 := Lib.hid a2; have A3 := Lib.hid a3
  clear ci hY hJ hJx h0 hxs h1 h2 h3 hk a1 a2 a3
  refine callsIn_of_wp Tryz.func48 rfl trivial ?_ rfl
  simp only [Tryz.ntmps48, List.size_toArray, List.length_cons, List.length_nil, Nat.reduceAdd, Nat.reduceSub, Array.replicate_succ, Array.replicate_zero, List.push_toArray, List.append_toArray, List.nil_append, List.cons_append]
  gi_wp2
  gi_loopw [7, 8] (fun _ _ wr => ∃ (k : Nat) (t : ByteArray), t.size ≤ 140737488351232 ∧ Hid (xs.drop k = pcsB c t) ∧ Hid (AtB wr b1 #[.string ⟨#[c]⟩] 9) ∧ Hid (AtB wr b2 #[.string t] 9) ∧ Hid (AtB wr b3 #[.int .i64 0] 3) ∧ Hid (J k wr)) (fun _ _ wr => strAt wr b2)
  case atStart => exact ⟨0, s, hs, Lib.hid (by rw [HXS.out]; rfl), A1, A2, A3, H0⟩
  case round =>
    obtain ⟨k, t, ht, HD, B1, B2, B3, HJK⟩ := hrel
    have y1 := B1.out.cell (i := 0) (v := .string ⟨#[c]⟩) rfl
    have y2 := B2.out.cell (i := 0) (v := .string t) rfl
    have y3 := B3.out.cell (i := 0) (v := .int .i64 0) rfl
    have HST := Lib.hid (strAt_of y2)
    have ci := CI.out t
    rcases idx_cases t c with e | ⟨i, e⟩
    · rw [e] at ci
      have hp := pcsB_none e
      have hd := HD.out
      rw [hp] at hd
      have hx : xs[k]? = some t := by
        have := congrArg (fun l => l[0]?) hd
        simpa [List.getElem?_drop] using this
      have hl : k + 1 = xs.length := by
        have := congrArg List.length hd
        rw [List.length_drop] at this
        simp at this
        omega
      obtain ⟨fn, tmps, assign, body, hy, hR⟩ := HY.out k t wr hx HJK.out
      have CI1 := Lib.hid ci; have HR := Lib.hid hR; have HL := Lib.hid hl
      clear ci e hp hd hx hR hl
      gi_wp2_with (refine ⟨trivial, ?_⟩; gi_at_call 50; refine (callsIn_wide.2 (CI1.out _)).mono ?_; rintro e w' ⟨rfl, rfl⟩)
      refine HR.out.mono ?_
      rintro e W3 (⟨rfl, hJ3, hk3⟩ | ⟨rfl, hJx3⟩)
      · gi_wp2
        go_end0
        exact ⟨⟨_, rfl⟩, .inl (by rw [← HL.out]; exact hJ3)⟩
      · gi_wp2
        go_end0
        exact ⟨⟨_, rfl⟩, .inr ⟨_, hJx3⟩⟩
    · rw [e] at ci
      obtain ⟨hi, hp⟩ := pcsB_some e
      have hd := HD.out
      rw [hp] at hd
      have hx : xs[k]? = some (t.extract 0 i) := by
        have := congrArg (fun l => l[0]?) hd
        simpa [List.getElem?_drop] using this
      have hn2 : xs.drop (k + 1) = pcsB c (t.extract (i + 1) t.size) := by
        have := congrArg List.tail hd
        simpa [List.tail_drop] using this
      obtain ⟨fn, tmps, assign, body, hy, hR⟩ := HY.out k _ wr hx HJK.out
      have CI1 := Lib.hid ci; have HR := Lib.hid hR; have HN := Lib.hid hn2
      have i0 : (0 : Int) ≤ (i : Int) := by omega
      have i1 : (i : Int) < (t.size : Int) := by omega
      clear ci e hp hd hx hR hn2
      gi_wp2_with (refine ⟨trivial, ?_⟩; gi_at_call 50; refine (callsIn_wide.2 (CI1.out _)).mono ?_; rintro e w' ⟨rfl, rfl⟩)
      refine HR.out.mono ?_
      rintro e W3 (⟨rfl, hJ3, hk3⟩ | ⟨rfl, hJx3⟩)
      · have d1 := B1.out.stay (hk3 b1 (.inl rfl))
        have d2 := B2.out.stay (hk3 b2 (.inr (.inl rfl)))
        have d3 := B3.out.stay (hk3 b3 (.inr (.inr rfl)))
        have z1 := d1.cell (i := 0) (v := .string ⟨#[c]⟩) rfl
        have z2 := d2.cell (i := 0) (v := .string t) rfl
        have z2f := d2.frozen 0
        have D1 := Lib.hid (d1.far (p := ⟨b2, 0, none⟩) h12 (.string (t.extract (i + 1) t.size)))
        have D3 := Lib.hid (d3.far (p := ⟨b2, 0, none⟩) h32 (.string (t.extract (i + 1) t.size)))
        have hd2 := d2.set 0 (.string (t.extract (i + 1) t.size))
        rw [show (#[Value.string t].setIfInBounds 0 (.string (t.extract (i + 1) t.size))) = #[.string (t.extract (i + 1) t.size)] from rfl] at hd2
        have D2 := Lib.hid hd2
        have HJ3 := Lib.hid (HJ.out (k + 1) W3 _ (some b2) hJ3 (grownBy_setCell' W3 b2 (.string (t.extract (i + 1) t.size))) (fun r e => by cases e; exact .inr (.inl rfl)))
        have hm := strAt_of (hd2.cell (i := 0) (v := .string (t.extract (i + 1) t.size)) rfl)
        rw [ByteArray.size_extract] at hm
        have HM := Lib.hid hm
        clear d1 d2 d3 hJ3 hk3 hd2 hm
        gi_wp2
        go_roundw
        case rel => exact ⟨k + 1, t.extract (i + 1) t.size, by rw [ByteArray.size_extract]; omega, HN, D1, D2, D3, HJ3⟩
        case measure => rw [HM.out, HST.out]; omega
      · gi_wp2
        refine bodyPost_ret (results_none rfl _ _ _) rfl ?_
        exact ⟨⟨_, rfl⟩, .inr ⟨_, hJx3⟩⟩
/-- strings.SplitSeq at one byte -/
theorem split_any (s : ByteArray) (c : UInt8) (w : World) :
    Calls Tryz.prog 26 #[.string s, .string ⟨#[c]⟩] w fun e w' => e = .returned (.func (.func 48) #[] #[.pointer (some ⟨w.heap.size + 1, 0, none⟩), .pointer (some ⟨w.heap.size, 0, none⟩), .pointer (some ⟨w.heap.size + 1 + 1, 0, none⟩)]) ∧
      w' = ((w.alloc (.cells #[.string s] 9)).alloc (.cells #[.string ⟨#[c]⟩] 9)).alloc (.cells #[.int .i64 0] 3) := by
  go_enter Tryz.func26, Tryz.ntmps26
  go_wp2
  go_ret
  exact ⟨rfl, rfl⟩
end Go.Proofs.YtamndgeeibfmhaaGreatDoor
