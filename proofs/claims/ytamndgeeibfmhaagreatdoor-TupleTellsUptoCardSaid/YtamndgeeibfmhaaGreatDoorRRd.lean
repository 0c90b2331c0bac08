/- The reference's Read: what it returns. -/
import Derived.Test.YtamndgeeibfmhaaGreatDoorRdNum
import Derived.WalkKit
import Derived.WalkLawsBesides
import Derived.WalkSpells
import Derived.RegionTactic
import Derived.Outline
namespace Go.Proofs.YtamndgeeibfmhaaGreatDoor
open Go.RowKit
set_option linter.unusedVariables false

def v0 : Va := ⟨0, 0, ⟨#[]⟩⟩
/-- what a text is read as -/
def rdV (s : ByteArray) : Option Va :=
  if s = ⟨#[42]⟩ then some ⟨2, 0, ⟨#[]⟩⟩ else if s.data.toList.head? = some 58 then some ⟨1, 0, s.extract 1 s.size⟩ else (rdN s.data.toList).map fun n => ⟨0, n, ⟨#[]⟩⟩
/-- its fault -/
def rdE (s : ByteArray) : Int := match rdV s with
  | none => 2
  | some v => vaE v
/-- what is handed back -/
def rdR (s : ByteArray) : Va := match rdV s with
  | none => v0
  | some v => if vaE v = 0 then v else v0
theorem rd_none {s : ByteArray} (h : rdV s = none) : rdE s = 2 ∧ rdR s = v0 := by simp [rdE, rdR, h]
theorem rd_some {s : ByteArray} {v : Va} (h : rdV s = some v) : rdE s = vaE v ∧ rdR s = if vaE v = 0 then v else v0 := by simp [rdE, rdR, h]
theorem head_of {s : ByteArray} (h : 0 < s.size) : s.data.toList.head? = some s[0] := by
  cases s with
  | mk a =>
    cases a with
    | mk l =>
      cases l with
      | nil => exact absurd h (by simp [ByteArray.size])
      | cons x r => rfl
theorem head_none {s : ByteArray} (h : s.size = 0) : s.data.toList.head? = none := by
  cases s with
  | mk a =>
    cases a with
    | mk l =>
      cases l with
      | nil => rfl
      | cons x r => exact absurd h (by simp [ByteArray.size])
theorem byte_eq {c : UInt8} {n : Nat} (hn : n < 256) : c.toNat = n ↔ c = UInt8.ofNat n := by
  constructor
  · intro h; rw [← h]; simp
  · intro h; rw [h, UInt8.toNat_ofNat']; omega
theorem rdV_num {s : ByteArray} (h1 : s ≠ ⟨#[42]⟩) (h2 : s.size = 0 ∨ ∃ h : 0 < s.size, (s[0]'h).toNat ≠ 58) : rdV s = (rdN s.data.toList).map fun n => ⟨0, n, ⟨#[]⟩⟩ := by
  rw [rdV, if_neg h1, if_neg]
  rcases h2 with h | ⟨h, h3⟩
  · rw [head_none h]; simp
  · rw [head_of h]
    intro e
    simp only [Option.some.injEq] at e
    exact h3 (by rw [e]; rfl)
theorem rdV_text {s : ByteArray} (h1 : s ≠ ⟨#[42]⟩) (h : 0 < s.size) (h2 : s[0].toNat = 58) : rdV s = some ⟨1, 0, s.extract 1 s.size⟩ := by
  rw [rdV, if_neg h1, if_pos]
  rw [head_of h, (byte_eq (by decide)).1 h2]; rfl
theorem star_head {s : ByteArray} (h : 0 < s.size) (h2 : s[0].toNat ≠ 42) : s ≠ ⟨#[42]⟩ := by
  rintro rfl
  exact h2 rfl
/-- the digits behind the sign -/
def dgs (s : ByteArray) (q : Nat) : List UInt8 := s.data.toList.drop q
theorem dgs_len (s : ByteArray) (q : Nat) : (dgs s q).length = s.size - q := by
  unfold dgs
  rw [List.length_drop, Array.length_toList]
  rfl
theorem star_other {s : ByteArray} (h : s ≠ ⟨#[42]⟩) : (s.toList == [42]) = false := by
  rw [beq_eq_false_iff_ne, ByteArray.toList_eq]
  exact fun e => h (bytes_eq e)
theorem list_at {s : ByteArray} {i : Nat} (h : i < s.size) : s.data.toList[i]? = some s[i] := by
  have h2 : i < s.data.toList.length := by rw [Array.length_toList]; exact h
  rw [List.getElem?_eq_getElem h2]; rfl
theorem dgs_head {s : ByteArray} {q : Nat} (h : q < s.size) : (dgs s q).head? = some s[q] := by
  rw [dgs, List.head?_drop]
  exact list_at h
theorem dgs_at {s : ByteArray} {q i : Nat} (h : q + i < s.size) : (dgs s q)[i]? = some s[q + i] := by
  rw [dgs, List.getElem?_drop]
  exact list_at h
theorem rdN_plain {s : ByteArray} (h : s.size = 0 ∨ ∃ h : 0 < s.size, (s[0]'h).toNat ≠ 45) : rdN s.data.toList = if (dgs s 0).length < 1 ∨ 7 < (dgs s 0).length ∨ ((dgs s 0).head? = some 48 ∧ 1 < (dgs s 0).length) then none else (Lib.decFrom 0 (dgs s 0)).map fun (m : Nat) => (m : Int) := by
  rw [rdN, if_neg]
  · rfl
  · rcases h with h | ⟨h, h3⟩
    · rw [head_none h]; simp
    · rw [head_of h]
      intro e
      simp only [Option.some.injEq] at e
      exact h3 (by rw [e]; rfl)
theorem rdN_minus {s : ByteArray} (h : 0 < s.size) (h3 : s[0].toNat = 45) : rdN s.data.toList = if (dgs s 1).length < 1 ∨ 7 < (dgs s 1).length ∨ (dgs s 1).head? = some 48 then none else (Lib.decFrom 0 (dgs s 1)).map fun (m : Nat) => -(m : Int) := by
  rw [rdN, if_pos (by rw [head_of h, (byte_eq (by decide)).1 h3]; rfl), ← List.drop_one]
  rfl
theorem dec_take_succ {l : List UInt8} {i m : Nat} {c : UInt8} (h : Lib.decFrom 0 (l.take i) = some m) (hc : l[i]? = some c) (h1 : 48 ≤ c.toNat) (h2 : c.toNat ≤ 57) : Lib.decFrom 0 (l.take (i + 1)) = some (m * 10 + (c.toNat - 48)) :=
  Lib.decFrom_take l i 0 m c _ h hc (by rw [Lib.digitVal, if_pos ⟨h1, h2⟩])
theorem dec_bad : ∀ (l : List UInt8) (i acc : Nat) (c : UInt8), l[i]? = some c → Lib.digitVal c = none → Lib.decFrom acc l = none
  | [], i, acc, c, h, _ => by simp at h
  | a :: t, 0, acc, c, h, hd => by
    simp only [List.getElem?_cons_zero, Option.some.injEq] at h
    subst h
    simp [Lib.decFrom, hd]
  | a :: t, i + 1, acc, c, h, hd => by
    simp only [List.getElem?_cons_succ] at h
    simp only [Lib.decFrom]
    cases Lib.digitVal a with
    | none => rfl
    | some e => exact dec_bad t i _ c h hd
theorem dec_take_lt {l : List UInt8} {i m : Nat} (h : Lib.decFrom 0 (l.take i) = some m) (hi : i ≤ 7) : m < 10000000 := by
  have h1 := Lib.decFrom_lt (l.take i) 0 m h
  have hp : 10 ^ (l.take i).length ≤ 10 ^ 7 := Nat.pow_le_pow_right (by decide) (by rw [List.length_take]; omega)
  have e : (10 : Nat) ^ 7 = 10000000 := by decide
  omega
set_option maxHeartbeats 1600000 in
set_option maxRecDepth 100000 in
theorem rread_minus (s : ByteArray) (hs : s.size ≤ 140737488351232) (hsz : 0 < s.size) (h42 : s ≠ ⟨#[42]⟩) (h58 : s[0].toNat ≠ 58) (h45 : s[0].toNat = 45) (w : World) :
    Calls Tryz.prog 25 #[.string s] w fun e w' => e = .returned (.tuple #[.agg #[.int .i64 (rdR s).k, .int .i64 (rdR s).n, .string (rdR s).s], .int .i64 (rdE s)]) ∧ Below w.heap.size w w' := by
  have t1 := star_other h42
  have t2 : ((s[0].toNat : Int) == 58) = false := beq_eq_false_iff_ne.2 (by omega)
  have t3 : ((s[0].toNat : Int) == 45) = true := beq_iff_eq.2 (by omega)
  have hv := rdV_num h42 (.inr ⟨hsz, h58⟩)
  have hl := dgs_len s 1
  rw [rdN_minus hsz h45, hl] at hv
  by_cases k1 : s.size = 1
  · have c1 : decide ((s.size : Int) - 1 < 1) = true := by simp; omega
    have hv' : rdV s = none := by rw [hv, if_pos (.inl (by omega))]; rfl
    obtain ⟨r1, r2⟩ := rd_none hv'
    rw [r1, r2]
    clear hv hv' r1 r2 h42 h58 h45 hl
    go_enter Tryz.func25, Tryz.ntmps25
    go_wp2_with fail
    exact bodyPost_ret (v := .tuple #[.agg #[.int .i64 0, .int .i64 0, .string ⟨#[]⟩], .int .i64 2]) (by simp [results, Tryz.results25, go_sem]) rfl ⟨rfl, (by repeat (first | exact Below.refl _ _ | assumption | refine bal ?_ _ | refine bdn ?_ _ | refine bdr ?_ | refine bcl ?_ (by assumption)))⟩
  · have c1 : decide ((s.size : Int) - 1 < 1) = false := by simp; omega
    by_cases k2 : 7 < s.size - 1
    · have c2 : decide (7 < (s.size : Int) - 1) = true := by simp; omega
      have hv' : rdV s = none := by rw [hv, if_pos (.inr (.inl k2))]; rfl
      obtain ⟨r1, r2⟩ := rd_none hv'
      rw [r1, r2]
      clear hv hv' r1 r2 h42 h58 h45 hl
      go_enter Tryz.func25, Tryz.ntmps25
      go_wp2_with fail
      exact bodyPost_ret (v := .tuple #[.agg #[.int .i64 0, .int .i64 0, .string ⟨#[]⟩], .int .i64 2]) (by simp [results, Tryz.results25, go_sem]) rfl ⟨rfl, (by repeat (first | exact Below.refl _ _ | assumption | refine bal ?_ _ | refine bdn ?_ _ | refine bdr ?_ | refine bcl ?_ (by assumption)))⟩
    · have c2 : decide (7 < (s.size : Int) - 1) = false := by simp; omega
      have hq : 1 < s.size := by omega
      have hh := dgs_head hq
      by_cases k3 : s[1].toNat = 48
      · have c3 : ((s[1].toNat : Int) == 48) = true := beq_iff_eq.2 (by omega)
        have hv' : rdV s = none := by rw [hv, if_pos (.inr (.inr (by rw [hh, (byte_eq (by decide)).1 k3]; rfl)))]; rfl
        have c4 : decide (1 < (s.size : Int) - 1) = true ∨ decide (1 < (s.size : Int) - 1) = false := by cases decide (1 < (s.size : Int) - 1) <;> simp
        rcases c4 with c4 | c4
        all_goals
          obtain ⟨r1, r2⟩ := rd_none hv'
          rw [r1, r2]
          clear hv hv' r1 r2 h42 h58 h45 hl hh k3
          go_enter Tryz.func25, Tryz.ntmps25
          go_wp2_with fail
          exact bodyPost_ret (v := .tuple #[.agg #[.int .i64 0, .int .i64 0, .string ⟨#[]⟩], .int .i64 2]) (by simp [results, Tryz.results25, go_sem]) rfl ⟨rfl, (by repeat (first | exact Below.refl _ _ | assumption | refine bal ?_ _ | refine bdn ?_ _ | refine bdr ?_ | refine bcl ?_ (by assumption)))⟩
      · have c3 : ((s[1].toNat : Int) == 48) = false := beq_eq_false_iff_ne.2 (by omega)
        have hn : ¬ (s.size - 1 < 1 ∨ 7 < s.size - 1 ∨ (dgs s 1).head? = some 48) := by
          rintro (h | h | h)
          · omega
          · omega
          · rw [hh] at h
            simp only [Option.some.injEq] at h
            exact k3 (by rw [h]; rfl)
        rw [if_neg hn] at hv
        have HV := Lib.hid hv; have H42 := Lib.hid h42
        have k7 : s.size - 1 ≤ 7 := by omega
        clear hv h42 hl hh hn k3
        go_enter Tryz.func25, Tryz.ntmps25
        go_wp2_with fail
        go_loopw [8, 9] (fun m i wr => ∃ (j : Nat) (n : Nat), 1 ≤ j ∧ j ≤ s.size ∧ i = .int .i64 j ∧ m = .int .i64 n ∧ n < 10000000 ∧ Hid (Lib.decFrom 0 ((dgs s 1).take (j - 1)) = some n) ∧ Hid (wr = (w.alloc (.cells #[.int .i64 0, .int .i64 0, .string ⟨#[]⟩] 41)).alloc (.cells #[.int .i64 0, .int .i64 0, .string ⟨#[]⟩] 41))) (fun _ i _ => s.size - (intOf i).toNat)
        case atStart => exact ⟨1, 0, by omega, by omega, rfl, rfl, by omega, rfl, rfl⟩
        case round =>
          obtain ⟨j, n, hj0, hj, rfl, rfl, hn7, HD, HW⟩ := hrel
          have hw := HW.out
          subst hw
          clear HW
          by_cases hlt : j < s.size
          · have hc := list_at hlt
            have hat : (dgs s 1)[j - 1]? = some s[j] := by rw [dgs, List.getElem?_drop, show 1 + (j - 1) = j by omega]; exact hc
            have hb := (s[j]'hlt).toNat_lt
            by_cases h5 : ((s[j]'hlt).toNat : Int) < 48
            · have hbd := dec_bad _ _ 0 _ hat (by unfold Lib.digitVal; rw [if_neg (by omega)])
              have hv' : rdV s = none := by rw [HV.out, hbd]; rfl
              obtain ⟨r1, r2⟩ := rd_none hv'
              have R1 := Lib.hid r1; have R2 := Lib.hid r2
              clear hv' r1 r2 hbd hat hc hb
              go_wp2_with fail
              rw [R1.out, R2.out]
              exact bodyPost_ret (v := .tuple #[.agg #[.int .i64 0, .int .i64 0, .string ⟨#[]⟩], .int .i64 2]) (by simp [results, Tryz.results25, go_sem]) rfl ⟨rfl, (by repeat (first | exact Below.refl _ _ | assumption | refine bal ?_ _ | refine bdn ?_ _ | refine bdr ?_ | refine bcl ?_ (by assumption)))⟩
            · by_cases h6 : 57 < ((s[j]'hlt).toNat : Int)
              · have hbd := dec_bad _ _ 0 _ hat (by unfold Lib.digitVal; rw [if_neg (by omega)])
                have hv' : rdV s = none := by rw [HV.out, hbd]; rfl
                obtain ⟨r1, r2⟩ := rd_none hv'
                have R1 := Lib.hid r1; have R2 := Lib.hid r2
                clear hv' r1 r2 hbd hat hc hb
                go_wp2_with fail
                rw [R1.out, R2.out]
                exact bodyPost_ret (v := .tuple #[.agg #[.int .i64 0, .int .i64 0, .string ⟨#[]⟩], .int .i64 2]) (by simp [results, Tryz.results25, go_sem]) rfl ⟨rfl, (by repeat (first | exact Below.refl _ _ | assumption | refine bal ?_ _ | refine bdn ?_ _ | refine bdr ?_ | refine bcl ?_ (by assumption)))⟩
              · have hd := dec_take_succ HD.out hat (by omega) (by omega)
                rw [show j - 1 + 1 = j + 1 - 1 by omega] at hd
                have hlt7 := dec_take_lt hd (by omega)
                have HD2 := Lib.hid hd; have HL7 := Lib.hid hlt7; have HB := Lib.hid hb
                have n0 : (0 : Int) ≤ (n : Int) := by omega
                have n1 : (n : Int) < 10000000 := by omega
                have hcw : IntKind.i64.wrap ((s[j]'hlt).toNat : Int) = ((s[j]'hlt).toNat : Int) := by rw [IntKind.wrap_i64]; omega
                have b0 : ((s[j]'hlt).toNat : Int) ≤ 255 := by omega
                clear hd hlt7 hat hc hb
                go_wp2_with fail
                go_roundw
                case rel => exact ⟨j + 1, n * 10 + ((s[j]'hlt).toNat - 48), by omega, by omega, by go_num, by show Value.int .i64 _ = _; congr 1; omega, HL7.out, HD2, by first | rfl | trivial⟩
                case measure => simp [intOf]; omega
          · obtain rfl : j = s.size := by omega
            have hd := HD.out
            rw [List.take_of_length_le (by rw [dgs_len]; omega)] at hd
            have hv' : rdV s = some ⟨0, -(n : Int), ⟨#[]⟩⟩ := by rw [HV.out, hd]; rfl
            obtain ⟨r1, r2⟩ := rd_some hv'
            have cv := fun W => rvalue_any 0 (-(n : Int)) ⟨#[]⟩ (by decide) W
            by_cases he : vaE ⟨0, -(n : Int), ⟨#[]⟩⟩ = 0
            · rw [he] at r1 cv
              rw [if_pos he] at r2
              have R1 := Lib.hid r1; have R2 := Lib.hid r2
              have CV := Lib.hid cv
              have n1 : (n : Int) < 10000000 := by omega
              clear hd hv' r1 r2 cv he
              go_wp2_with fail
              refine (CV.out _).mono ?_
              rintro e w1 ⟨rfl, hb1⟩
              have p0 : w1.cell? ⟨w.heap.size, 0, none⟩ = some (.int .i64 0) := (hb1.cell (p := ⟨w.heap.size, 0, none⟩) (by simp; omega)).trans (by simp)
              have f0 : w1.frozen? ⟨w.heap.size, 0, none⟩ = false := (hb1.frozen (p := ⟨w.heap.size, 0, none⟩) (by simp; omega)).trans (by simp)
              have r0 : w1.cell? ⟨w.heap.size + 1, 0, none⟩ = some (.int .i64 0) := (hb1.cell (p := ⟨w.heap.size + 1, 0, none⟩) (by simp)).trans (by simp)
              have p1 : w1.cell? ⟨w.heap.size, 1, none⟩ = some (.int .i64 0) := (hb1.cell (p := ⟨w.heap.size, 1, none⟩) (by simp; omega)).trans (by simp)
              have f1 : w1.frozen? ⟨w.heap.size, 1, none⟩ = false := (hb1.frozen (p := ⟨w.heap.size, 1, none⟩) (by simp; omega)).trans (by simp)
              have r1 : w1.cell? ⟨w.heap.size + 1, 1, none⟩ = some (.int .i64 (-(n : Int))) := (hb1.cell (p := ⟨w.heap.size + 1, 1, none⟩) (by simp)).trans (by simp)
              have p2 : w1.cell? ⟨w.heap.size, 2, none⟩ = some (.string ⟨#[]⟩) := (hb1.cell (p := ⟨w.heap.size, 2, none⟩) (by simp; omega)).trans (by simp)
              have f2 : w1.frozen? ⟨w.heap.size, 2, none⟩ = false := (hb1.frozen (p := ⟨w.heap.size, 2, none⟩) (by simp; omega)).trans (by simp)
              have r2 : w1.cell? ⟨w.heap.size + 1, 2, none⟩ = some (.string ⟨#[]⟩) := (hb1.cell (p := ⟨w.heap.size + 1, 2, none⟩) (by simp)).trans (by simp)
              have hbw : Below w.heap.size w w1 := bcl (bal (bal1 _ _) _) hb1
              clear t1 t2 t3 c1 c2 c3 h58 h45
              go_wp2_with fail
              rw [R1.out, R2.out]
              exact bodyPost_ret (v := .tuple #[.agg #[.int .i64 0, .int .i64 (-(n : Int)), .string ⟨#[]⟩], .int .i64 0]) (by simp [results, Tryz.results25, go_sem, p0, p1, p2]) rfl ⟨rfl, by first | exact hbw | exact ((hbw.setCell (Nat.le_refl _) _).setCell (Nat.le_refl _) _).setCell (Nat.le_refl _) _⟩
            · rw [if_neg he] at r2
              have q1 : (vaE ⟨0, -(n : Int), ⟨#[]⟩⟩ != 0) = true := by rw [bne_iff_ne]; exact he
              generalize vaE ⟨0, -(n : Int), ⟨#[]⟩⟩ = E at *
              have R1 := Lib.hid r1; have R2 := Lib.hid r2
              have CV := Lib.hid cv
              have n1 : (n : Int) < 10000000 := by omega
              clear hd hv' r1 r2 cv he
              go_wp2_with fail
              refine (CV.out _).mono ?_
              rintro e w1 ⟨rfl, hb1⟩
              have p0 : w1.cell? ⟨w.heap.size, 0, none⟩ = some (.int .i64 0) := (hb1.cell (p := ⟨w.heap.size, 0, none⟩) (by simp; omega)).trans (by simp)
              have f0 : w1.frozen? ⟨w.heap.size, 0, none⟩ = false := (hb1.frozen (p := ⟨w.heap.size, 0, none⟩) (by simp; omega)).trans (by simp)
              have r0 : w1.cell? ⟨w.heap.size + 1, 0, none⟩ = some (.int .i64 0) := (hb1.cell (p := ⟨w.heap.size + 1, 0, none⟩) (by simp)).trans (by simp)
              have p1 : w1.cell? ⟨w.heap.size, 1, none⟩ = some (.int .i64 0) := (hb1.cell (p := ⟨w.heap.size, 1, none⟩) (by simp; omega)).trans (by simp)
              have f1 : w1.frozen? ⟨w.heap.size, 1, none⟩ = false := (hb1.frozen (p := ⟨w.heap.size, 1, none⟩) (by simp; omega)).trans (by simp)
              have r1 : w1.cell? ⟨w.heap.size + 1, 1, none⟩ = some (.int .i64 (-(n : Int))) := (hb1.cell (p := ⟨w.heap.size + 1, 1, none⟩) (by simp)).trans (by simp)
              have p2 : w1.cell? ⟨w.heap.size, 2, none⟩ = some (.string ⟨#[]⟩) := (hb1.cell (p := ⟨w.heap.size, 2, none⟩) (by simp; omega)).trans (by simp)
              have f2 : w1.frozen? ⟨w.heap.size, 2, none⟩ = false := (hb1.frozen (p := ⟨w.heap.size, 2, none⟩) (by simp; omega)).trans (by simp)
              have r2 : w1.cell? ⟨w.heap.size + 1, 2, none⟩ = some (.string ⟨#[]⟩) := (hb1.cell (p := ⟨w.heap.size + 1, 2, none⟩) (by simp)).trans (by simp)
              have hbw : Below w.heap.size w w1 := bcl (bal (bal1 _ _) _) hb1
              clear t1 t2 t3 c1 c2 c3 h58 h45
              go_wp2_with fail
              rw [R1.out, R2.out]
              exact bodyPost_ret (v := .tuple #[.agg #[.int .i64 0, .int .i64 0, .string ⟨#[]⟩], .int .i64 E]) (by simp [results, Tryz.results25, go_sem, p0, p1, p2]) rfl ⟨rfl, by first | exact hbw | exact ((hbw.setCell (Nat.le_refl _) _).setCell (Nat.le_refl _) _).setCell (Nat.le_refl _) _⟩
set_option maxHeartbeats 1600000 in
set_option maxRecDepth 100000 in
theorem rread_plain (s : ByteArray) (hs : s.size ≤ 140737488351232) (hsz : 0 < s.size) (h42 : s ≠ ⟨#[42]⟩) (h58 : s[0].toNat ≠ 58) (h45 : s[0].toNat ≠ 45) (w : World) :
    Calls Tryz.prog 25 #[.string s] w fun e w' => e = .returned (.tuple #[.agg #[.int .i64 (rdR s).k, .int .i64 (rdR s).n, .string (rdR s).s], .int .i64 (rdE s)]) ∧ Below w.heap.size w w' := by
  have t1 := star_other h42
  have t2 : ((s[0].toNat : Int) == 58) = false := beq_eq_false_iff_ne.2 (by omega)
  have t3 : ((s[0].toNat : Int) == 45) = false := beq_eq_false_iff_ne.2 (by omega)
  have hv := rdV_num h42 (.inr ⟨hsz, h58⟩)
  have hl := dgs_len s 0
  rw [rdN_plain (.inr ⟨hsz, h45⟩), hl] at hv
  · have c1 : decide ((s.size : Int) < 1) = false := by simp; omega
    by_cases k2 : 7 < s.size - 0
    · have c2 : decide (7 < (s.size : Int)) = true := by simp; omega
      have hv' : rdV s = none := by rw [hv, if_pos (.inr (.inl k2))]; rfl
      obtain ⟨r1, r2⟩ := rd_none hv'
      rw [r1, r2]
      clear hv hv' r1 r2 h42 h58 h45 hl
      go_enter Tryz.func25, Tryz.ntmps25
      go_wp2_with fail
      exact bodyPost_ret (v := .tuple #[.agg #[.int .i64 0, .int .i64 0, .string ⟨#[]⟩], .int .i64 2]) (by simp [results, Tryz.results25, go_sem]) rfl ⟨rfl, (by repeat (first | exact Below.refl _ _ | assumption | refine bal ?_ _ | refine bdn ?_ _ | refine bdr ?_ | refine bcl ?_ (by assumption)))⟩
    · have c2 : decide (7 < (s.size : Int)) = false := by simp; omega
      have hq : 0 < s.size := by omega
      have hh := dgs_head hq
      by_cases k3 : s[0].toNat = 48 ∧ 1 < s.size
      · have c3 : ((s[0].toNat : Int) == 48) = true := beq_iff_eq.2 (by omega)
        have c4 : decide (1 < (s.size : Int)) = true := by simp; omega
        have hv' : rdV s = none := by rw [hv, if_pos (.inr (.inr ⟨by rw [hh, (byte_eq (by decide)).1 k3.1]; rfl, by omega⟩))]; rfl
        obtain ⟨r1, r2⟩ := rd_none hv'
        rw [r1, r2]
        clear hv hv' r1 r2 h42 h58 h45 hl hh k3
        go_enter Tryz.func25, Tryz.ntmps25
        go_wp2_with fail
        exact bodyPost_ret (v := .tuple #[.agg #[.int .i64 0, .int .i64 0, .string ⟨#[]⟩], .int .i64 2]) (by simp [results, Tryz.results25, go_sem]) rfl ⟨rfl, (by repeat (first | exact Below.refl _ _ | assumption | refine bal ?_ _ | refine bdn ?_ _ | refine bdr ?_ | refine bcl ?_ (by assumption)))⟩
      · have hn : ¬ (s.size - 0 < 1 ∨ 7 < s.size - 0 ∨ ((dgs s 0).head? = some 48 ∧ 1 < s.size - 0)) := by
          rintro (h | h | ⟨h, h2⟩)
          · omega
          · omega
          · rw [hh] at h
            simp only [Option.some.injEq] at h
            exact k3 ⟨by rw [h]; rfl, by omega⟩
        have c34 : (((s[0].toNat : Int) == 48) = true ∧ decide (1 < (s.size : Int)) = false) ∨ ((s[0].toNat : Int) == 48) = false := by
          by_cases e : s[0].toNat = 48
          · exact .inl ⟨beq_iff_eq.2 (by omega), by simp; omega⟩
          · exact .inr (beq_eq_false_iff_ne.2 (by omega))
        rcases c34 with ⟨c3, c4⟩ | c3
        all_goals
          rw [if_neg hn] at hv
          have HV := Lib.hid hv; have H42 := Lib.hid h42
          have k7 : s.size - 0 ≤ 7 := by omega
          clear hv h42 hl hh hn k3
          go_enter Tryz.func25, Tryz.ntmps25
          go_wp2_with fail
          go_loopw [8, 9] (fun m i wr => ∃ (j : Nat) (n : Nat), 0 ≤ j ∧ j ≤ s.size ∧ i = .int .i64 j ∧ m = .int .i64 n ∧ n < 10000000 ∧ Hid (Lib.decFrom 0 ((dgs s 0).take (j - 0)) = some n) ∧ Hid (wr = (w.alloc (.cells #[.int .i64 0, .int .i64 0, .string ⟨#[]⟩] 41)).alloc (.cells #[.int .i64 0, .int .i64 0, .string ⟨#[]⟩] 41))) (fun _ i _ => s.size - (intOf i).toNat)
          case atStart => exact ⟨0, 0, by omega, by omega, rfl, rfl, by omega, rfl, rfl⟩
          case round =>
            obtain ⟨j, n, hj0, hj, rfl, rfl, hn7, HD, HW⟩ := hrel
            have hw := HW.out
            subst hw
            clear HW
            by_cases hlt : j < s.size
            · have hc := list_at hlt
              have hat : (dgs s 0)[j - 0]? = some s[j] := by rw [dgs, List.getElem?_drop, show 0 + (j - 0) = j by omega]; exact hc
              have hb := (s[j]'hlt).toNat_lt
              by_cases h5 : ((s[j]'hlt).toNat : Int) < 48
              · have hbd := dec_bad _ _ 0 _ hat (by unfold Lib.digitVal; rw [if_neg (by omega)])
                have hv' : rdV s = none := by rw [HV.out, hbd]; rfl
                obtain ⟨r1, r2⟩ := rd_none hv'
                have R1 := Lib.hid r1; have R2 := Lib.hid r2
                clear hv' r1 r2 hbd hat hc hb
                go_wp2_with fail
                rw [R1.out, R2.out]
                exact bodyPost_ret (v := .tuple #[.agg #[.int .i64 0, .int .i64 0, .string ⟨#[]⟩], .int .i64 2]) (by simp [results, Tryz.results25, go_sem]) rfl ⟨rfl, (by repeat (first | exact Below.refl _ _ | assumption | refine bal ?_ _ | refine bdn ?_ _ | refine bdr ?_ | refine bcl ?_ (by assumption)))⟩
              · by_cases h6 : 57 < ((s[j]'hlt).toNat : Int)
                · have hbd := dec_bad _ _ 0 _ hat (by unfold Lib.digitVal; rw [if_neg (by omega)])
                  have hv' : rdV s = none := by rw [HV.out, hbd]; rfl
                  obtain ⟨r1, r2⟩ := rd_none hv'
                  have R1 := Lib.hid r1; have R2 := Lib.hid r2
                  clear hv' r1 r2 hbd hat hc hb
                  go_wp2_with fail
                  rw [R1.out, R2.out]
                  exact bodyPost_ret (v := .tuple #[.agg #[.int .i64 0, .int .i64 0, .string ⟨#[]⟩], .int .i64 2]) (by simp [results, Tryz.results25, go_sem]) rfl ⟨rfl, (by repeat (first | exact Below.refl _ _ | assumption | refine bal ?_ _ | refine bdn ?_ _ | refine bdr ?_ | refine bcl ?_ (by assumption)))⟩
                · have hd := dec_take_succ HD.out hat (by omega) (by omega)
                  rw [show j - 0 + 1 = j + 1 - 0 by omega] at hd
                  have hlt7 := dec_take_lt hd (by omega)
                  have HD2 := Lib.hid hd; have HL7 := Lib.hid hlt7; have HB := Lib.hid hb
                  have n0 : (0 : Int) ≤ (n : Int) := by omega
                  have n1 : (n : Int) < 10000000 := by omega
                  have hcw : IntKind.i64.wrap ((s[j]'hlt).toNat : Int) = ((s[j]'hlt).toNat : Int) := by rw [IntKind.wrap_i64]; omega
                  have b0 : ((s[j]'hlt).toNat : Int) ≤ 255 := by omega
                  clear hd hlt7 hat hc hb
                  go_wp2_with fail
                  go_roundw
                  case rel => exact ⟨j + 1, n * 10 + ((s[j]'hlt).toNat - 48), by omega, by omega, by go_num, by show Value.int .i64 _ = _; congr 1; omega, HL7.out, HD2, by first | rfl | trivial⟩
                  case measure => simp [intOf]; omega
            · obtain rfl : j = s.size := by omega
              have hd := HD.out
              rw [List.take_of_length_le (by rw [dgs_len]; omega)] at hd
              have hv' : rdV s = some ⟨0, (n : Int), ⟨#[]⟩⟩ := by rw [HV.out, hd]; rfl
              obtain ⟨r1, r2⟩ := rd_some hv'
              have cv := fun W => rvalue_any 0 ((n : Int)) ⟨#[]⟩ (by decide) W
              by_cases he : vaE ⟨0, (n : Int), ⟨#[]⟩⟩ = 0
              · rw [he] at r1 cv
                rw [if_pos he] at r2
                have R1 := Lib.hid r1; have R2 := Lib.hid r2
                have CV := Lib.hid cv
                have n1 : (n : Int) < 10000000 := by omega
                clear hd hv' r1 r2 cv he
                go_wp2_with fail
                refine (CV.out _).mono ?_
                rintro e w1 ⟨rfl, hb1⟩
                have p0 : w1.cell? ⟨w.heap.size, 0, none⟩ = some (.int .i64 0) := (hb1.cell (p := ⟨w.heap.size, 0, none⟩) (by simp; omega)).trans (by simp)
                have f0 : w1.frozen? ⟨w.heap.size, 0, none⟩ = false := (hb1.frozen (p := ⟨w.heap.size, 0, none⟩) (by simp; omega)).trans (by simp)
                have r0 : w1.cell? ⟨w.heap.size + 1, 0, none⟩ = some (.int .i64 0) := (hb1.cell (p := ⟨w.heap.size + 1, 0, none⟩) (by simp)).trans (by simp)
                have p1 : w1.cell? ⟨w.heap.size, 1, none⟩ = some (.int .i64 0) := (hb1.cell (p := ⟨w.heap.size, 1, none⟩) (by simp; omega)).trans (by simp)
                have f1 : w1.frozen? ⟨w.heap.size, 1, none⟩ = false := (hb1.frozen (p := ⟨w.heap.size, 1, none⟩) (by simp; omega)).trans (by simp)
                have r1 : w1.cell? ⟨w.heap.size + 1, 1, none⟩ = some (.int .i64 ((n : Int))) := (hb1.cell (p := ⟨w.heap.size + 1, 1, none⟩) (by simp)).trans (by simp)
                have p2 : w1.cell? ⟨w.heap.size, 2, none⟩ = some (.string ⟨#[]⟩) := (hb1.cell (p := ⟨w.heap.size, 2, none⟩) (by simp; omega)).trans (by simp)
                have f2 : w1.frozen? ⟨w.heap.size, 2, none⟩ = false := (hb1.frozen (p := ⟨w.heap.size, 2, none⟩) (by simp; omega)).trans (by simp)
                have r2 : w1.cell? ⟨w.heap.size + 1, 2, none⟩ = some (.string ⟨#[]⟩) := (hb1.cell (p := ⟨w.heap.size + 1, 2, none⟩) (by simp)).trans (by simp)
                have hbw : Below w.heap.size w w1 := bcl (bal (bal1 _ _) _) hb1
                clear t1 t2 t3 c1 c2 c3 h58 h45
                go_wp2_with fail
                rw [R1.out, R2.out]
                exact bodyPost_ret (v := .tuple #[.agg #[.int .i64 0, .int .i64 ((n : Int)), .string ⟨#[]⟩], .int .i64 0]) (by simp [results, Tryz.results25, go_sem, p0, p1, p2]) rfl ⟨rfl, by first | exact hbw | exact ((hbw.setCell (Nat.le_refl _) _).setCell (Nat.le_refl _) _).setCell (Nat.le_refl _) _⟩
              · rw [if_neg he] at r2
                have q1 : (vaE ⟨0, (n : Int), ⟨#[]⟩⟩ != 0) = true := by rw [bne_iff_ne]; exact he
                generalize vaE ⟨0, (n : Int), ⟨#[]⟩⟩ = E at *
                have R1 := Lib.hid r1; have R2 := Lib.hid r2
                have CV := Lib.hid cv
                have n1 : (n : Int) < 10000000 := by omega
                clear hd hv' r1 r2 cv he
                go_wp2_with fail
                refine (CV.out _).mono ?_
                rintro e w1 ⟨rfl, hb1⟩
                have p0 : w1.cell? ⟨w.heap.size, 0, none⟩ = some (.int .i64 0) := (hb1.cell (p := ⟨w.heap.size, 0, none⟩) (by simp; omega)).trans (by simp)
                have f0 : w1.frozen? ⟨w.heap.size, 0, none⟩ = false := (hb1.frozen (p := ⟨w.heap.size, 0, none⟩) (by simp; omega)).trans (by simp)
                have r0 : w1.cell? ⟨w.heap.size + 1, 0, none⟩ = some (.int .i64 0) := (hb1.cell (p := ⟨w.heap.size + 1, 0, none⟩) (by simp)).trans (by simp)
                have p1 : w1.cell? ⟨w.heap.size, 1, none⟩ = some (.int .i64 0) := (hb1.cell (p := ⟨w.heap.size, 1, none⟩) (by simp; omega)).trans (by simp)
                have f1 : w1.frozen? ⟨w.heap.size, 1, none⟩ = false := (hb1.frozen (p := ⟨w.heap.size, 1, none⟩) (by simp; omega)).trans (by simp)
                have r1 : w1.cell? ⟨w.heap.size + 1, 1, none⟩ = some (.int .i64 ((n : Int))) := (hb1.cell (p := ⟨w.heap.size + 1, 1, none⟩) (by simp)).trans (by simp)
                have p2 : w1.cell? ⟨w.heap.size, 2, none⟩ = some (.string ⟨#[]⟩) := (hb1.cell (p := ⟨w.heap.size, 2, none⟩) (by simp; omega)).trans (by simp)
                have f2 : w1.frozen? ⟨w.heap.size, 2, none⟩ = false := (hb1.frozen (p := ⟨w.heap.size, 2, none⟩) (by simp; omega)).trans (by simp)
                have r2 : w1.cell? ⟨w.heap.size + 1, 2, none⟩ = some (.string ⟨#[]⟩) := (hb1.cell (p := ⟨w.heap.size + 1, 2, none⟩) (by simp)).trans (by simp)
                have hbw : Below w.heap.size w w1 := bcl (bal (bal1 _ _) _) hb1
                clear t1 t2 t3 c1 c2 c3 h58 h45
                go_wp2_with fail
                rw [R1.out, R2.out]
                exact bodyPost_ret (v := .tuple #[.agg #[.int .i64 0, .int .i64 0, .string ⟨#[]⟩], .int .i64 E]) (by simp [results, Tryz.results25, go_sem, p0, p1, p2]) rfl ⟨rfl, by first | exact hbw | exact ((hbw.setCell (Nat.le_refl _) _).setCell (Nat.le_refl _) _).setCell (Nat.le_refl _) _⟩
end Go.Proofs.YtamndgeeibfmhaaGreatDoor
