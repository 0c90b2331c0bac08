/- The reference's Read, the rest. -/
import Derived.Test.YtamndgeeibfmhaaGreatDoorRRd
namespace Go.Proofs.YtamndgeeibfmhaaGreatDoor
open Go.RowKit
set_option linter.unusedVariables false
set_option maxHeartbeats 1600000 in
set_option maxRecDepth 100000 in
theorem rread_star (w : World) :
    Calls Tryz.prog 25 #[.string ⟨#[42]⟩] w fun e w' => e = .returned (.tuple #[.agg #[.int .i64 (rdR ⟨#[42]⟩).k, .int .i64 (rdR ⟨#[42]⟩).n, .string (rdR ⟨#[42]⟩).s], .int .i64 (rdE ⟨#[42]⟩)]) ∧ Below w.heap.size w w' := by
  have hv : rdV ⟨#[42]⟩ = some ⟨2, 0, ⟨#[]⟩⟩ := if_pos rfl
  obtain ⟨r1, r2⟩ := rd_some hv
  have he : vaE ⟨2, 0, ⟨#[]⟩⟩ = 0 := by decide
  rw [he] at r1
  rw [if_pos he] at r2
  rw [r1, r2]
  clear hv r1 r2 he
  go_enter Tryz.func25, Tryz.ntmps25
  go_wp2_with fail
  exact bodyPost_ret (v := .tuple #[.agg #[.int .i64 2, .int .i64 0, .string ⟨#[]⟩], .int .i64 0]) (by simp [results, Tryz.results25, go_sem]) rfl ⟨rfl, (by repeat (first | exact Below.refl _ _ | assumption | refine bal ?_ _ | refine bdn ?_ _ | refine bdr ?_ | refine bcl ?_ (by assumption)))⟩
set_option maxHeartbeats 1600000 in
set_option maxRecDepth 100000 in
theorem rread_empty (w : World) :
    Calls Tryz.prog 25 #[.string ⟨#[]⟩] w fun e w' => e = .returned (.tuple #[.agg #[.int .i64 (rdR ⟨#[]⟩).k, .int .i64 (rdR ⟨#[]⟩).n, .string (rdR ⟨#[]⟩).s], .int .i64 (rdE ⟨#[]⟩)]) ∧ Below w.heap.size w w' := by
  have hv : rdV ⟨#[]⟩ = none := by rw [rdV, if_neg (by decide), if_neg (by decide)]; rfl
  obtain ⟨r1, r2⟩ := rd_none hv
  rw [r1, r2]
  clear hv r1 r2
  go_enter Tryz.func25, Tryz.ntmps25
  go_wp2_with fail
  exact bodyPost_ret (v := .tuple #[.agg #[.int .i64 0, .int .i64 0, .string ⟨#[]⟩], .int .i64 2]) (by simp [results, Tryz.results25, go_sem]) rfl ⟨rfl, (by repeat (first | exact Below.refl _ _ | assumption | refine bal ?_ _ | refine bdn ?_ _ | refine bdr ?_ | refine bcl ?_ (by assumption)))⟩
set_option maxHeartbeats 1600000 in
set_option maxRecDepth 100000 in
theorem rread_text (s : ByteArray) (hs : s.size ≤ 140737488351232) (hsz : 0 < s.size) (h42 : s ≠ ⟨#[42]⟩) (h58 : s[0].toNat = 58) (w : World) :
    Calls Tryz.prog 25 #[.string s] w fun e w' => e = .returned (.tuple #[.agg #[.int .i64 (rdR s).k, .int .i64 (rdR s).n, .string (rdR s).s], .int .i64 (rdE s)]) ∧ Below w.heap.size w w' := by
  have t1 := star_other h42
  have t2 : ((s[0].toNat : Int) == 58) = true := beq_iff_eq.2 (by omega)
  obtain ⟨r1, r2⟩ := rd_some (rdV_text h42 hsz h58)
  have hx : (s.extract 1 s.size).size ≤ maxLen := by rw [ByteArray.size_extract]; unfold maxLen; omega
  have cv := fun W => rvalue_any 1 0 (s.extract 1 s.size) hx W
  have hs1 : (1 : Int) ≤ (s.size : Int) := by omega
  by_cases he : vaE ⟨1, 0, s.extract 1 s.size⟩ = 0
  · rw [he] at r1 cv
    rw [if_pos he] at r2
    rw [r1, r2]
    have CV := Lib.hid cv
    clear r1 r2 cv he h42 h58 hx
    go_enter Tryz.func25, Tryz.ntmps25
    go_wp2_with fail
    refine (CV.out _).mono ?_
    rintro e w1 ⟨rfl, hb1⟩
    have p0 : w1.cell? ⟨w.heap.size, 0, none⟩ = some (.int .i64 0) := (hb1.cell (p := ⟨w.heap.size, 0, none⟩) (by simp; omega)).trans (by simp)
    have f0 : w1.frozen? ⟨w.heap.size, 0, none⟩ = false := (hb1.frozen (p := ⟨w.heap.size, 0, none⟩) (by simp; omega)).trans (by simp)
    have r0 : w1.cell? ⟨w.heap.size + 1, 0, none⟩ = some (.int .i64 1) := (hb1.cell (p := ⟨w.heap.size + 1, 0, none⟩) (by simp)).trans (by simp)
    have p1 : w1.cell? ⟨w.heap.size, 1, none⟩ = some (.int .i64 0) := (hb1.cell (p := ⟨w.heap.size, 1, none⟩) (by simp; omega)).trans (by simp)
    have f1 : w1.frozen? ⟨w.heap.size, 1, none⟩ = false := (hb1.frozen (p := ⟨w.heap.size, 1, none⟩) (by simp; omega)).trans (by simp)
    have r1 : w1.cell? ⟨w.heap.size + 1, 1, none⟩ = some (.int .i64 0) := (hb1.cell (p := ⟨w.heap.size + 1, 1, none⟩) (by simp)).trans (by simp)
    have p2 : w1.cell? ⟨w.heap.size, 2, none⟩ = some (.string ⟨#[]⟩) := (hb1.cell (p := ⟨w.heap.size, 2, none⟩) (by simp; omega)).trans (by simp)
    have f2 : w1.frozen? ⟨w.heap.size, 2, none⟩ = false := (hb1.frozen (p := ⟨w.heap.size, 2, none⟩) (by simp; omega)).trans (by simp)
    have r2 : w1.cell? ⟨w.heap.size + 1, 2, none⟩ = some (.string (s.extract 1 s.size)) := (hb1.cell (p := ⟨w.heap.size + 1, 2, none⟩) (by simp)).trans (by simp)
    have hbw : Below w.heap.size w w1 := bcl (bal (bal1 _ _) _) hb1
    clear t1 t2
    go_wp2_with fail
    exact bodyPost_ret (v := .tuple #[.agg #[.int .i64 1, .int .i64 0, .string (s.extract 1 s.size)], .int .i64 0]) (by simp [results, Tryz.results25, go_sem, p0, p1, p2]) rfl ⟨rfl, by first | exact hbw | exact ((hbw.setCell (Nat.le_refl _) _).setCell (Nat.le_refl _) _).setCell (Nat.le_refl _) _⟩
  · rw [if_neg he] at r2
    rw [r1, r2]
    have q1 : (vaE ⟨1, 0, s.extract 1 s.size⟩ != 0) = true := by rw [bne_iff_ne]; exact he
    generalize vaE ⟨1, 0, s.extract 1 s.size⟩ = E at *
    have CV := Lib.hid cv
    clear r1 r2 cv he h42 h58 hx
    go_enter Tryz.func25, Tryz.ntmps25
    go_wp2_with fail
    refine (CV.out _).mono ?_
    rintro e w1 ⟨rfl, hb1⟩
    have p0 : w1.cell? ⟨w.heap.size, 0, none⟩ = some (.int .i64 0) := (hb1.cell (p := ⟨w.heap.size, 0, none⟩) (by simp; omega)).trans (by simp)
    have f0 : w1.frozen? ⟨w.heap.size, 0, none⟩ = false := (hb1.frozen (p := ⟨w.heap.size, 0, none⟩) (by simp; omega)).trans (by simp)
    have r0 : w1.cell? ⟨w.heap.size + 1, 0, none⟩ = some (.int .i64 1) := (hb1.cell (p := ⟨w.heap.size + 1, 0, none⟩) (by simp)).trans (by simp)
    have p1 : w1.cell? ⟨w.heap.size, 1, none⟩ = some (.int .i64 0) := (hb1.cell (p := ⟨w.heap.size, 1, none⟩) (by simp; omega)).trans (by simp)
    have f1 : w1.frozen? ⟨w.heap.size, 1, none⟩ = false := (hb1.frozen (p := ⟨w.heap.size, 1, none⟩) (by simp; omega)).trans (by simp)
    have r1 : w1.cell? ⟨w.heap.size + 1, 1, none⟩ = some (.int .i64 0) := (hb1.cell (p := ⟨w.heap.size + 1, 1, none⟩) (by simp)).trans (by simp)
    have p2 : w1.cell? ⟨w.heap.size, 2, none⟩ = some (.string ⟨#[]⟩) := (hb1.cell (p := ⟨w.heap.size, 2, none⟩) (by simp; omega)).trans (by simp)
    have f2 : w1.frozen? ⟨w.heap.size, 2, none⟩ = false := (hb1.frozen (p := ⟨w.heap.size, 2, none⟩) (by simp; omega)).trans (by simp)
    have r2 : w1.cell? ⟨w.heap.size + 1, 2, none⟩ = some (.string (s.extract 1 s.size)) := (hb1.cell (p := ⟨w.heap.size + 1, 2, none⟩) (by simp)).trans (by simp)
    have hbw : Below w.heap.size w w1 := bcl (bal (bal1 _ _) _) hb1
    clear t1 t2
    go_wp2_with fail
    exact bodyPost_ret (v := .tuple #[.agg #[.int .i64 0, .int .i64 0, .string ⟨#[]⟩], .int .i64 E]) (by simp [results, Tryz.results25, go_sem, p0, p1, p2]) rfl ⟨rfl, by first | exact hbw | exact ((hbw.setCell (Nat.le_refl _) _).setCell (Nat.le_refl _) _).setCell (Nat.le_refl _) _⟩
/-- the reference's Read -/
theorem rread_any (s : ByteArray) (hs : s.size ≤ 140737488351232) (w : World) :
    Calls Tryz.prog 25 #[.string s] w fun e w' => e = .returned (.tuple #[.agg #[.int .i64 (rdR s).k, .int .i64 (rdR s).n, .string (rdR s).s], .int .i64 (rdE s)]) ∧ Below w.heap.size w w' := by
  by_cases h42 : s = ⟨#[42]⟩
  · subst h42; exact rread_star w
  · by_cases h0 : 0 < s.size
    · by_cases h58 : s[0].toNat = 58
      · exact rread_text s hs h0 h42 h58 w
      · by_cases h45 : s[0].toNat = 45
        · exact rread_minus s hs h0 h42 h58 h45 w
        · exact rread_plain s hs h0 h42 h58 h45 w
    · obtain rfl := emp_of (show s.size = 0 by omega)
      exact rread_empty w
end Go.Proofs.YtamndgeeibfmhaaGreatDoor
