/- LogStops: what is told, and what has been done: plain laws. -/
import Derived.Test.YtpgemofkolmabaaGreatDoorLgAll2
namespace Go.Proofs.YtpgemofkolmabaaGreatDoor.logStops
open Go.ChangeShapes Go.WideShapes Go.ChangeAt Go.RowKit Go.Joins Go.Deep
set_option linter.unusedVariables false

def star : List Va := [⟨2, 0, ⟨#[]⟩⟩]
def R1 : List Ru := [⟨0, -1, star, true⟩]
def vn (n : Int) : Va := ⟨0, n, ⟨#[]⟩⟩
def an (w q n : Int) : Ak := ⟨w, q, 0, [vn n]⟩
def bad (q : Int) : Ak := ⟨1, q, 0, []⟩
theorem r1 : rulE R1 = 0 := by rfl
theorem let1 (n : Int) : letR R1 1 0 [vn n] = true := by rfl
theorem let2 (n : Int) : letR R1 2 0 [vn n] = true := by rfl
theorem va_in {n : Int} (h : -1000000 ≤ n ∧ n ≤ 1000000) : vaE (vn n) = 0 := by
  unfold vaE vn
  rw [if_neg (by simp; omega), if_neg (by simp), if_neg]
  simp [okS, ByteArray.size]
theorem tu_in {n : Int} (h : -1000000 ≤ n ∧ n ≤ 1000000) : tuE [vn n] = 0 := by
  have h1 : liE [vn n] = vaE (vn n) := rfl
  unfold tuE
  rw [h1, va_in h, if_neg (fun h => h rfl), if_neg]
  rw [Bool.not_eq_true]
  exact anyB_false.2 fun i hi => by
    obtain rfl : i = 0 := by simpa using hi
    show (0 : Int) ≠ 2
    decide
theorem qc_in {w q n : Int} (hw : w = 1 ∨ w = 2) (h : -1000000 ≤ n ∧ n ≤ 1000000) : qcE (an w q n) = 0 := by
  rcases hw with rfl | rfl
  · exact (show qcE (an 1 q n) = tuE [vn n] from rfl).trans (tu_in h)
  · exact (show qcE (an 2 q n) = tuE [vn n] from rfl).trans (tu_in h)
theorem qc_bad (q : Int) : qcE (bad q) = 5 := rfl
theorem bad_do (R : List Ru) (s : Cs) (q : Int) : doE R s (bad q) = 5 := by rw [doE_bad (by rw [qc_bad]; decide), qc_bad]
theorem bad_s (R : List Ru) (s : Cs) (q : Int) : doS R s (bad q) = ⟨#[]⟩ := doS_no (by rw [bad_do]; decide)
/-- a deed that is next -/
theorem deed {s : Cs} {w q n : Int} (hw : w = 1 ∨ w = 2) (hn : -1000000 ≤ n ∧ n ≤ 1000000) (hq : q = (s.F w).1 + 1) : agB s (an w q n) = false ∧ doE R1 s (an w q n) = 0 := by
  have ha : agB s (an w q n) = false := by
    unfold agB
    rw [show (an w q n).q = q from rfl, show (an w q n).w = w from rfl, decide_eq_false (by omega), Bool.false_and]
  refine ⟨ha, (doE_new (qc_in hw hn) ha hq).trans ?_⟩
  rw [nwE, if_pos (show (an w q n).d = 0 from rfl)]
  rcases hw with rfl | rfl
  · exact if_pos (let1 n)
  · exact if_pos (let2 n)
theorem deed_s {s : Cs} {w q n : Int} (hw : w = 1 ∨ w = 2) (hn : -1000000 ≤ n ∧ n ≤ 1000000) (hq : q = (s.F w).1 + 1) (hl : s.L.length ≠ 20) : doS R1 s (an w q n) = txOk := by
  obtain ⟨h1, h2⟩ := deed hw hn hq
  rw [doS_new h2 h1, nwS, if_pos (show (an w q n).d = 0 from rfl), if_neg hl]
theorem okS' : okL star := fun i hi => by
  obtain rfl : i = 0 := by simpa [star] using hi
  decide
theorem okV (n : Int) : okL [vn n] := fun i hi => by
  obtain rfl : i = 0 := by simpa using hi
  show (⟨#[]⟩ : ByteArray).size ≤ maxLen
  decide
theorem okB : okL [] := fun i hi => by simp at hi
theorem okR1 : okR R1 := fun i hi => by
  obtain rfl : i = 0 := by simpa [R1] using hi
  exact ⟨okS', by show I64 _; unfold I64; decide, by show I64 _; unfold I64; decide⟩
/-! ### so many deeds -/
def Dn (n : Nat) : List Ak := (List.range n).map fun (i : Nat) => an 1 ((i : Int) + 1) i
theorem Dn_succ (n : Nat) : Dn (n + 1) = Dn n ++ [an 1 ((n : Int) + 1) n] := by simp [Dn, List.range_succ]
theorem Dn_len (n : Nat) : (Dn n).length = n := by simp [Dn]
theorem Dn_take {n k : Nat} (h : k ≤ n) : (Dn n).take k = Dn k := by rw [Dn, ← List.map_take, List.take_range, Nat.min_eq_left h]; rfl
def Fn (n : Nat) : Int → Int × ByteArray := fun y => if y = 1 ∧ 0 < n then ((n : Int), txOk) else (0, ⟨#[]⟩)
def St (n : Nat) : Cs := ⟨(List.range n).map fun (i : Nat) => [vn i], Fn n, n⟩
theorem st_len (n : Nat) : (St n).L.length = n := by simp [St]
theorem st_f1 (n : Nat) : ((St n).F 1).1 = n := by
  show (Fn n 1).1 = n
  unfold Fn
  by_cases h : 0 < n
  · rw [if_pos ⟨rfl, h⟩]
  · rw [if_neg (fun e => h e.2)]
    show (0 : Int) = n
    omega
theorem st_f2 (n : Nat) : ((St n).F 2).1 = 0 := by
  show (Fn n 2).1 = 0
  unfold Fn
  rw [if_neg (fun e => absurd e.1 (by decide))]
theorem st_deed {n : Nat} (h : n < 20) : agB (St n) (an 1 ((n : Int) + 1) n) = false ∧ doE R1 (St n) (an 1 ((n : Int) + 1) n) = 0 := deed (.inl rfl) ⟨by omega, by omega⟩ (by rw [st_f1])
theorem st_next {n : Nat} (h : n < 20) : doC R1 (St n) (an 1 ((n : Int) + 1) n) = St (n + 1) := by
  obtain ⟨h1, h2⟩ := st_deed h
  rw [doC_new h2 h1]
  have hs : nwS (St n) (an 1 ((n : Int) + 1) n) = txOk := by
    rw [nwS, if_pos (show (an 1 ((n : Int) + 1) n).d = 0 from rfl), if_neg (by rw [st_len]; omega)]
  have hl : nwL (St n) (an 1 ((n : Int) + 1) n) = (St (n + 1)).L := by
    rw [nwL, if_pos (show (an 1 ((n : Int) + 1) n).d = 0 from rfl)]
    unfold putL
    rw [if_pos]
    · show (List.range n).map (fun (i : Nat) => [vn i]) ++ [[vn n]] = (List.range (n + 1)).map fun (i : Nat) => [vn i]
      rw [List.range_succ, List.map_append]; rfl
    · unfold putE
      rw [if_neg, if_neg (by rw [st_len]; omega)]
      exact fun e => e (tu_in ⟨by omega, by omega⟩)
  rw [hs, hl]
  have hf : (fun y => if y = (an 1 ((n : Int) + 1) n).w then ((an 1 ((n : Int) + 1) n).q, txOk) else (St n).F y) = Fn (n + 1) := by
    funext y
    show (if y = 1 then (((n : Int) + 1), txOk) else Fn n y) = Fn (n + 1) y
    by_cases e : y = 1
    · rw [if_pos e, Fn, if_pos ⟨e, Nat.succ_pos n⟩]; rfl
    · rw [if_neg e, Fn, Fn, if_neg (fun h => e h.1), if_neg (fun h => e h.1)]
  rw [hf]; rfl
theorem cp_Dn : ∀ n : Nat, n ≤ 20 → cpD R1 (Dn n) = St n
  | 0, _ => by
    have h : Fn 0 = fun _ => (0, ⟨#[]⟩) := by
      funext y; unfold Fn; rw [if_neg (fun e => absurd e.2 (by decide))]
    show Cs.zero = ⟨[], Fn 0, 0⟩
    rw [h]; rfl
  | n + 1, h => by rw [Dn_succ, cpD_snoc, cp_Dn n (by omega), st_next (by omega)]
theorem vd_Dn : ∀ n : Nat, n ≤ 20 → VdD R1 (Dn n)
  | 0, _ => VdD.nil
  | n + 1, h => by
    rw [Dn_succ]
    have := st_deed (n := n) (by omega)
    rw [← cp_Dn n (by omega)] at this
    exact (vd_Dn n (by omega)).snoc (okV _) this.2 this.1
end Go.Proofs.YtpgemofkolmabaaGreatDoor.logStops
