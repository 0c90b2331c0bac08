/- A space in memory, and its functions. -/
import Derived.Test.YtfelefkmbbfdjaaGreatDoorTupleIs
import Derived.Test.YtfelefkmbbfdjaaGreatDoorNest
import Derived.WalkKit
import Derived.ProofKit
import Derived.OpenShut
import Derived.ShutString
import Derived.ChangeOld
import Derived.WalkLawsBesides
import Derived.WalkSpells
import Derived.RegionTactic
import Derived.ChangeAlike
import Derived.Deep.QuietTactic
import Derived.BigQuiet
import Derived.Outline
import Derived.Deep.RegionHeld3
namespace Go.Proofs.YtfelefkmbbfdjaaGreatDoor
open Go.ChangeShapes Go.WideShapes Go.ChangeAt Go.RowKit
set_option linter.unusedVariables false

theorem vals_stay : QStay Vals := fun w w' B l hz hs h => Sl.stay hz hs h
theorem Many.vat {w : World} {A : Option Addr} {L : List (List Va)} (h : Many Vals w A L) {i : Nat} (hi : i < L.length) :
    ∃ b off B C, A = some ⟨b, off, none⟩ ∧ b < w.heap.size ∧ w.cell? ⟨b, off + i, none⟩ = some (.slice B (gg L i).length C) ∧ Vals w B (gg L i) ∧ (gg L i).length ≤ C ∧ C ≤ maxLen := by
  obtain ⟨B, C, h1, h2⟩ := h
  obtain ⟨b, off, e, hb, hc⟩ := h1.at1 hi
  exact ⟨b, off, B i, C i, e, hb, hc, h2 i hi⟩
theorem many_below {w w' : World} {A : Option Addr} {L : List (List Va)} (h : Many Vals w A L) (hb : Below w.heap.size w w') : Many Vals w' A L :=
  h.below (fun _ _ _ _ h hb => h.below hb (Nat.le_refl _)) hb

theorem spclos_any (A : Option Addr) (c : Nat) (a : List Va) (hm : a.length ≤ maxLen) (B : Option Addr) (d : Nat) (t : List Va) (q : Addr) (w : World) (hA : Vals w A a) (hB : Vals w B t) (hq : w.cell? q = some (.slice A a.length c)) :
    Calls Tryz.prog 128 #[.slice B t.length d, .pointer (some q)] w fun e w' => e = .returned (.bool (fitB a t)) ∧ Below w.heap.size w w' := by
  have ct := tis_any A c a B d t hm w hA hB
  have C := Lib.hid ct; clear ct
  generalize fitB a t = z at *
  go_enter Tryz.func128, Tryz.ntmps128
  go_wp2_with fail
  refine C.out.mono ?_
  rintro e w1 ⟨rfl, hb1⟩
  go_wp2_with fail
  go_ret
  exact ⟨rfl, hb1⟩
set_option maxHeartbeats 400000 in
set_option maxRecDepth 100000 in
theorem spidx_any (A : Option Addr) (cap : Nat) (L : List (List Va)) (hm : L.length ≤ maxLen) (g : FuncId) (q : Value) (p : Nat → Bool) (w : World) (hA : Many Vals w A L)
    (hp : ∀ W, Below w.heap.size w W → ∀ i, i < L.length → ∀ B C, Vals W B (gg L i) → Calls Tryz.prog g #[.slice B (gg L i).length C, q] W fun e w' => e = .returned (.bool (p i)) ∧ Below W.heap.size W w')
    (hg : ∀ args w, (callFunc g args).run Tryz.prog w = .ok (.enter g args) w) :
    Calls Tryz.prog 127 #[.slice A L.length cap, .func (.func g) #[] #[q]] w fun e w' => e = .returned (.int .i64 (idx p L.length)) ∧ Below w.heap.size w w' := by
  have HP := Lib.hid hp; clear hp
  unfold maxLen at hm
  go_enter Tryz.func127, Tryz.ntmps127
  go_wp2_with fail
  go_loopw [8] (fun i wr => ∃ k : Nat, k ≤ L.length ∧ i = .int .i64 k ∧ Hid (fst' p k = none) ∧ Below w.heap.size w wr) (fun i _ => L.length - (intOf i).toNat)
  case atStart => exact ⟨0, Nat.zero_le _, rfl, rfl, Below.refl _ _⟩
  case round =>
    obtain ⟨k, hk, rfl, hf, hb⟩ := hrel
    by_cases hlt : k < L.length
    · obtain ⟨b, off, B, C, rfl, hbl, hc0, hv, _, _⟩ := (many_below hA hb).vat (i := k) hlt
      cases hpk : p k with
      | true =>
        have hi : idx p L.length = (k : Int) := idx_some (k := k + 1) (by simp only [fst', hf.out, hpk, if_true]) (by omega)
        have HI := Lib.hid hi; clear hi
        have hc := HP.out wr hb k hlt B C hv
        rw [hpk] at hc
        have HC := Lib.hid hc; clear hc hpk
        go_wp2_with fail
        refine HC.out.mono ?_
        rintro e w1 ⟨rfl, hb1⟩
        go_wp2_with fail
        rw [HI.out]
        go_ret
        exact ⟨rfl, bcl hb hb1⟩
      | false =>
        have hn' : fst' p (k + 1) = none := by simp [fst', hf.out, hpk]
        have HN := Lib.hid hn'; clear hn'
        have hc := HP.out wr hb k hlt B C hv
        rw [hpk] at hc
        have HC := Lib.hid hc; clear hc hpk
        go_wp2_with fail
        refine HC.out.mono ?_
        rintro e w1 ⟨rfl, hb1⟩
        go_wp2_with fail
        go_roundw
        case rel => exact ⟨k + 1, by omega, by go_num, HN, bcl hb hb1⟩
        case measure => simp [intOf]; omega
    · obtain rfl : k = L.length := by omega
      have HI := Lib.hid (idx_none hf.out)
      go_wp2_with fail
      rw [HI.out]
      go_ret
      exact ⟨rfl, hb⟩
/-- the place of the first that fits -/
def plc (a : List Va) (L : List (List Va)) : Int := idx (fun i => fitB a (gg L i)) L.length
set_option maxHeartbeats 400000 in
set_option maxRecDepth 100000 in
theorem spfirst_any (p : Nat) (A : Option Addr) (c : Nat) (a : List Va) (hm : a.length ≤ maxLen) (E : Option Addr) (cap : Nat) (L : List (List Va)) (hL : L.length ≤ maxLen) (w : World) (hA : Vals w A a) (hM : Many Vals w E L) (hc : w.cell? ⟨p, 0, none⟩ = some (.slice E L.length cap)) :
    Calls Tryz.prog 106 #[.pointer (some ⟨p, 0, none⟩), .slice A a.length c] w fun e w' => e = .returned (.int .i64 (plc a L)) ∧ Below w.heap.size w w' := by
  have hp : p < w.heap.size := lt_of_cell hc
  have ci : ∀ W, Below w.heap.size w W → ∀ q, W.cell? q = some (.slice A a.length c) → Calls Tryz.prog 127 #[.slice E L.length cap, .func (.func 128) #[] #[.pointer (some q)]] W fun e w' => e = .returned (.int .i64 (plc a L)) ∧ Below W.heap.size W w' := fun W hb q hq =>
    spidx_any E cap L hL 128 (.pointer (some q)) _ W (many_below hM hb) (fun W2 hb2 i hi B C hB => spclos_any A c a hm B C (gg L i) q W2 (hA.below (bcl hb hb2) (Nat.le_refl _)) hB ((hb2.cell (lt_of_cell hq)).trans hq)) (enters_of Tryz.func128 (by kernel_rfl) rfl)
  have CI := Lib.hid ci; clear ci hM
  generalize plc a L = z at *
  have k0 : (w.alloc (.cells #[.slice A a.length c] 32)).cell? ⟨p, 0, none⟩ = some (.slice E L.length cap) := by rw [World.cell?_alloc_lt _ _ ⟨p, 0, none⟩ hp]; exact hc
  go_enter Tryz.func106, Tryz.ntmps106
  go_wp2_with (first | (go_at_call 127; refine (CI.out _ (by first | exact bal1 w _ | exact bdr (bal1 w _) | exact bdn (bal1 w _) _) _ (by simp)).mono ?_; rintro e w1 ⟨rfl, hb1⟩))
  go_ret
  exact ⟨rfl, (by repeat (first | exact Below.refl _ _ | assumption | refine bal ?_ _ | refine bdn ?_ _ | refine bdr ?_ | refine bcl ?_ (by assumption)))⟩
/-- what is wrong with what is looked for -/
def finE (a : List Va) (L : List (List Va)) : Int := if liE a ≠ 0 then liE a else if plc a L < 0 then 5 else 0
def finV (a : List Va) (L : List (List Va)) : Int := if finE a L = 0 then plc a L else 0
set_option maxHeartbeats 400000 in
set_option maxRecDepth 100000 in
theorem spfind_any (p : Nat) (A : Option Addr) (c : Nat) (a : List Va) (hm : a.length ≤ maxLen) (hok : okL a) (E : Option Addr) (cap : Nat) (L : List (List Va)) (hL : L.length ≤ maxLen) (w : World) (hA : Vals w A a) (hM : Many Vals w E L) (hc : w.cell? ⟨p, 0, none⟩ = some (.slice E L.length cap)) :
    Calls Tryz.prog 88 #[.pointer (some ⟨p, 0, none⟩), .slice A a.length c] w fun e w' => e = .returned (.tuple #[.int .i64 (finV a L), eV (finE a L)]) ∧ Below w.heap.size w w' := by
  have hp : p < w.heap.size := lt_of_cell hc
  have c1 := tlike_any A c a hm hok w hA
  have c2 := fun (W : World) (hb : Below w.heap.size w W) => spfirst_any p A c a hm E cap L hL W (hA.below hb (Nat.le_refl _)) (many_below hM hb) ((hb.cell (p := ⟨p, 0, none⟩) hp).trans hc)
  by_cases h1 : liE a = 0
  · rw [h1, eV_zero] at c1
    by_cases h2 : plc a L < 0
    · have hv : finE a L = 5 := by rw [finE, if_neg (by simp [h1]), if_pos h2]
      have hq : decide (plc a L < 0) = true := decide_eq_true h2
      rw [finV, hv, if_neg (by decide), show eV 5 = errV 5 from rfl]
      clear hM h2 hv h1
      generalize plc a L = z at *
      have C1 := Lib.hid c1; have C2 := Lib.hid c2; clear c1 c2
      go_enter Tryz.func88, Tryz.ntmps88
      go_wp2_with (first | (go_at_call 61; refine C1.out.mono ?_; rintro e w1 ⟨rfl, hb1⟩) | (go_at_call 106; refine (C2.out _ hb1).mono ?_; rintro e w2 ⟨rfl, hb2⟩))
      go_ret2
      exact ⟨rfl, (by repeat (first | exact Below.refl _ _ | assumption | refine bal ?_ _ | refine bdn ?_ _ | refine bdr ?_ | refine bcl ?_ (by assumption)))⟩
    · have hv : finE a L = 0 := by rw [finE, if_neg (by simp [h1]), if_neg h2]
      have hq : decide (plc a L < 0) = false := decide_eq_false h2
      rw [finV, hv, if_pos rfl, eV_zero]
      clear hM h2 hv h1
      generalize plc a L = z at *
      have C1 := Lib.hid c1; have C2 := Lib.hid c2; clear c1 c2
      go_enter Tryz.func88, Tryz.ntmps88
      go_wp2_with (first | (go_at_call 61; refine C1.out.mono ?_; rintro e w1 ⟨rfl, hb1⟩) | (go_at_call 106; refine (C2.out _ hb1).mono ?_; rintro e w2 ⟨rfl, hb2⟩))
      go_ret2
      exact ⟨rfl, (by repeat (first | exact Below.refl _ _ | assumption | refine bal ?_ _ | refine bdn ?_ _ | refine bdr ?_ | refine bcl ?_ (by assumption)))⟩
  · have hv : finE a L = liE a := by rw [finE, if_pos h1]
    rw [finV, hv, if_neg h1, eV_of h1]
    rw [eV_of h1] at c1
    have C1 := Lib.hid c1; clear c1 c2 hM hv h1
    go_enter Tryz.func88, Tryz.ntmps88
    go_wp2_with (first | (go_at_call 61; refine C1.out.mono ?_; rintro e w1 ⟨rfl, hb1⟩))
    go_ret2
    exact ⟨rfl, (by repeat (first | exact Below.refl _ _ | assumption | refine bal ?_ _ | refine bdn ?_ _ | refine bdr ?_ | refine bcl ?_ (by assumption)))⟩
/-- how many of the first k fit -/
def cnt (a : List Va) (L : List (List Va)) : Nat → Nat
  | 0 => 0
  | k + 1 => if fitB a (gg L k) = true then cnt a L k + 1 else cnt a L k
theorem cnt_le (a : List Va) (L : List (List Va)) (k : Nat) : cnt a L k ≤ k := by
  induction k with
  | zero => exact Nat.le_refl _
  | succ k ih => rw [cnt]; split <;> omega
theorem spnew (w : World) : Calls Tryz.prog 38 #[] w fun e w' => e = .returned (.pointer (some ⟨w.heap.size, 0, none⟩)) ∧ w' = w.alloc (.cells #[.slice none 0 0] 113) := by
  go_enter Tryz.func38, Tryz.ntmps38
  go_wp2
  go_ret
  exact ⟨rfl, rfl⟩
theorem spfull_any (p n cap : Nat) (E : Option Addr) (w : World) (hc : w.cell? ⟨p, 0, none⟩ = some (.slice E n cap)) :
    Calls Tryz.prog 66 #[.pointer (some ⟨p, 0, none⟩)] w fun e w' => e = .returned (.bool ((n : Int) == 20)) ∧ w = w' := by
  cases hn : ((n : Int) == 20)
  · go_enter Tryz.func66, Tryz.ntmps66
    go_wp2_with fail
    go_ret
    exact ⟨rfl, rfl⟩
  · go_enter Tryz.func66, Tryz.ntmps66
    go_wp2_with fail
    go_ret
    exact ⟨rfl, rfl⟩
end Go.Proofs.YtfelefkmbbfdjaaGreatDoor
