/- LeaseEnds: what its calls do to leases with one tuple at most. -/
import Derived.Test.YthpemlhlgjdnkaaDoorLePut
import Derived.Test.YthpemlhlgjdnkaaDoorLeRead
import Derived.Test.YthpemlhlgjdnkaaDoorOnce
import Derived.Test.YthpemlhlgjdnkaaDoorRuOwn
import Derived.Test.YthpemlhlgjdnkaaDoorVRef
namespace Go.Proofs.YthpemlhlgjdnkaaDoor
open Go.ChangeShapes Go.WideShapes Go.ChangeAt Go.RowKit
set_option linter.unusedVariables false

section
variable {w w' : World} {base p : Nat} {g : Option Nat} {T last : Int} {L : List On}
theorem Les.below (h : Les w base p g T last L) (k : Chs (LM p g) w w') : Below base w w' := k.below h.own h.hb
theorem Les.chv (h : Les w base p g T last L) {b : Nat} (hb : LM p g b) : base ≤ b ∧ ¬ kin w b 28 := by
  rcases hb with rfl | hb
  · exact ⟨h.hp, fun k => absurd (kin.ne k h.pkin) (by decide)⟩
  · exact ⟨(h.gkin hb).1, fun k => absurd (kin.ne k (h.gkin hb).2) (by decide)⟩
theorem Les.vin (h : Les w base p g T last L) (k : Chs (LM p g) w w') {A : Option Addr} {a : List Va} (hA : Vin w base A a) : Vin w' base A a := by
  obtain ⟨h1, h2⟩ := hA
  by_cases h0 : 0 < a.length
  · obtain ⟨j1, j2⟩ := Vin.chs h1 (h2 h0) h.hb k (fun b hb => h.chv hb)
    exact ⟨j1, fun _ => j2⟩
  · exact ⟨fun h => absurd h h0, fun h => absurd h h0⟩
end
def v5' : Va := ⟨0, 5, ⟨#[]⟩⟩
theorem ok5' : okL [v5'] := fun i hi => by
  obtain rfl : i = 0 := by simpa using hi
  decide
theorem ends_put (base p : Nat) (A : Option Addr) (c : Nat) (w : World) (hQ : Les w base p none 0 0 []) (hA : Vin w base A [v5']) :
    Calls Tryd.prog 42 #[.pointer (some ⟨p, 0, none⟩), .slice A 1 c, .int .i64 10] w fun e w' => e = .returned (.tuple #[.int .i64 1, .nilIface]) ∧ ∃ g, Les w' base p g 0 1 [⟨1, 10, [v5']⟩] ∧ Below base w w' := by
  have h := lput_any base p none 0 0 10 [] A c [v5'] (by decide) ok5' (by unfold I64; decide) w hQ hA.1 hA.2
  have e : lpE 0 0 [] 10 [v5'] = 0 := by decide
  rw [e, if_pos rfl, if_pos rfl, eV_zero] at h
  refine h.mono fun e w' ⟨h1, g', h2, h3, _⟩ => ⟨h1, g', h2, hQ.below h3⟩
theorem ends_nine (base p : Nat) (g : Option Nat) (w : World) (hQ : Les w base p g 0 1 [⟨1, 10, [v5']⟩]) :
    Calls Tryd.prog 43 #[.pointer (some ⟨p, 0, none⟩), .int .i64 9] w fun e w' => e = .returned (.tuple #[.int .i64 0, .nilIface]) ∧ Les w' base p g 9 1 [⟨1, 10, [v5']⟩] ∧ Below base w w' := by
  have h := lnow_any base p g 0 1 9 _ w hQ
  have e : nowE 0 9 = 0 := by decide
  rw [e, if_pos rfl, if_pos rfl, if_pos rfl, eV_zero] at h
  exact h.mono fun e w' ⟨h1, h2, h3⟩ => ⟨h1, h2, hQ.below h3⟩
theorem ends_ten (base p : Nat) (g : Option Nat) (w : World) (hQ : Les w base p g 9 1 [⟨1, 10, [v5']⟩]) :
    Calls Tryd.prog 43 #[.pointer (some ⟨p, 0, none⟩), .int .i64 10] w fun e w' => e = .returned (.tuple #[.int .i64 1, .nilIface]) ∧ Les w' base p g 10 1 [] ∧ Below base w w' := by
  have h := lnow_any base p g 9 1 10 _ w hQ
  have e : nowE 9 10 = 0 := by decide
  rw [e, if_pos rfl, if_pos rfl, if_pos rfl, eV_zero] at h
  exact h.mono fun e w' ⟨h1, h2, h3⟩ => ⟨h1, h2, hQ.below h3⟩
/-- Put into none -/
theorem ends_new (base p : Nat) (u : Int) (A : Option Addr) (c : Nat) (t : List Va) (hm : t.length ≤ maxLen) (hok : okL t) (hu : I64 u) (w : World) (hQ : Les w base p none 0 0 []) (hA : Vin w base A t) :
    Calls Tryd.prog 42 #[.pointer (some ⟨p, 0, none⟩), .slice A t.length c, .int .i64 u] w fun e w' => e = .returned (.tuple #[.int .i64 (if lpE 0 0 [] u t = 0 then 1 else 0), eV (lpE 0 0 [] u t)]) ∧ ∃ g, Les w' base p g 0 (if lpE 0 0 [] u t = 0 then 1 else 0) (if lpE 0 0 [] u t = 0 then [⟨1, u, t⟩] else []) ∧ Below base w w' ∧ Vin w' base A t := by
  have h := lput_any base p none 0 0 u [] A c t hm hok hu w hQ hA.1 hA.2
  exact h.mono fun e w' ⟨h1, g', h2, h3, _⟩ => ⟨h1, g', h2, hQ.below h3, hQ.vin h3 hA⟩
theorem lat_one (u : Int) (t : List Va) : lat [⟨1, u, t⟩] 1 = 0 := rfl
theorem lrE_one (u more : Int) (t : List Va) : lrE 0 [⟨1, u, t⟩] 1 more = if ahB 0 more = false ∨ more < u then 1 else 0 := by
  rw [lrE, lat_one]; rfl
/-- till when, behind Renew -/
def endU (u more : Int) (t : List Va) : Int := if lrE 0 [⟨1, u, t⟩] 1 more = 0 then more else u
theorem ends_renew (base p : Nat) (g : Option Nat) (u more : Int) (A : Option Addr) (t : List Va) (w : World) (hQ : Les w base p g 0 1 [⟨1, u, t⟩]) (hA : Vin w base A t) :
    Calls Tryd.prog 46 #[.pointer (some ⟨p, 0, none⟩), .int .i64 1, .int .i64 more] w fun e w' => e = .returned (eV (lrE 0 [⟨1, u, t⟩] 1 more)) ∧ Les w' base p g 0 1 [⟨1, endU u more t, t⟩] ∧ Below base w w' ∧ Vin w' base A t := by
  have h := lrenew_any base p g 0 1 1 more _ w hQ
  refine h.mono fun e w' ⟨h1, h2, h3⟩ => ⟨h1, ?_, hQ.below h3, hQ.vin h3 hA⟩
  unfold lrL at h2
  unfold endU
  by_cases e0 : lrE 0 [⟨1, u, t⟩] 1 more = 0
  · rw [if_pos e0] at h2 ⊢; exact h2
  · rw [if_neg e0] at h2 ⊢; exact h2
theorem ends_now (base p : Nat) (g : Option Nat) (u time : Int) (A : Option Addr) (t : List Va) (w : World) (hQ : Les w base p g 0 1 [⟨1, u, t⟩]) (hA : Vin w base A t) :
    Calls Tryd.prog 43 #[.pointer (some ⟨p, 0, none⟩), .int .i64 time] w fun e w' => e = .returned (.tuple #[.int .i64 (if nowE 0 time = 0 then (if u ≤ time then 1 else 0) else 0), eV (nowE 0 time)]) ∧ (nowE 0 time = 0 → Les w' base p g time 1 (if u ≤ time then [] else [⟨1, u, t⟩])) ∧ Below base w w' ∧ Vin w' base A t := by
  have h := lnow_any base p g 0 1 time _ w hQ
  refine h.mono fun e w' ⟨h1, h2, h3⟩ => ⟨?_, fun h0 => ?_, hQ.below h3, hQ.vin h3 hA⟩
  · rw [h1]
    by_cases e1 : u ≤ time
    · simp [e1]
    · simp [e1]
  · rw [if_pos h0, if_pos h0] at h2
    by_cases e1 : u ≤ time
    · simpa [e1] using h2
    · simpa [e1] using h2
end Go.Proofs.YthpemlhlgjdnkaaDoor
