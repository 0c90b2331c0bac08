/- Put, Get, Part, True beside what VaultPlays keeps. -/
import Derived.Test.YtamndgeeibfmhaaDoorVtLaw
import Derived.Test.YtamndgeeibfmhaaDoorRefSh
namespace Go.Proofs.YtamndgeeibfmhaaDoor
open Go.RowKit Go.ChangeShapes Go.WideShapes Go.Deep Go.Maps Go.WideMaps
set_option linter.unusedVariables false
section
variable {w0 w : World} {p M n many need : Nat} {K : ByteArray → Option (List Int)} {A1 A2 A3 : Option Addr} {c1 c2 c3 : Nat} {N : List ByteArray} {P2 P3 : List (List Int)}
theorem vpput (j : VP w0 w p M n many need K A1 c1 N A2 c2 P2 A3 c3 P3) (s : ByteArray) (hs : s.size ≤ maxLen) (x : Int) (A : Option Addr) (c : Nat) (r : List Int) (hr : r.length ≤ maxLen) (hA : Ints w A r) :
    Calls Tryd.prog 25 #[.pointer (some ⟨p, 0, none⟩), .string s, .int .i64 x, .slice A r.length c] w fun e w' => e = .returned (eV (vpE n many need K s x r)) ∧ VP w0 w' p M (if vpE n many need K s x r = 0 then n + 1 else n) many need (if vpE n many need K s x r = 0 then (fun t => if t = s then some (x :: r) else K t) else K) A1 c1 N A2 c2 P2 A3 c3 P3 := by
  by_cases h : vpE n many need K s x r = 0
  · rw [h, if_pos rfl, if_pos rfl, eV_zero]
    exact (vtput_ok j.v s x A c r hA h).mono fun e w' ⟨h1, h2, h3⟩ => ⟨h1, j.vt h2 h3⟩
  · rw [if_neg h, if_neg h, eV_of h]
    exact (vtput_no j.v s hs x A c r hr hA h).mono fun e w' ⟨h1, h2⟩ => ⟨h1, j.keep h2⟩
/-- what Get tells of a name -/
def ggE (many need : Nat) (o : Option (List Int)) (l : List Sh) : Int := match o with
  | none => 5
  | some q => vgE many need q l
def ggV (many need : Nat) (o : Option (List Int)) (l : List Sh) : Int := match o with
  | none => 0
  | some q => if vgE many need q l = 0 then vgV need q l else 0
theorem vpget (j : VP w0 w p M n many need K A1 c1 N A2 c2 P2 A3 c3 P3) (s : ByteArray) (hs : s.size ≤ maxLen) (A : Option Addr) (c : Nat) (l : List Sh) (hlc : l.length ≤ c) (hcm : c ≤ maxLen) (hA : Shares w A l) :
    Calls Tryd.prog 29 #[.pointer (some ⟨p, 0, none⟩), .string s, .slice A l.length c] w fun e w' => e = .returned (.tuple #[.int .i64 (ggV many need (K s) l), eV (ggE many need (K s) l)]) ∧ Below w.heap.size w w' := by
  cases h : K s with
  | none => exact vtget_none j.v s hs A c l h
  | some q =>
    refine (vtget_any j.v s hs A c l hlc hcm hA q h).mono fun e w' ⟨h1, h2⟩ => ⟨?_, h2⟩
    rw [h1]
    simp only [ggE, ggV]
    by_cases e : vgE many need q l = 0
    · rw [if_pos e, if_pos e, e, eV_zero]
    · rw [if_neg e, if_neg e, eV_of e]
end
end Go.Proofs.YtamndgeeibfmhaaDoor
