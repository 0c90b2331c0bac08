/- Package once: Put, Change. digest.Tuple; what PrintTells and PrintSame ask of digests. The door where tables of the library's are listed (and the type's handle beside them). The doors of the logs' laws and the sessions': what their listed variables give a walk. What a session is answered: plain. Package run: wants. Package run: number, told, digit. Package run: tuples. Package run: deal. Package run: once, do. strings.Split at one byte; strings.TrimSuffix at an end of a line. -/
import Derived.Test.YtpgemofkolmabaaGreatDoorOnce
import Derived.Test.YtpgemofkolmabaaGreatDoorLine
import Derived.Test.YtpgemofkolmabaaGreatDoorDoor
import Derived.Test.YtpgemofkolmabaaGreatDoorWord
import Derived.Lib.LaidTab
import Derived.Stop.LaidErr
import Derived.Lay
import Derived.Test.YtpgemofkolmabaaGreatDoorLgAll
import Derived.SizedLaws
import Derived.LaidLaws
import Derived.Test.YtpgemofkolmabaaGreatDoorShare
import Derived.Test.YtpgemofkolmabaaGreatDoorTpAll
import Derived.Test.YtpgemofkolmabaaGreatDoorVMap
import Derived.WalkKit
import Derived.WalkLawsBesides
import Derived.WalkSpells
import Derived.RegionTactic
import Derived.Outline
import Derived.Test.YtpgemofkolmabaaGreatDoorSpc
import Derived.Test.YtpgemofkolmabaaGreatDoorOStr
import Derived.Deep.RegionHeld3
import Derived.Test.YtpgemofkolmabaaGreatDoorShelf
import Derived.Lib.SplitLaws
import Derived.Shelf.Strings.SplitCore
namespace Go.Proofs.YtpgemofkolmabaaGreatDoor
open Go.ChangeShapes Go.WideShapes Go.ChangeAt Go.RowKit
set_option linter.unusedVariables false

theorem count_spc (base p : Nat) (g : Option Nat) (L : List (List Va)) (A : Option Addr) (c : Nat) (a : List Va) (hm : a.length ≤ maxLen) (hok : okL a) (h : liE a = 0) (x : Nat) (hx : cnt a L L.length = x) (w : World) (hS : Spc w base p g L) (hA : Vals w A a) :
    Calls Tryz.prog 145 #[.pointer (some ⟨p, 0, none⟩), .slice A a.length c] w fun e w' => e = .returned (.tuple #[.int .i64 x, .nilIface]) ∧ Below w.heap.size w w' := by
  obtain ⟨E, n, q1, q2, q3⟩ := hS.there
  have hl := hS.len
  have := spcount_any p A c a hm hok E n L (by unfold maxLen; omega) w hA q3.many (cell_of_one q1).1
  rw [h, if_pos rfl, hx] at this
  exact this
theorem all_spc (base p : Nat) (g : Option Nat) (L : List (List Va)) (n : Nat) (hn : L.length = n) (w : World) (hS : Spc w base p g L) :
    Calls Tryz.prog 78 #[.pointer (some ⟨p, 0, none⟩)] w fun e w' => ∃ A' c', e = .returned (.slice A' n c') ∧ Below w.heap.size w w' := by
  subst hn
  exact (spall_any base p g L w hS).mono fun e w' ⟨A', c', h1, _, h2⟩ => ⟨A', c', h1, h2⟩
/-- what is wrong with what is asked for, and a tuple -/
def ocE (a t : List Va) : Int := if liE a ≠ 0 then liE a else tuE t
set_option maxHeartbeats 400000 in
set_option maxRecDepth 100000 in
theorem oncheck_any (A : Option Addr) (c : Nat) (a : List Va) (B : Option Addr) (d : Nat) (t : List Va) (hm : a.length ≤ maxLen) (hm2 : t.length ≤ maxLen) (ha : okL a) (ht : okL t) (w : World) (hA : Vals w A a) (hB : Vals w B t) :
    Calls Tryz.prog 202 #[.slice A a.length c, .slice B t.length d] w fun e w' => e = .returned (eV (ocE a t)) ∧ Below w.heap.size w w' := by
  have c1 := tlike_any A c a hm ha w hA
  have c2 := fun (W : World) (hW : Vals W B t) => tcheck_any B d t hm2 ht W hW
  by_cases h : liE a = 0
  · have hv : ocE a t = tuE t := by rw [ocE, if_neg (by simp [h])]
    rw [hv]
    rw [h, eV_zero] at c1
    generalize tuE t = E at *
    have C1 := Lib.hid c1; have C2 := Lib.hid c2; clear c1 c2 hv h
    go_enter Tryz.func202, Tryz.ntmps202
    go_wp2_with (first | (go_at_call 109; refine C1.out.mono ?_; rintro e w1 ⟨rfl, hb1⟩) | (go_at_call 103; refine (C2.out _ (hB.below hb1 (Nat.le_refl _))).mono ?_; rintro e w2 ⟨rfl, hb2⟩))
    go_ret
    exact ⟨rfl, (by repeat (first | exact Below.refl _ _ | assumption | refine bal ?_ _ | refine bdn ?_ _ | refine bdr ?_ | refine bcl ?_ (by assumption)))⟩
  · have hv : ocE a t = liE a := by rw [ocE, if_pos h]
    rw [hv, eV_of h]
    rw [eV_of h] at c1
    generalize liE a = E at *
    have C1 := Lib.hid c1; clear c1 c2 hv h
    go_enter Tryz.func202, Tryz.ntmps202
    go_wp2_with (go_at_call 109; refine C1.out.mono ?_; rintro e w1 ⟨rfl, hb1⟩)
    go_ret
    exact ⟨rfl, (by repeat (first | exact Below.refl _ _ | assumption | refine bal ?_ _ | refine bdn ?_ _ | refine bdr ?_ | refine bcl ?_ (by assumption)))⟩
theorem ocE_zero {a t : List Va} (h : ocE a t = 0) : liE a = 0 ∧ tuE t = 0 := by
  unfold ocE at h; split at h
  · rename_i h1; exact absurd h h1
  · rename_i h1; exact ⟨by simpa using h1, h⟩
set_option maxHeartbeats 400000 in
set_option maxRecDepth 100000 in
theorem onput_bad (v : Value) (A : Option Addr) (c : Nat) (a : List Va) (B : Option Addr) (d : Nat) (t : List Va) (hm : a.length ≤ maxLen) (hm2 : t.length ≤ maxLen) (ha : okL a) (ht : okL t) (w : World) (hA : Vals w A a) (hB : Vals w B t) (h : ocE a t ≠ 0) :
    Calls Tryz.prog 175 #[v, .slice A a.length c, .slice B t.length d] w fun e w' => e = .returned (.tuple #[.bool false, errV (ocE a t)]) ∧ Below w.heap.size w w' := by
  have c1 := oncheck_any A c a B d t hm hm2 ha ht w hA hB
  rw [eV_of h] at c1
  generalize ocE a t = E at *
  have C1 := Lib.hid c1; clear c1 h
  go_enter Tryz.func175, Tryz.ntmps175
  go_wp2_with (go_at_call 202; refine C1.out.mono ?_; rintro e w1 ⟨rfl, hb1⟩)
  go_ret2
  exact ⟨rfl, hb1⟩
set_option maxHeartbeats 400000 in
set_option maxRecDepth 100000 in
theorem onput_no (base p : Nat) (g : Option Nat) (L : List (List Va)) (A : Option Addr) (c : Nat) (a : List Va) (B : Option Addr) (d : Nat) (t : List Va) (hm : a.length ≤ maxLen) (hm2 : t.length ≤ maxLen) (ha : okL a) (ht : okL t) (w : World) (hA : Vals w A a) (hB : Vals w B t) (hS : Spc w base p g L) (h : ocE a t = 0) (hc : cnt a L L.length ≠ 0) :
    Calls Tryz.prog 175 #[.pointer (some ⟨p, 0, none⟩), .slice A a.length c, .slice B t.length d] w fun e w' => e = .returned (.tuple #[.bool false, .nilIface]) ∧ Below w.heap.size w w' := by
  have c1 := oncheck_any A c a B d t hm hm2 ha ht w hA hB
  have c2 := fun (W : World) (hS : Spc W base p g L) (hA : Vals W A a) => count_spc base p g L A c a hm ha (ocE_zero h).1 _ rfl W hS hA
  rw [h, eV_zero] at c1
  have hl := cnt_le a L L.length
  generalize cnt a L L.length = x at *
  have hq : decide (0 < x) = true := decide_eq_true (by omega)
  have C1 := Lib.hid c1; have C2 := Lib.hid c2; clear c1 c2 h hc
  go_enter Tryz.func175, Tryz.ntmps175
  go_wp2_with (first | (go_at_call 202; refine C1.out.mono ?_; rintro e w1 ⟨rfl, hb1⟩) | (go_at_call 145; refine (C2.out _ (hS.keep hb1) (hA.below hb1 (Nat.le_refl _))).mono ?_; rintro e w2 ⟨rfl, hb2⟩))
  go_ret2
  exact ⟨rfl, (by repeat (first | exact Below.refl _ _ | assumption | refine bal ?_ _ | refine bdn ?_ _ | refine bdr ?_ | refine bcl ?_ (by assumption)))⟩
set_option maxHeartbeats 800000 in
set_option maxRecDepth 100000 in
theorem onput_ok (base p : Nat) (g : Option Nat) (L : List (List Va)) (A : Option Addr) (c : Nat) (a : List Va) (B : Option Addr) (d : Nat) (t : List Va) (hm : a.length ≤ maxLen) (hm2 : t.length ≤ maxLen) (ha : okL a) (ht : okL t) (w : World) (hA : Vals w A a) (hB : Vals w B t) (hS : Spc w base p g L) (h : ocE a t = 0) (hc : cnt a L L.length = 0) (hl : L.length ≠ 20) :
    Calls Tryz.prog 175 #[.pointer (some ⟨p, 0, none⟩), .slice A a.length c, .slice B t.length d] w fun e w' => e = .returned (.tuple #[.bool true, .nilIface]) ∧ ∃ g', Spc w' base p g' (L ++ [t]) ∧ Chg p g w w' ∧ Nw g g' w.heap.size := by
  have c1 := oncheck_any A c a B d t hm hm2 ha ht w hA hB
  have c2 := fun (W : World) (hS : Spc W base p g L) (hA : Vals W A a) => count_spc base p g L A c a hm ha (ocE_zero h).1 _ hc W hS hA
  have hpe : putE L t = 0 := by rw [putE, if_neg (by rw [(ocE_zero h).2]; decide), if_neg hl]
  have c3 := fun (W : World) (hS : Spc W base p g L) (hB : Vals W B t) => spput_any base p g L B d t hm2 ht W hS hB
  rw [putL, hpe, if_pos rfl, eV_zero] at c3
  rw [h, eV_zero] at c1
  have C1 := Lib.hid c1; have C2 := Lib.hid c2; have C3 := Lib.hid c3; clear c1 c2 c3 h hc hpe
  go_enter Tryz.func175, Tryz.ntmps175
  go_wp2_with (first | (go_at_call 202; refine C1.out.mono ?_; rintro e w1 ⟨rfl, hb1⟩) | (go_at_call 145; refine (C2.out _ (hS.keep hb1) (hA.below hb1 (Nat.le_refl _))).mono ?_; rintro e w2 ⟨rfl, hb2⟩; have hb3 := bcl hb1 hb2) | (go_at_call 68; refine (C3.out _ (hS.keep hb3) (hB.below hb3 (Nat.le_refl _))).mono ?_; rintro e w3 ⟨rfl, g', hs, hx, hn⟩))
  go_ret2
  exact ⟨rfl, g', hs, (Chg.of_below hb3).trans hx (Nw.refl _ _), by
    rcases hn with h | ⟨b, h, hb⟩
    · exact .inl h
    · exact .inr ⟨b, h, Nat.le_trans hb3.size hb⟩⟩
end Go.Proofs.YtpgemofkolmabaaGreatDoor
namespace Go.Proofs.YtpgemofkolmabaaGreatDoor
open Go.RowKit Go.Joins
set_option linter.unusedVariables false

/-- a tuple's number -/
def dgt (t : List Va) : Int := hs (lin t) (lin t).size
theorem digtuple_any (A : Option Addr) (c : Nat) (t : List Va) (hm : t.length ≤ maxLen) (hok : okL t) (w : World) (hA : Vals w A t) (ht : TT w) :
    Calls Tryz.prog 147 #[.slice A t.length c] w fun e w' => e = .returned (.tuple #[.int .i64 (if liE t = 0 then dgt t else 0), eV (liE t)]) ∧ Below w.heap.size w w' := by
  have c1 := tprint_any A c t hm hok w hA ht
  by_cases h : liE t = 0
  · obtain ⟨_, h5, hr⟩ := rgt_of h
    have hsz := lin_size hr t.length
    rw [List.take_length] at hsz
    have c2 := fun (W : World) => digof_any (lin t) (by unfold maxLen; omega) W
    rw [show hs (lin t) (lin t).size = dgt t from rfl] at c2
    rw [h, if_pos rfl, eV_zero] at c1
    rw [h, if_pos rfl, eV_zero]
    have C1 := Lib.hid c1; have C2 := Lib.hid c2
    generalize dgt t = z at *
    generalize lin t = tx at *
    clear c1 c2 h h5 hr hA ht hok hm hsz
    go_enter Tryz.func147, Tryz.ntmps147
    go_wp2_with (first | (go_at_call 176; refine C1.out.mono ?_; rintro e w1 ⟨rfl, hb1⟩) | (go_at_call 80; refine (C2.out _).mono ?_; rintro e w2 ⟨rfl, hb2⟩))
    go_ret2
    exact ⟨rfl, bcl hb1 hb2⟩
  · rw [if_neg h, eV_of h] at c1
    rw [if_neg h, eV_of h]
    have C1 := Lib.hid c1
    generalize liE t = E at *
    clear c1 h hA ht hok hm
    go_enter Tryz.func147, Tryz.ntmps147
    go_wp2_with (go_at_call 176; refine C1.out.mono ?_; rintro e w1 ⟨rfl, hb1⟩)
    go_ret2
    exact ⟨rfl, hb1⟩
end Go.Proofs.YtpgemofkolmabaaGreatDoor
namespace Go.Proofs.YtpgemofkolmabaaGreatDoor
open Go.ChangeShapes Go.WideShapes Go.RowKit Go.Lib

abbrev laidT : List (String × DataW Unit) := [("math/bits.deBruijn32tab", Rows.laid_math_bits_deBruijn32tab), ("math/bits.deBruijn64tab", Rows.laid_math_bits_deBruijn64tab), ("internal/strconv.uint64pow10", Rows.laid_internal_strconv_uint64pow10)]
abbrev laidTH : List (String × DataW Unit) := [("math/bits.deBruijn32tab", Rows.laid_math_bits_deBruijn32tab), ("math/bits.deBruijn64tab", Rows.laid_math_bits_deBruijn64tab), ("internal/strconv.uint64pow10", Rows.laid_internal_strconv_uint64pow10), ("errors.errorType", Rows.laid_errors_errorType)]
theorem tt_of_met {W : World} (h : laidMet Tryz.prog laidT W) : TT W :=
  tabIs_of_head (g := 5) (by kernel_rfl) (t := (Tryz.prog.globals[5]!).type) (by kernel_rfl) (e := 236) (n := 20) (by kernel_rfl) Tryz.underlying236 (by kernel_rfl) (by kernel_rfl) h.tail.tail
theorem tt_of_laid {W : World} (h : laidMetH Tryz.prog laidT W) : TT W := tt_of_met (show laidMet Tryz.prog laidT W from h)
noncomputable def laidWorldT (os : Os) : World := World.laidAll Tryz.prog os laidT
theorem laidWorldT_met (os : Os) (args : Array Value) : laidMetH Tryz.prog laidT ((laidWorldT os).forCall (fun _ _ => 0) ⟨#[], args, []⟩).memory := by
  show laidMet Tryz.prog laidT _
  exact laidMet_laidAll args (by kernel_rfl) (by kernel_rfl)
theorem th_of_laid {W : World} (h : laidMetH Tryz.prog laidTH W) : HG W ∧ TT W := by
  have h' : laidMet Tryz.prog laidT W ∧ handlesMet Tryz.prog laidL W := h
  exact ⟨handle_of_laid (show laidMet Tryz.prog [] W ∧ handlesMet Tryz.prog laidL W from ⟨laidMet_nil _ _, h'.2⟩), tt_of_met h'.1⟩
noncomputable def laidWorldTH (os : Os) : World := (laidWorld os).layVars Tryz.prog laidT
theorem laidWorldTH_met (os : Os) (args : Array Value) : laidMetH Tryz.prog laidTH ((laidWorldTH os).forCall (fun _ _ => 0) ⟨#[], args, []⟩).memory := by
  refine laidMetH_of_parts ?_ (by kernel_rfl)
  show laidMet Tryz.prog laidT _
  have e1 : (laidT.filter fun x => (laidT.map (·.1)).contains x.1) = laidT := by kernel_rfl
  have e2 : (laidT.filter fun x => !(laidT.map (·.1)).contains x.1) = [] := by kernel_rfl
  have h : laidMet Tryz.prog laidT (laidWorldTH os) := laidMet_layVars (w0 := laidWorld os) (laidT.map (·.1)) [] (by rw [e1]; rfl) (by rw [e1]; kernel_rfl) (by rw [e1]; kernel_rfl) (by rw [e2]; exact LaidIn.none)
  exact h.of_heap (by simp [World.memory, World.forCall, Input.heap])
end Go.Proofs.YtpgemofkolmabaaGreatDoor
namespace Go.Proofs.YtpgemofkolmabaaGreatDoor
open Go.ChangeShapes Go.WideShapes Go.RowKit Go.Lib

theorem doorE.gS : Tryz.prog.globalNamed "strconv.ErrSyntax" = some 6 := by kernel_rfl
theorem doorE.gR : Tryz.prog.globalNamed "strconv.ErrRange" = some 7 := by kernel_rfl
theorem doorE.tS : (Tryz.prog.globals[6]?).map (·.type) = some 24 := by kernel_rfl
theorem doorE.tR : (Tryz.prog.globals[7]?).map (·.type) = some 24 := by kernel_rfl
theorem doorE.cE : Tryz.prog.cellsOf 302 = 1 := by kernel_rfl
theorem doorE.cS : Tryz.prog.cellsOf 9 = 1 := by kernel_rfl
theorem doorE.star : "*" ++ "errors.errorString" = "*errors.errorString" := by decide
theorem doorE.row (u : TypeId) (h : Tryz.prog.typeName? 3 u = some "*errors.errorString") : u = 300 :=
  typeName_ptr_named (nm := "errors.errorString") (by rw [doorE.star]; kernel_rfl) (by kernel_rfl) (by decide) u (by rw [doorE.star]; exact h)
theorem ee_of_met {W : World} {r : List (String × DataW Unit)} (h : laidMet Tryz.prog (("strconv.ErrRange", Rows.laid_strconv_ErrRange) :: ("strconv.ErrSyntax", Rows.laid_strconv_ErrSyntax) :: r) W) : EE W := by
  obtain ⟨a, s, hv, _⟩ := laid_sentinel h doorE.gR doorE.tR Tryz.underlying24 doorE.row Tryz.underlying300 Tryz.underlying302 rfl rfl Tryz.underlying9 doorE.cE doorE.cS
  obtain ⟨a2, s2, hv2, _⟩ := laid_sentinel h.tail doorE.gS doorE.tS Tryz.underlying24 doorE.row Tryz.underlying300 Tryz.underlying302 rfl rfl Tryz.underlying9 doorE.cE doorE.cS
  exact ⟨⟨_, _, by simpa using World.var?_cell doorE.gS hv2 0⟩, ⟨_, _, by simpa using World.var?_cell doorE.gR hv 0⟩⟩
theorem tt_of_head {W : World} {r : List (String × DataW Unit)} (h : laidMet Tryz.prog (("internal/strconv.uint64pow10", Rows.laid_internal_strconv_uint64pow10) :: r) W) : TT W :=
  tabIs_of_head (g := 5) (by kernel_rfl) (t := (Tryz.prog.globals[5]!).type) (by kernel_rfl) (e := 236) (n := 20) (by kernel_rfl) Tryz.underlying236 (by kernel_rfl) (by kernel_rfl) h
set_option maxRecDepth 100000 in
theorem as_of_head {W : World} {r : List (String × DataW Unit)} (h : laidMet Tryz.prog (("strings.asciiSpace", Rows.laid_strings_asciiSpace) :: r) W) : AS W :=
  tabIs_of_head (g := 3) (by kernel_rfl) (t := (Tryz.prog.globals[3]!).type) (by kernel_rfl) (e := 5) (n := 256) (by kernel_rfl) Tryz.underlying5 (by kernel_rfl) (by kernel_rfl) h
/-- all three tables that the logs lean on -/
def LT (W : World) : Prop := TT W ∧ EE W ∧ AS W
abbrev laidWA : List (String × DataW Unit) := [("math/bits.deBruijn32tab", Rows.laid_math_bits_deBruijn32tab), ("math/bits.deBruijn64tab", Rows.laid_math_bits_deBruijn64tab), ("internal/strconv.uint64pow10", Rows.laid_internal_strconv_uint64pow10), ("unicode/utf8.acceptRanges", Rows.laid_unicode_utf8_acceptRanges), ("strconv.ErrRange", Rows.laid_strconv_ErrRange), ("strconv.ErrSyntax", Rows.laid_strconv_ErrSyntax), ("unicode.White_Space", Rows.laid_unicode_White_Space), ("strings.asciiSpace", Rows.laid_strings_asciiSpace), ("unicode/utf8.first", Rows.laid_unicode_utf8_first)]
theorem lt_of_met {W : World} (h' : laidMet Tryz.prog laidWA W) : LT W :=
  ⟨tt_of_head h'.tail.tail, ee_of_met h'.tail.tail.tail.tail, as_of_head h'.tail.tail.tail.tail.tail.tail.tail⟩
theorem twa_of_laid {W : World} (h : laidMetH Tryz.prog laidWA W) : LT W := lt_of_met (show laidMet Tryz.prog laidWA W from h)
noncomputable def laidWorldWA (os : Os) : World := World.laidAll Tryz.prog os laidWA
theorem laidWorldWA_met (os : Os) (args : Array Value) : laidMetH Tryz.prog laidWA ((laidWorldWA os).forCall (fun _ _ => 0) ⟨#[], args, []⟩).memory := by
  show laidMet Tryz.prog laidWA _
  exact laidMet_laidAll args (by kernel_rfl) (by kernel_rfl)
theorem laidWorldWA_shaped (os : Os) (args : Array Value) : ((laidWorldWA os).forCall (fun _ _ => 0) ⟨#[], args, []⟩).Shaped Tryz.prog :=
  World.shaped_of_ZipB (by kernel_rfl) (by kernel_rfl)
/-! ### with the handle -/
abbrev laidWH : List (String × DataW Unit) := [("math/bits.deBruijn32tab", Rows.laid_math_bits_deBruijn32tab), ("math/bits.deBruijn64tab", Rows.laid_math_bits_deBruijn64tab), ("internal/strconv.uint64pow10", Rows.laid_internal_strconv_uint64pow10), ("unicode/utf8.acceptRanges", Rows.laid_unicode_utf8_acceptRanges), ("errors.errorType", Rows.laid_errors_errorType), ("strconv.ErrRange", Rows.laid_strconv_ErrRange), ("strconv.ErrSyntax", Rows.laid_strconv_ErrSyntax), ("unicode.White_Space", Rows.laid_unicode_White_Space), ("strings.asciiSpace", Rows.laid_strings_asciiSpace), ("unicode/utf8.first", Rows.laid_unicode_utf8_first)]
theorem twh_of_laid {W : World} (h : laidMetH Tryz.prog laidWH W) : HG W ∧ LT W := by
  have h' : laidMet Tryz.prog laidWA W ∧ handlesMet Tryz.prog laidL W := h
  exact ⟨handle_of_laid (show laidMet Tryz.prog [] W ∧ handlesMet Tryz.prog laidL W from ⟨laidMet_nil _ _, h'.2⟩), lt_of_met h'.1⟩
noncomputable def laidWorldWH (os : Os) : World := (laidWorld os).layVars Tryz.prog laidWA
theorem laidWorldWH_met (os : Os) (args : Array Value) : laidMetH Tryz.prog laidWH ((laidWorldWH os).forCall (fun _ _ => 0) ⟨#[], args, []⟩).memory := by
  refine laidMetH_of_parts ?_ (by kernel_rfl)
  show laidMet Tryz.prog laidWA _
  have e1 : (laidWA.filter fun x => (laidWA.map (·.1)).contains x.1) = laidWA := by kernel_rfl
  have e2 : (laidWA.filter fun x => !(laidWA.map (·.1)).contains x.1) = [] := by kernel_rfl
  have h : laidMet Tryz.prog laidWA (laidWorldWH os) := laidMet_layVars (w0 := laidWorld os) (laidWA.map (·.1)) [] (by rw [e1]; rfl) (by rw [e1]; kernel_rfl) (by rw [e1]; kernel_rfl) (by rw [e2]; exact LaidIn.none)
  exact h.of_heap (by simp [World.memory, World.forCall, Input.heap])
theorem laidWorldWH_shaped (os : Os) (args : Array Value) : ((laidWorldWH os).forCall (fun _ _ => 0) ⟨#[], args, []⟩).Shaped Tryz.prog :=
  World.shaped_of_ZipB (by kernel_rfl) (by kernel_rfl)
end Go.Proofs.YtpgemofkolmabaaGreatDoor
namespace Go.Proofs.YtpgemofkolmabaaGreatDoor
set_option linter.unusedVariables false

/-- a number's word: at most four digits, no needless nought -/
def numO (s : ByteArray) : Option Int := if s.size ≤ 4 then (match rdN s.data.toList with
  | some n => if 0 ≤ n then some n else none
  | none => none) else none
def cPut : ByteArray := ⟨#[112, 117, 116]⟩
def cRead : ByteArray := ⟨#[114, 101, 97, 100]⟩
def cTake : ByteArray := ⟨#[116, 97, 107, 101]⟩
def cCount : ByteArray := ⟨#[99, 111, 117, 110, 116]⟩
def cPrint : ByteArray := ⟨#[112, 114, 105, 110, 116]⟩
def cOnce : ByteArray := ⟨#[111, 110, 99, 101]⟩
def cDeal : ByteArray := ⟨#[100, 101, 97, 108]⟩
def cBad : ByteArray := ⟨#[98, 97, 100]⟩
def cYes : ByteArray := ⟨#[121, 101, 115]⟩
def cNo : ByteArray := ⟨#[110, 111]⟩
def cLong : ByteArray := ⟨#[116, 111, 111, 32, 108, 111, 110, 103, 10]⟩
/-- how many words go with one -/
def wantN (w : ByteArray) : Option Nat :=
  if w = cPut ∨ w = cRead ∨ w = cTake ∨ w = cCount ∨ w = cPrint then some 1 else if w = cOnce then some 2 else if w = cDeal then some 3 else none
/-- an error's name -/
def nmB (e : Int) : ByteArray :=
  if e = 0 then ⟨#[79, 75]⟩ else if e = 1 then ⟨#[69, 114, 114, 82, 97, 110, 103, 101]⟩ else if e = 2 then ⟨#[69, 114, 114, 83, 121, 110, 116, 97, 120]⟩
  else if e = 3 then ⟨#[69, 114, 114, 83, 104, 97, 112, 101]⟩ else if e = 4 then ⟨#[69, 114, 114, 70, 117, 108, 108]⟩ else if e = 5 then ⟨#[69, 114, 114, 78, 111, 110, 101]⟩
  else if e = 6 then ⟨#[69, 114, 114, 83, 116, 97, 116, 101]⟩ else if e = 7 then ⟨#[69, 114, 114, 67, 108, 97, 115, 104]⟩ else if e = 8 then ⟨#[69, 114, 114, 68, 101, 110, 105, 101, 100]⟩ else ⟨#[69, 114, 114, 110, 111]⟩
/-- the shares of a secret, if it may be dealt -/
def dlL (a b d : Int) : List Sh := if shE a [b] d = 0 then dealL [a, b] d.toNat else []
/-- a secret dealt: the text, and the fault (none: it cannot be read) -/
def dlT (x y z : ByteArray) : ByteArray := match numO x, numO y, numO z with
  | some a, some b, some d => jn ((dlL a b d).map fun s => itB s.2) ⟨#[32]⟩
  | _, _, _ => ⟨#[]⟩
def dlK (x y z : ByteArray) : Option Int := match numO x, numO y, numO z with
  | some a, some b, some d => some (shE a [b] d)
  | _, _, _ => none
/-- can all be read? -/
def allB (l : List ByteArray) : Bool := l.all fun x => decide (tpE x = 0)
/-- what once.Put tells, and does -/
def poE (a t : List Va) (L : List (List Va)) : Int := if ocE a t ≠ 0 then ocE a t else if cnt a L L.length ≠ 0 then 0 else if L.length = 20 then 4 else 0
def poB (a t : List Va) (L : List (List Va)) : Bool := decide (ocE a t = 0 ∧ cnt a L L.length = 0 ∧ L.length ≠ 20)
def poL (a t : List Va) (L : List (List Va)) : List (List Va) := if poB a t L = true then L ++ [t] else L
/-- words with tuples that can be read: the text, the fault, and what is there then -/
def dT (L : List (List Va)) (w : ByteArray) (t u : List Va) : ByteArray :=
  if w = cPut then txOk else if w = cRead ∨ w = cTake then lin (rT t L) else if w = cCount then itB (cnt t L L.length) else if w = cOnce then (if poB t u L = true then cYes else cNo) else itB (dgt t)
def dE (L : List (List Va)) (w : ByteArray) (t u : List Va) : Int := if w = cPut then putE L t else if w = cRead ∨ w = cTake then finE t L else if w = cOnce then poE t u L else 0
def dL (L : List (List Va)) (w : ByteArray) (t u : List Va) : List (List Va) := if w = cPut then putL L t else if w = cTake then rL t L else if w = cOnce then poL t u L else L
/-- a line's words: the text, the fault (none: it cannot be read), and what is there then -/
def lnT (L : List (List Va)) (x : ByteArray) (r : List ByteArray) : ByteArray :=
  if wantN x ≠ some r.length then ⟨#[]⟩ else if x = cDeal then dlT (gs r 0) (gs r 1) (gs r 2) else if allB r = false then ⟨#[]⟩ else dT L x (tpR (gs r 0)) (tpR (gs r 1))
def lnK (L : List (List Va)) (x : ByteArray) (r : List ByteArray) : Option Int :=
  if wantN x ≠ some r.length then none else if x = cDeal then dlK (gs r 0) (gs r 1) (gs r 2) else if allB r = false then none else some (dE L x (tpR (gs r 0)) (tpR (gs r 1)))
def lnL (L : List (List Va)) (x : ByteArray) (r : List ByteArray) : List (List Va) :=
  if wantN x ≠ some r.length then L else if x = cDeal then L else if allB r = false then L else dL L x (tpR (gs r 0)) (tpR (gs r 1))
/-- what is answered -/
def saidB (t : ByteArray) : Option Int → ByteArray
  | none => cBad
  | some e => if e = 0 then t else nmB e
def wd (s : ByteArray) : ByteArray := gs (pcsB 32 s) 0
def wr (s : ByteArray) : List ByteArray := (pcsB 32 s).tail
def lineF (L : List (List Va)) (s : ByteArray) : ByteArray × List (List Va) := (saidB (lnT L (wd s) (wr s)) (lnK L (wd s) (wr s)), lnL L (wd s) (wr s))
/-- a line without its end -/
def noEnd (s : ByteArray) : ByteArray := ⟨(Lib.trimSuffix s.data.toList [10]).toArray⟩
def stepF (x : ByteArray × List (List Va)) (s : ByteArray) : ByteArray × List (List Va) := (x.1 ++ ((lineF x.2 (noEnd s)).1 ++ ⟨#[10]⟩), (lineF x.2 (noEnd s)).2)
def runL (l : List ByteArray) : ByteArray × List (List Va) := l.foldl stepF (⟨#[]⟩, [])
def runF (t : ByteArray) : ByteArray := if 3000 < t.size then cLong else (runL (lnB t)).1
end Go.Proofs.YtpgemofkolmabaaGreatDoor
namespace Go.Proofs.YtpgemofkolmabaaGreatDoor
open Go.ChangeShapes Go.WideShapes Go.ChangeAt Go.RowKit Go.Maps Go.WideMaps
set_option linter.unusedVariables false

def keyS (s : ByteArray) : Lit := .string s.data.toList
theorem keyS_inj {s t : ByteArray} : keyS s = keyS t ↔ s = t := ⟨fun h => bytes_eq (by injection h), fun h => by rw [h]⟩
theorem keyS_lit (s : ByteArray) : WideAt.IsKeyLit (keyS s) := by simp [keyS, WideAt.IsKeyLit]
theorem keyS_of {s : ByteArray} (h : s.size ≤ maxLen) : keyOf Tryz.prog 9 (.string s) = some (keyS s) := keyOf_string_mk Tryz.underlying9 h
theorem lawS : Keyed Tryz.prog 9 := string_keyed Tryz.underlying9
/-- the map of words -/
def WMap (w : World) (B : Nat) : Prop := ∃ n m hs f, VMap w 9 B n m (.int .i64 0) hs f ∧ ∀ x : ByteArray, hs (keyS x) = (wantN x).isSome ∧ f (keyS x) = .int .i64 (((wantN x).getD 0 : Nat) : Int)
theorem WMap.keep {w w' : World} {B : Nat} (h : WMap w B) (hb : Below w.heap.size w w') : WMap w' B := by
  obtain ⟨n, m, hs, f, h1, h2⟩ := h
  exact ⟨n, m, hs, f, h1.keep hb, h2⟩
def tWM : TypeId := 171
set_option maxHeartbeats 1600000 in
set_option maxRecDepth 100000 in
theorem wants_any (w : World) : Calls Tryz.prog 119 #[] w fun e w' => e = .returned (.map (some w.heap.size)) ∧ WMap w' w.heap.size ∧ Below w.heap.size w w' := by
  have hb0 : Below w.heap.size w (w.alloc (.map #[] 0)) := bal1 _ _
  have step := fun (W : World) (n m : Nat) (hs : Lit → Bool) (f : Lit → Value) (hn : n < 100) (h : VMap W 9 w.heap.size n m (.int .i64 0) hs f) (c : ByteArray) (hc : c.size ≤ maxLen) (v : Int) =>
    run_update_v (w := W) 171 9 3 lawS Tryz.underlying171 w.heap.size n m _ hs f h (by unfold maxLen; omega) (.string c) (keyS c) (keyS_of hc) (keyS_lit c) (.int .i64 v)
  obtain ⟨w1, r1, v1, g1⟩ := step _ _ _ _ _ (by decide) (VMap.made w 9 (.int .i64 0)) cPut (by decide) 1
  obtain ⟨w2, r2, v2, g2⟩ := step _ _ _ _ _ (by decide) v1 cRead (by decide) 1
  obtain ⟨w3, r3, v3, g3⟩ := step _ _ _ _ _ (by decide) v2 cTake (by decide) 1
  obtain ⟨w4, r4, v4, g4⟩ := step _ _ _ _ _ (by decide) v3 cCount (by decide) 1
  obtain ⟨w5, r5, v5, g5⟩ := step _ _ _ _ _ (by decide) v4 cPrint (by decide) 1
  obtain ⟨w6, r6, v6, g6⟩ := step _ _ _ _ _ (by decide) v5 cOnce (by decide) 2
  obtain ⟨w7, r7, v7, g7⟩ := step _ _ _ _ _ (by decide) v6 cDeal (by decide) 3
  have hr : ∀ k : Nat, some w.heap.size = some k → w.heap.size ≤ k := fun k e => by injection e with e; omega
  have hb : Below w.heap.size w w7 := bgr (bgr (bgr (bgr (bgr (bgr (bgr hb0 g1 hr) g2 hr) g3 hr) g4 hr) g5 hr) g6 hr) g7 hr
  have hm : WMap w7 w.heap.size := by
    refine ⟨_, _, _, _, v7, fun x => ?_⟩
    simp only [keyS_inj, wantN]
    by_cases h1 : x = cPut
    · subst h1; simp [cPut, cRead, cTake, cCount, cPrint, cOnce, cDeal]
    by_cases h2 : x = cRead
    · subst h2; simp [cPut, cRead, cTake, cCount, cPrint, cOnce, cDeal]
    by_cases h3 : x = cTake
    · subst h3; simp [cPut, cRead, cTake, cCount, cPrint, cOnce, cDeal]
    by_cases h4 : x = cCount
    · subst h4; simp [cPut, cRead, cTake, cCount, cPrint, cOnce, cDeal]
    by_cases h5 : x = cPrint
    · subst h5; simp [cPut, cRead, cTake, cCount, cPrint, cOnce, cDeal]
    by_cases h6 : x = cOnce
    · subst h6; simp [cPut, cRead, cTake, cCount, cPrint, cOnce, cDeal]
    by_cases h7 : x = cDeal
    · subst h7; simp [cPut, cRead, cTake, cCount, cPrint, cOnce, cDeal]
    simp [h1, h2, h3, h4, h5, h6, h7]
  have HM := Lib.hid hm; have HB := Lib.hid hb
  clear step v1 v2 v3 v4 v5 v6 v7 g1 g2 g3 g4 g5 g6 g7 hm hb hb0 hr
  simp only [cPut, cRead, cTake, cCount, cPrint, cOnce, cDeal] at r1 r2 r3 r4 r5 r6 r7
  have hmm := @run_makeMap Tryz.prog
  go_enter Tryz.func119, Tryz.ntmps119
  go_wp2_with fail
  go_ret
  exact ⟨rfl, HM.out, HB.out⟩
end Go.Proofs.YtpgemofkolmabaaGreatDoor
namespace Go.Proofs.YtpgemofkolmabaaGreatDoor
open Go.ChangeShapes Go.WideShapes Go.ChangeAt Go.RowKit Go.Joins
set_option linter.unusedVariables false

theorem numO_long {s : ByteArray} (h : ¬ s.size ≤ 4) : numO s = none := if_neg h
theorem numO_no {s : ByteArray} (h : ∀ v, Lib.atoiAll s.data.toList ≠ .ok v) : numO s = none := by
  have h1 : rdN s.data.toList = none := by
    rw [← rd_eq, rdA]
    split
    · rename_i n hn; exact absurd hn (h n)
    · rfl
  unfold numO
  rw [h1]
  split <;> rfl
theorem numO_neg {s : ByteArray} {n : Int} (h : Lib.atoiAll s.data.toList = .ok n) (h0 : ¬ 0 ≤ n) : numO s = none := by
  have h1 : rdN s.data.toList = none ∨ rdN s.data.toList = some n := by
    rw [← rd_eq, rdA, h]
    dsimp only
    split
    · exact .inr rfl
    · exact .inl rfl
  unfold numO
  rcases h1 with h1 | h1
  · rw [h1]; split <;> rfl
  · rw [h1]
    split
    · dsimp only; rw [if_neg h0]
    · rfl
theorem numO_other {s : ByteArray} {n : Int} (h : Lib.atoiAll s.data.toList = .ok n) (h2 : Lib.itoa n ≠ s.data.toList) : numO s = none := by
  have h1 : rdN s.data.toList = none := by
    rw [← rd_eq, rdA, h]
    dsimp only
    rw [if_neg fun e => h2 e.1]
  unfold numO
  rw [h1]
  split <;> rfl
theorem trim_len (l : List UInt8) : (Lib.trimPrefix l [45]).length ≤ l.length := by
  by_cases h : l.head? = some 45
  · cases l with
    | nil => cases h
    | cons c r =>
      obtain rfl : c = 45 := Option.some.inj h
      rw [trim_minus, List.length_cons]; omega
  · rw [trim_other l h]; exact Nat.le_refl _
theorem numO_yes {s : ByteArray} {n : Int} (h : Lib.atoiAll s.data.toList = .ok n) (h0 : 0 ≤ n) (h4 : s.size ≤ 4) (h2 : Lib.itoa n = s.data.toList) : numO s = some n := by
  have h1 : rdN s.data.toList = some n := by
    rw [← rd_eq, rdA, h]
    dsimp only
    rw [if_pos ⟨h2, by
      have := trim_len s.data.toList
      have e : s.data.toList.length = s.size := Array.length_toList
      omega⟩]
  unfold numO
  rw [h1, if_pos h4]
  dsimp only
  rw [if_pos h0]
theorem numO_range {s : ByteArray} {n : Int} (h : numO s = some n) : 0 ≤ n ∧ n ≤ 9223372036854775807 := by
  unfold numO at h
  split at h
  · split at h
    · rename_i m hm
      split at h
      · rename_i h0
        have h1 := hm
        rw [← rd_eq, rdA] at h1
        split at h1
        · rename_i k hk
          have hb := Lib.atoiAll_bounds hk
          split at h1
          · injection h1 with h1; injection h with h; subst h; subst h1; exact ⟨h0, hb.2⟩
          · cases h1
        · cases h1
      · cases h
    · cases h
  · cases h
set_option maxHeartbeats 1600000 in
set_option maxRecDepth 100000 in
theorem rnumber_any (s : ByteArray) (hs : s.size ≤ 100000) (w : World) (ht : TT w) (he : EE w) :
    Calls Tryz.prog 141 #[.string s] w fun e w' => (∃ n : Int, e = .returned (.tuple #[.int .i64 n, .bool (numO s).isSome]) ∧ (numO s = none ∨ numO s = some n)) ∧ Below w.heap.size w w' := by
  by_cases hok : ∃ n, Lib.atoiAll s.data.toList = .ok n
  · obtain ⟨n, hn⟩ := hok
    have c2 := atoi_ok s (by omega) n hn w
    obtain ⟨n0, n1⟩ := Lib.atoiAll_bounds hn
    have c3 := fun (W : World) (hW : Below w.heap.size w W) => itoa_any n n0 n1 W (tab_stays (g := 5) (by kernel_rfl) ht hW (Nat.le_refl _))
    have C2 := Lib.hid c2; have C3 := Lib.hid c3
    clear c2 c3 ht he
    by_cases h0 : 0 ≤ n
    · by_cases h4 : s.size ≤ 4
      · have d4 : (s.size : Int) ≤ 4 := by omega
        by_cases h2 : Lib.itoa n = s.data.toList
        · have hv := Lib.hid (numO_yes hn h0 h4 h2)
          have e : (⟨(Lib.itoa n).toArray⟩ : ByteArray) = s := bytes_eq (by rw [← h2])
          rw [e] at C3
          have t2 := str_same s
          clear h2 hn h4 e hs
          go_enter Tryz.func141, Tryz.ntmps141
          go_wp2_with (first | (go_at_call 130; refine C2.out.mono ?_; rintro e w1 ⟨rfl, hb1⟩; have HB1 := Lib.hid hb1; clear hb1) | (go_at_call 82; refine (C3.out _ HB1.out).mono ?_; rintro e w2 ⟨rfl, hb2⟩; have HB2 := Lib.hid (bcl HB1.out hb2); clear hb2))
          go_ret2
          exact ⟨⟨n, by rw [hv.out]; rfl, .inr hv.out⟩, HB2.out⟩
        · have hv := Lib.hid (numO_other hn h2)
          have e : (⟨(Lib.itoa n).toArray⟩ : ByteArray) ≠ s := fun e => h2 (by rw [← e])
          have t2 := str_other e
          generalize (⟨(Lib.itoa n).toArray⟩ : ByteArray) = tx at *
          clear h2 hn h4 e hs
          go_enter Tryz.func141, Tryz.ntmps141
          go_wp2_with (first | (go_at_call 130; refine C2.out.mono ?_; rintro e w1 ⟨rfl, hb1⟩; have HB1 := Lib.hid hb1; clear hb1) | (go_at_call 82; refine (C3.out _ HB1.out).mono ?_; rintro e w2 ⟨rfl, hb2⟩; have HB2 := Lib.hid (bcl HB1.out hb2); clear hb2))
          go_ret2
          exact ⟨⟨n, by rw [hv.out]; rfl, .inl hv.out⟩, HB2.out⟩
      · have hv := Lib.hid (numO_long h4)
        have d4 : decide ((s.size : Int) ≤ 4) = false := by simp; omega
        clear hn h4 hs
        go_enter Tryz.func141, Tryz.ntmps141
        go_wp2_with (first | (go_at_call 130; refine C2.out.mono ?_; rintro e w1 ⟨rfl, hb1⟩; have HB1 := Lib.hid hb1; clear hb1))
        go_ret2
        exact ⟨⟨n, by rw [hv.out]; rfl, .inl hv.out⟩, HB1.out⟩
    · have hv := Lib.hid (numO_neg hn h0)
      have d0 : decide (0 ≤ n) = false := decide_eq_false h0
      clear hn hs
      go_enter Tryz.func141, Tryz.ntmps141
      go_wp2_with (first | (go_at_call 130; refine C2.out.mono ?_; rintro e w1 ⟨rfl, hb1⟩; have HB1 := Lib.hid hb1; clear hb1))
      go_ret2
      exact ⟨⟨n, by rw [hv.out]; rfl, .inl hv.out⟩, HB1.out⟩
  · have hno : ∀ v, Lib.atoiAll s.data.toList ≠ .ok v := fun v h => hok ⟨v, h⟩
    have hv := Lib.hid (numO_no hno)
    have c2 := atoi_no s (by omega) hno w he
    have C2 := Lib.hid c2
    clear c2 ht he hno hok hs
    go_enter Tryz.func141, Tryz.ntmps141
    go_wp2_with (go_at_call 130; refine C2.out.mono ?_; rintro e w1 ⟨m, T, N, rfl, hb1⟩; have HB1 := Lib.hid hb1; clear hb1)
    go_ret2
    exact ⟨⟨m, by rw [hv.out]; rfl, .inl hv.out⟩, HB1.out⟩
theorem rtold_any (A : Option Addr) (c : Nat) (t : List Va) (v : Value) (h5 : t.length ≤ 1000) (hr : rgt t) (w : World) (hA : Vals w A t) (ht : TT w) :
    Calls Tryz.prog 143 #[.slice A t.length c, v] w fun e w' => e = .returned (.tuple #[.string (lin t), v]) ∧ Below w.heap.size w w' := by
  have c1 := tword_any A c t h5 hr w hA ht
  have C1 := Lib.hid c1
  clear c1 hr hA ht h5
  go_enter Tryz.func143, Tryz.ntmps143
  go_wp2_with (go_at_call 79; refine C1.out.mono ?_; rintro e w1 ⟨rfl, hb1⟩; have HB1 := Lib.hid hb1; clear hb1)
  go_ret2
  exact ⟨rfl, HB1.out⟩
theorem rdigit_any (n : Int) (h0 : -9223372036854775808 ≤ n) (h1 : n ≤ 9223372036854775807) (v : Value) (w : World) (ht : TT w) :
    Calls Tryz.prog 144 #[.int .i64 n, v] w fun e w' => e = .returned (.tuple #[.string (itB n), v]) ∧ Below w.heap.size w w' := by
  have c1 := itoa_any n h0 h1 w ht
  rw [show (⟨(Lib.itoa n).toArray⟩ : ByteArray) = itB n from rfl] at c1
  have C1 := Lib.hid c1
  clear c1 ht h0 h1
  go_enter Tryz.func144, Tryz.ntmps144
  go_wp2_with (go_at_call 82; refine C1.out.mono ?_; rintro e w1 ⟨rfl, hb1⟩; have HB1 := Lib.hid hb1; clear hb1)
  go_ret2
  exact ⟨rfl, HB1.out⟩
end Go.Proofs.YtpgemofkolmabaaGreatDoor
namespace Go.Proofs.YtpgemofkolmabaaGreatDoor
open Go.ChangeShapes Go.WideShapes Go.ChangeAt Go.RowKit Go.Joins
set_option linter.unusedVariables false

theorem pcsB_ln (s : ByteArray) (c : UInt8) : (pcsB c s).length ≤ s.size + 1 := by
  have := pcs_cnt c s.data.toList
  rw [Array.length_toList] at this
  rw [pcsB, List.length_map]
  exact this
/-- the variable 'unread' holds the error of a line that cannot be read -/
def UR (w : World) : Prop := w.cell? ⟨0, 0, none⟩ = some (errV 2)
theorem UR.below {w w' : World} {B : Nat} (h : UR w) (hb : Below B w w') (hB : w.heap.size ≤ B) : UR w' := (hb.cell (p := ⟨0, 0, none⟩) (Nat.lt_of_lt_of_le (lt_of_cell h) hB)).trans h
theorem OMany.base {α : Type} {Q : World → Option Addr → List α → Prop} {t e : TypeId} {w : World} {base : Nat} {A : Option Addr} {c : Nat} {L : List (List α)} (h : OMany Q t e w base A c L) {a : Addr} (ha : A = some a) : base ≤ a.block := by
  obtain ⟨vs, h1, _⟩ := h
  rcases h1.2 with ⟨h2, _⟩ | ⟨g, cap, cur, h3, h4, _⟩
  · rw [ha] at h2; cases h2
  · rw [ha] at h3; cases h3; exact h4
/-- that error -/
def badV : Value := .iface 155 (.agg #[errV 2])
/-- a fault as an error -/
def kV : Option Int → Value
  | none => badV
  | some e => eV e
/-- all that a session leans on -/
def RT (w : World) : Prop := TT w ∧ EE w ∧ UR w
theorem RT.below {w w' : World} (h : RT w) (hb : Below w.heap.size w w') : RT w' := ⟨tab_stays (g := 5) (by kernel_rfl) h.1 hb (Nat.le_refl _), h.2.1.below hb (Nat.le_refl _), h.2.2.below hb (Nat.le_refl _)⟩
theorem all_next {l : List ByteArray} {k : Nat} {x : ByteArray} (h : allB (l.take k) = true) (hx : l[k]? = some x) : allB (l.take (k + 1)) = decide (tpE x = 0) := by
  unfold allB at h ⊢
  rw [List.take_add_one, hx, List.all_append, h]; simp
theorem all_not {l : List ByteArray} {k : Nat} {x : ByteArray} (hx : l[k]? = some x) (he : tpE x ≠ 0) : allB l = false := by
  unfold allB
  rw [Bool.eq_false_iff]
  intro h
  have := List.all_eq_true.1 h x (List.mem_of_getElem? hx)
  exact he (of_decide_eq_true this)
set_option maxHeartbeats 1600000 in
set_option maxRecDepth 100000 in
theorem rtuples_any (A : Option Addr) (c : Nat) (l : List ByteArray) (hl : l.length ≤ 100000) (hs : ∀ x ∈ l, x.size ≤ 100000) (w : World) (hA : Strs w A l) (hr : RT w) :
    Calls Tryz.prog 121 #[.slice A l.length c] w fun e w' => (∃ B C, (allB l = true ∧ e = .returned (.tuple #[.slice B l.length C, .nilIface]) ∧ Many Vals w' B (l.map tpR) ∧ ∀ a, B = some a → w.heap.size ≤ a.block) ∨ (allB l = false ∧ e = .returned (.tuple #[.slice none 0 0, badV]))) ∧ Below w.heap.size w w' := by
  have hp := fun (x : ByteArray) (hx : x ∈ l) (W : World) (hW : Below w.heap.size w W) => tparse_any x (by have := hs x hx; omega) (by have := pcsB_ln x 44; have := hs x hx; omega) W (hr.below hW).1 (hr.below hW).2.1
  have HP := Lib.hid hp; have HA := Lib.hid hA; have HR := Lib.hid hr; have HS := Lib.hid hs
  clear hp hA hr hs
  go_enter Tryz.func121, Tryz.ntmps121
  go_wp2_with fail
  go_loopw [4, 6, 7, 8, 11] (fun o _ _ _ i wr => ∃ (k : Nat) (A' : Option Addr) (c' : Nat), k ≤ l.length ∧ i = .int .i64 k ∧ o = .slice A' k c' ∧ Hid (OMany Vals 31 30 wr w.heap.size A' c' ((l.take k).map tpR)) ∧ Hid (Below w.heap.size w wr) ∧ Hid (allB (l.take k) = true)) (fun _ _ _ _ i _ => l.length - (intOf i).toNat)
  case atStart => exact ⟨0, none, 0, Nat.zero_le _, rfl, rfl, OMany.nil, Below.refl _ _, rfl⟩
  case round =>
    obtain ⟨k, A', c', hk, rfl, rfl, HO, HB, HALL⟩ := hrel
    have htk : ((l.take k).map tpR).length = k := by rw [List.length_map, List.length_take]; omega
    by_cases hlt : k < l.length
    · have i0 : (0 : Int) ≤ (k : Int) := by omega
      have i1 : (k : Int) < (l.length : Int) := by omega
      obtain ⟨b2, o2, rfl, hl2, ch0⟩ := (HA.out.below HB.out (Nat.le_refl _)).at_ hlt
      obtain ⟨x, hx⟩ : ∃ x, l[k]? = some x := ⟨_, List.getElem?_eq_getElem hlt⟩
      have hgx : gs l k = x := by simp [gs, List.getD_eq_getElem?_getD, hx]
      rw [hgx] at ch0
      have cp := fun (W : World) (hW : Below w.heap.size w W) => HP.out x (List.mem_of_getElem? hx) W hW
      by_cases hE : tpE x = 0
      · have hall := (all_next HALL.out hx).trans (decide_eq_true hE)
        have hmap : (l.take (k + 1)).map tpR = (l.take k).map tpR ++ [tpR x] := by rw [List.take_add_one, hx]; simp
        rw [hE, eV_zero] at cp
        have CP := Lib.hid cp; have HALL2 := Lib.hid hall; have HMAP := Lib.hid hmap; have HTK := Lib.hid htk
        have hz := HB.out.size
        clear cp hall hmap hE hgx hx htk
        generalize tpR x = R at *
        go_wp2_with (first
          | (go_at_call 131; refine (CP.out _ HB.out).mono ?_; rintro e w2 ⟨⟨A2, c2, rfl, ho2⟩, hb2⟩; have HO2 := Lib.hid ho2; clear ho2; have hb3 := bcl HB.out hb2)
          | (at_builtin; refine wpList_append_many vals_stay rfl _ _ 42 31 30 rfl Tryz.underlying42 infoVals (by decide) w.heap.size A' c' ((l.take k).map tpR) (by rw [HTK.out]; rfl) (HO.out.keep vals_stay hz (bal hb2 _)) w2.heap.size A2 R c2 rfl (cell_new1 _ _ _) (Sl.alloc HO2.out.vals _) HO2.out.cap.1 HO2.out.cap.2 ((Inn.own HO2.out).alloc (Nat.le_trans hz hb2.size) _) (by rw [HTK.out]; omega) (le_al hb3.size _) ?_; intro A3 c3 w3 ho3 hb4; rw [← HMAP.out] at ho3; rw [HTK.out]))
        go_roundw
        case rel => exact ⟨k + 1, A3, c3, by omega, by go_num, rfl, ho3, (bal hb3 _).trans hb4, HALL2⟩
        case measure => simp [intOf]; omega
      · have hall := all_not hx hE
        rw [eV_of hE] at cp
        have CP := Lib.hid cp; have HALL2 := Lib.hid hall
        clear cp hall hE hgx hx htk
        generalize tpE x = E at *
        generalize tpR x = R at *
        go_wp2_with (go_at_call 131; refine (CP.out _ HB.out).mono ?_; rintro e w2 ⟨⟨A2, c2, rfl, ho2⟩, hb2⟩; have hur : w2.cell? ⟨0, 0, none⟩ = some (errV 2) := (HR.out.below (bcl HB.out hb2)).2.2; have HB3 := Lib.hid (bcl HB.out hb2); clear ho2 hb2)
        go_region
        go_wp2_with fail
        go_ret2
        exact ⟨⟨none, 0, .inr ⟨HALL2.out, rfl⟩⟩, by first | exact bdn HB3.out _ | exact bdr HB3.out | exact HB3.out⟩
    · obtain rfl : k = l.length := by omega
      have ho := HO.out
      have ha := HALL.out
      rw [List.take_length] at ho ha
      have HO2 := Lib.hid ho; have HALL2 := Lib.hid ha
      clear ho ha htk
      go_wp2_with fail
      go_ret2
      exact ⟨⟨A', c', .inl ⟨HALL2.out, rfl, HO2.out.many, fun a ha => HO2.out.base ha⟩⟩, HB.out⟩
end Go.Proofs.YtpgemofkolmabaaGreatDoor
namespace Go.Proofs.YtpgemofkolmabaaGreatDoor
open Go.ChangeShapes Go.WideShapes Go.ChangeAt Go.RowKit Go.Joins
set_option linter.unusedVariables false

/-- what a dealt secret is answered, and the error -/
def dlV (x y z : ByteArray) : Value := .tuple #[.string (dlT x y z), kV (dlK x y z)]
def nmv (x : ByteArray) : Int := (numO x).getD 0
theorem dlL_ok (a b d : Int) : (dlL a b d).length ≤ 7 ∧ ∀ k, k < (dlL a b d).length → 0 ≤ gb (dlL a b d) k ∧ gb (dlL a b d) k < 257 := by
  unfold dlL
  split
  · rename_i h
    obtain ⟨_, _, _, h4, _⟩ := shE_zero h
    have h7 := (manB_true.1 h4).2
    have h1 := (manB_true.1 h4).1
    refine ⟨by rw [dealL_length]; omega, fun k hk => ?_⟩
    rw [dealL_length] at hk
    rw [deal_gb _ _ _ hk]
    exact PM.hor_range _ _
  · exact ⟨by simp, fun k hk => by simp at hk⟩
theorem jn_shares {sh : List Sh} (h7 : sh.length ≤ 7) (hr : ∀ k, k < sh.length → 0 ≤ gb sh k ∧ gb sh k < 257) : (jn (sh.map fun s => itB s.2) ⟨#[32]⟩).size ≤ 1000 := by
  refine Nat.le_trans (jn_size _ _ 21 fun x hx => ?_) ?_
  · obtain ⟨s, hs, rfl⟩ := List.mem_map.1 hx
    obtain ⟨i, hi, rfl⟩ := List.mem_iff_getElem.1 hs
    have := hr i hi
    have e : gb sh i = sh[i].2 := by simp [gb, List.getD_eq_getElem?_getD, List.getElem?_eq_getElem hi]
    rw [e] at this
    exact itB_size (by omega) (by omega)
  · rw [List.length_map]
    show sh.length * (21 + 1) ≤ 1000
    omega
theorem deal_all (a b d : Int) (A : Option Addr) (C : Nat) (w : World) (hI : Ints w A [b]) :
    Calls Tryz.prog 142 #[.int .i64 a, .slice A 1 C, .int .i64 d] w fun e w' => ∃ A' c', e = .returned (.tuple #[.slice A' (dlL a b d).length c', eV (shE a [b] d)]) ∧ Shares w' A' (dlL a b d) ∧ Below w.heap.size w w' := by
  by_cases h : shE a [b] d = 0
  · have hd0 : 0 ≤ d := by obtain ⟨_, _, _, h4, _⟩ := shE_zero h; have := (manB_true.1 h4).1; omega
    obtain ⟨n, rfl⟩ : ∃ n : Nat, d = n := ⟨d.toNat, by omega⟩
    have e : dlL a b n = dealL [a, b] n := by rw [dlL, if_pos h, show ((n : Int)).toNat = n by omega]
    rw [e, h, eV_zero, dealL_length]
    exact (deal_ok a A C [b] n h w hI).mono fun e w' ⟨A', c', h1, h2, h3⟩ => ⟨A', c', h1, h2.shares, h3⟩
  · have e : dlL a b d = [] := if_neg h
    rw [e, eV_of h]
    exact (deal_no a A C [b] d h w hI).mono fun e w' ⟨h1, h2⟩ => ⟨none, 0, h1, Shares.nil, h2 ▸ Below.refl _ _⟩
theorem bgrO {w0 w w' : World} {A : Option Addr} {c : Nat} {l : List ByteArray} (h : Below w0.heap.size w0 w) (hg : w.grownBy w' (Value.slice A l.length c).ownBlock) (ho : OStrs w w0.heap.size A c l) : Below w0.heap.size w0 w' :=
  bgr h hg fun k hk => (ho.block hk).1
set_option maxHeartbeats 3200000 in
set_option maxRecDepth 100000 in
theorem rundeal_any (A : Option Addr) (c : Nat) (x y z : ByteArray) (hs : x.size ≤ 100000 ∧ y.size ≤ 100000 ∧ z.size ≤ 100000) (w : World) (hA : Strs w A [x, y, z]) (hr : RT w) :
    Calls Tryz.prog 120 #[.slice A 3 c] w fun e w' => e = .returned (dlV x y z) ∧ Below w.heap.size w w' := by
  have hp := fun (u : ByteArray) (hu : u ∈ [x, y, z]) (W : World) (hW : Below w.heap.size w W) => rnumber_any u (by simp at hu; rcases hu with rfl | rfl | rfl <;> omega) W (hr.below hW).1 (hr.below hW).2.1
  have hbad : ∀ u ∈ [x, y, z], numO u = none → dlV x y z = .tuple #[.string ⟨#[]⟩, badV] := fun u hu hn => by
    simp at hu
    unfold dlV dlT dlK
    rcases hu with rfl | rfl | rfl
    · rw [hn]; rfl
    · rw [hn]; cases numO x <;> rfl
    · rw [hn]
      cases numO x with
      | none => rfl
      | some a => cases numO y <;> rfl
  have HP := Lib.hid hp; have HA := Lib.hid hA; have HR := Lib.hid hr; have HBAD := Lib.hid hbad
  clear hp hA hr hs hbad
  obtain ⟨l, hl⟩ : ∃ l, l = [x, y, z] := ⟨_, rfl⟩
  rw [← hl] at HP HA HBAD
  have hl3 : l.length = 3 := by rw [hl]; rfl
  have HL := Lib.hid hl
  clear hl
  go_enter Tryz.func120, Tryz.ntmps120
  go_wp2_with fail
  go_loopw [4, 6, 7, 8, 16] (fun o _ _ _ i wr => ∃ (k : Nat) (A' : Option Addr) (c' : Nat), k ≤ 3 ∧ i = .int .i64 k ∧ o = .slice A' k c' ∧ Hid (OInts wr w.heap.size A' c' ((l.take k).map nmv)) ∧ Hid (Below w.heap.size w wr) ∧ Hid (∀ u ∈ l.take k, numO u ≠ none)) (fun _ _ _ _ i _ => 3 - (intOf i).toNat)
  case atStart => exact ⟨0, none, 0, Nat.zero_le _, rfl, rfl, OInts.nil, Below.refl _ _, fun u hu => by simp at hu⟩
  case round =>
    obtain ⟨k, A', c', hk, rfl, rfl, HO, HB, HALL⟩ := hrel
    have htk : ((l.take k).map nmv).length = k := by rw [List.length_map, List.length_take]; omega
    by_cases hlt : k < 3
    · have i0 : (0 : Int) ≤ (k : Int) := by omega
      have i1 : (k : Int) < 3 := by omega
      obtain ⟨b2, o2, rfl, hl2, ch0⟩ := (HA.out.below HB.out (Nat.le_refl _)).at_ (show k < l.length by omega)
      obtain ⟨u, hu⟩ : ∃ u, l[k]? = some u := ⟨_, List.getElem?_eq_getElem (by omega)⟩
      have hgx : gs l k = u := by simp [gs, List.getD_eq_getElem?_getD, hu]
      rw [hgx] at ch0
      have cp := fun (W : World) (hW : Below w.heap.size w W) => HP.out u (List.mem_of_getElem? hu) W hW
      by_cases hE : numO u = none
      · have hv := HBAD.out u (List.mem_of_getElem? hu) hE
        rw [hE] at cp
        have CP := Lib.hid cp; have HV := Lib.hid hv
        clear cp hv hE hgx hu htk
        go_wp2_with (go_at_call 141; refine (CP.out _ HB.out).mono ?_; rintro e w2 ⟨⟨n, rfl, _⟩, hb2⟩; have hur : w2.cell? ⟨0, 0, none⟩ = some (errV 2) := (HR.out.below (bcl HB.out hb2)).2.2; have HB3 := Lib.hid (bcl HB.out hb2); clear hb2; simp only [Option.isSome_none])
        go_region
        go_wp2_with fail
        go_ret2
        exact ⟨by rw [HV.out]; rfl, by first | exact bdn HB3.out _ | exact bdr HB3.out | exact HB3.out⟩
      · obtain ⟨n, hn⟩ := Option.ne_none_iff_exists'.1 hE
        have hmap : (l.take (k + 1)).map nmv = (l.take k).map nmv ++ [n] := by
          rw [List.take_add_one, hu]; simp [nmv, hn]
        have hall : ∀ v ∈ l.take (k + 1), numO v ≠ none := fun v hv => by
          rw [List.take_add_one, hu] at hv
          rcases List.mem_append.1 hv with h | h
          · exact HALL.out v h
          · simp at h; subst h; exact hE
        rw [hn] at cp
        have CP := Lib.hid cp; have HALL2 := Lib.hid hall; have HMAP := Lib.hid hmap; have HTK := Lib.hid htk
        have hz := HB.out.size
        have hl6 : ((l.take k).map nmv).length ≤ 1000000 := by omega
        clear cp hall hmap hE hn hgx hu htk
        go_wp2_with (first
          | (go_at_call 141; refine (CP.out _ HB.out).mono ?_; rintro e w2 ⟨⟨n2, rfl, hn2⟩, hb2⟩; obtain rfl : n = n2 := hn2.elim (fun h => by cases h) Option.some.inj; have hb3 := bcl HB.out hb2; simp only [Option.isSome_some])
          | (at_builtin; refine wpList_append_int rfl _ _ rfl w.heap.size A' c' ((l.take k).map nmv) (by rw [HTK.out]; rfl) (HO.out.keep (bal hb2 _)) w2.heap.size n rfl (cell_new1 _ _ _) hl6 (le_al hb3.size _) ?_; intro A3 c3 w3 ho3 hb4; rw [← HMAP.out] at ho3; rw [HTK.out]))
        go_roundw
        case rel => exact ⟨k + 1, A3, c3, by omega, by go_num, rfl, ho3, (bal hb3 _).trans hb4, HALL2⟩
        case measure => simp [intOf]; omega
    · obtain rfl : k = 3 := by omega
      have hal : ∀ u ∈ [x, y, z], numO u ≠ none := fun u hu => HALL.out u (by rw [HL.out]; exact hu)
      obtain ⟨a, ea⟩ := Option.ne_none_iff_exists'.1 (hal x (by simp))
      obtain ⟨b, eb⟩ := Option.ne_none_iff_exists'.1 (hal y (by simp))
      obtain ⟨d, ed⟩ := Option.ne_none_iff_exists'.1 (hal z (by simp))
      have hv : dlV x y z = .tuple #[.string (jn ((dlL a b d).map fun s => itB s.2) ⟨#[32]⟩), eV (shE a [b] d)] := by
        unfold dlV dlT dlK; rw [ea, eb, ed]; rfl
      have ho := HO.out
      have hml : (l.take 3).map nmv = [a, b, d] := by rw [HL.out]; simp [nmv, ea, eb, ed]
      rw [hml] at ho
      have hI := ho.ints
      have hcap : 3 ≤ c' := ho.cap.1
      have hcm := ho.cap.2
      have hcap3 : ¬ c' = 1 := by omega
      have hcap2 : (2 : Int) ≤ (c' : Int) := by omega
      obtain ⟨b2, o2, rfl, hl2, q0⟩ := hI.at_ (show 0 < [a, b, d].length by simp)
      obtain ⟨b3, o3, e3, _, q1⟩ := hI.at_ (show 1 < [a, b, d].length by simp)
      obtain ⟨b4, o4, e4, _, q2⟩ := hI.at_ (show 2 < [a, b, d].length by simp)
      cases e3; cases e4
      have q0 : wr.cell? ⟨b2, o2, none⟩ = some (.int .i64 a) := q0
      have q1 : wr.cell? ⟨b2, o2 + 1, none⟩ = some (.int .i64 b) := q1
      have q2 : wr.cell? ⟨b2, o2 + 2, none⟩ = some (.int .i64 d) := q2
      have hI1 : Ints wr.drew (some ⟨b2, o2 + 1, none⟩) [b] := fun _ => ⟨b2, o2 + 1, rfl, hl2, fun i hi j hj => by
        obtain rfl : i = 0 := by simpa using hi
        obtain rfl : j = 0 := by omega
        exact q1⟩
      have hbk := fun (w2 : World) (h : Below wr.drew.heap.size wr.drew w2) => And.intro ((h.cell (p := ⟨b2, o2, none⟩) hl2).trans (show wr.drew.cell? ⟨b2, o2, none⟩ = some (.int .i64 a) from q0)) ((h.cell (p := ⟨b2, o2 + 2, none⟩) hl2).trans (show wr.drew.cell? ⟨b2, o2 + 2, none⟩ = some (.int .i64 d) from q2))
      have HBK := Lib.hid hbk
      have HV := Lib.hid hv; have HB0 := Lib.hid (show Below w.heap.size w wr.drew from bdr HB.out); have HI1 := Lib.hid hI1
      have HCM := Lib.hid hcm
      clear hbk hv ho hml hI hI1 hal ea eb ed HO HALL HBAD HP HA htk hlt hk HL hl3 q1 hcm
      obtain ⟨sh, hsh⟩ : ∃ sh, sh = dlL a b d := ⟨_, rfl⟩
      have cd := fun (C : Nat) => deal_all a b d (some ⟨b2, o2 + 1, none⟩) C wr.drew HI1.out
      have hv := HV.out
      rw [← hsh] at cd hv
      obtain ⟨hs7, hsr⟩ := dlL_ok a b d
      rw [← hsh] at hs7 hsr
      have hjs : (jn (sh.map fun s => itB s.2) ⟨#[32]⟩).size ≤ 1000000 := Nat.le_trans (jn_shares hs7 hsr) (by decide)
      have HV2 := Lib.hid hv; have CD := Lib.hid cd; have HSR := Lib.hid hsr; have HS7 := Lib.hid hs7; have HJS := Lib.hid hjs
      clear hv cd HV HI1 hsr hjs hsh
      generalize shE a [b] d = E at *
      go_wp2_with fail
      go_region_held3 (fun w' => w'.cell? ⟨b2, o2, none⟩ = some (.int .i64 a) ∧ w'.cell? ⟨b2, o2 + 2, none⟩ = some (.int .i64 d)) (first | exact ⟨q0, q2⟩ | exact HBK.out _ HB5.out | go_keep) ((go_at_call 142; refine (CD.out _).mono ?_; rintro e w5 ⟨A2, c2, rfl, hS, hb5⟩; have HS := Lib.hid hS; have HB5 := Lib.hid hb5; clear hS hb5))
      have HB6 := Lib.hid (HB0.out.trans (HB5.out.mono HB0.out.size))
      have HLT := Lib.hid (HR.out.below HB6.out)
      clear HB0 HB5 HR HB
      go_wp2_with fail
      go_loopw [11, 13, 48] (fun so _ si w' => ∃ (k : Nat) (A3 : Option Addr) (c3 : Nat), k ≤ sh.length ∧ si = .int .i64 k ∧ so = .slice A3 k c3 ∧ Hid (OStrs w' w5.heap.size A3 c3 ((sh.take k).map fun s => itB s.2)) ∧ Hid (Below w5.heap.size w5 w')) (fun _ _ si _ => sh.length - (intOf si).toNat)
      case atStart => exact ⟨0, none, 0, Nat.zero_le _, rfl, rfl, OStrs.nil, Below.refl _ _⟩
      case round =>
        obtain ⟨k, A3, c3, hk, rfl, rfl, HO, HB⟩ := hrel
        have htk : ((sh.take k).map fun s => itB s.2).length = k := by rw [List.length_map, List.length_take]; omega
        by_cases hlt : k < sh.length
        · have i0 : (0 : Int) ≤ (k : Int) := by omega
          have i1 : (k : Int) < (sh.length : Int) := by omega
          obtain ⟨b6, o6, rfl, hl6, s0, s1⟩ := (HS.out.below HB.out (Nat.le_refl _)).at_ hlt
          have hbx := bcl HB.out (bal1 wr (.cells #[.int .i64 (ga sh k), .int .i64 (gb sh k)] 113))
          have hr := HSR.out k hlt
          have ci := fun (W : World) (hW : Below w5.heap.size w5 W) => itoa_any (gb sh k) (by omega) (by omega) W (HLT.out.below hW).1
          have hmap : (sh.take (k + 1)).map (fun s => itB s.2) = (sh.take k).map (fun s => itB s.2) ++ [itB (gb sh k)] := by
            have e : gb sh k = sh[k].2 := by simp [gb, List.getD_eq_getElem?_getD, List.getElem?_eq_getElem hlt]
            rw [List.take_add_one, List.getElem?_eq_getElem hlt, List.map_append, e]; rfl
          rw [show (⟨(Lib.itoa (gb sh k)).toArray⟩ : ByteArray) = itB (gb sh k) from rfl] at ci
          have CI := Lib.hid ci; have HMAP := Lib.hid hmap; have HTK := Lib.hid htk; have HBX := Lib.hid hbx
          have hl6 : ((sh.take k).map fun s => itB s.2).length ≤ 1000000 := by have := HS7.out; omega
          clear ci hmap htk hr hbx
          go_wp2_with (first
            | (go_at_call 82; refine (CI.out _ HBX.out).mono ?_; rintro e w7 ⟨rfl, hb7⟩; have HB7 := Lib.hid (bcl HBX.out hb7); have HO7 := Lib.hid ((HO.out.keep (bal1 _ _)).keep hb7); clear hb7)
            | (at_builtin; refine wpList_append_strG rfl _ _ rfl w5.heap.size A3 c3 _ k HTK.out rfl (HO7.out.keep (bal1 _ _)) w7.heap.size (itB (gb sh k)) rfl (cell_new1 _ _ _) hl6 (le_al HB7.out.size _) ?_; intro A8 c8 w8 ho8 hg8; rw [← HMAP.out] at ho8; have HO8 := Lib.hid ho8; have HG8 := Lib.hid hg8; clear ho8 hg8))
          go_roundw
          case rel => exact ⟨k + 1, A8, c8, by omega, by go_num, rfl, HO8, Lib.hid (bgrO (bal HB7.out _) HG8.out (HO7.out.keep (bal1 _ _)))⟩
          case measure => simp [intOf]; omega
        · obtain rfl : k = sh.length := by omega
          have ho := HO.out
          rw [List.take_length] at ho
          have cj := join_any A3 c3 (sh.map fun s => itB s.2) ⟨#[32]⟩ wr ho.strs ho.cap.1 (by rw [List.length_map]; have := HS7.out; omega) HJS.out
          rw [List.length_map] at cj
          have CJ := Lib.hid cj
          clear cj ho htk
          go_wp2_with (go_at_call 83; refine CJ.out.mono ?_; rintro e w7 ⟨rfl, hb7⟩; have HB7 := Lib.hid (bcl HB.out hb7); clear hb7)
          go_ret2
          exact ⟨by rw [HV2.out]; rfl, HB6.out.trans (HB7.out.mono HB6.out.size)⟩
end Go.Proofs.YtpgemofkolmabaaGreatDoor
namespace Go.Proofs.YtpgemofkolmabaaGreatDoor
open Go.ChangeShapes Go.WideShapes Go.ChangeAt Go.RowKit Go.Joins Go.Deep
set_option linter.unusedVariables false

theorem chg_after {w w1 w2 : World} {p : Nat} {g : Option Nat} (hb : Below w.heap.size w w1) (k : Chg p g w1 w2) : Chg p g w w2 := (Chg.of_below hb).trans k (Nw.refl _ _)
theorem nw_after {g g' : Option Nat} {w w1 : World} (hb : Below w.heap.size w w1) (k : Nw g g' w1.heap.size) : Nw g g' w.heap.size := nw_le k hb.size
set_option maxHeartbeats 400000 in
set_option maxRecDepth 100000 in
theorem onput_full (base p : Nat) (g : Option Nat) (L : List (List Va)) (A : Option Addr) (c : Nat) (a : List Va) (B : Option Addr) (d : Nat) (t : List Va) (hm : a.length ≤ maxLen) (hm2 : t.length ≤ maxLen) (ha : okL a) (ht : okL t) (w : World) (hA : Vals w A a) (hB : Vals w B t) (hS : Spc w base p g L) (h : ocE a t = 0) (hc : cnt a L L.length = 0) (hl : L.length = 20) :
    Calls Tryz.prog 175 #[.pointer (some ⟨p, 0, none⟩), .slice A a.length c, .slice B t.length d] w fun e w' => e = .returned (.tuple #[.bool false, errV 4]) ∧ ∃ g', Spc w' base p g' L ∧ Chg p g w w' ∧ Nw g g' w.heap.size := by
  have c1 := oncheck_any A c a B d t hm hm2 ha ht w hA hB
  have c2 := fun (W : World) (hS : Spc W base p g L) (hA : Vals W A a) => count_spc base p g L A c a hm ha (ocE_zero h).1 _ hc W hS hA
  have hpe : putE L t = 4 := by rw [putE, if_neg (by rw [(ocE_zero h).2]; decide), if_pos hl]
  have c3 := fun (W : World) (hS : Spc W base p g L) (hB : Vals W B t) => spput_any base p g L B d t hm2 ht W hS hB
  rw [putL, hpe, if_neg (by decide), show eV 4 = errV 4 from rfl] at c3
  rw [h, eV_zero] at c1
  have C1 := Lib.hid c1; have C2 := Lib.hid c2; have C3 := Lib.hid c3; clear c1 c2 c3 h hc hpe
  go_enter Tryz.func175, Tryz.ntmps175
  go_wp2_with (first | (go_at_call 202; refine C1.out.mono ?_; rintro e w1 ⟨rfl, hb1⟩) | (go_at_call 145; refine (C2.out _ (hS.keep hb1) (hA.below hb1 (Nat.le_refl _))).mono ?_; rintro e w2 ⟨rfl, hb2⟩; have hb3 := bcl hb1 hb2) | (go_at_call 68; refine (C3.out _ (hS.keep hb3) (hB.below hb3 (Nat.le_refl _))).mono ?_; rintro e w3 ⟨rfl, g', hs, hx, hn⟩))
  go_ret2
  exact ⟨rfl, g', hs, (Chg.of_below hb3).trans hx (Nw.refl _ _), by
    rcases hn with h | ⟨b, h, hb⟩
    · exact .inl h
    · exact .inr ⟨b, h, Nat.le_trans hb3.size hb⟩⟩
theorem onput_any (base p : Nat) (g : Option Nat) (L : List (List Va)) (A : Option Addr) (c : Nat) (a : List Va) (B : Option Addr) (d : Nat) (t : List Va) (hm : a.length ≤ maxLen) (hm2 : t.length ≤ maxLen) (ha : okL a) (ht : okL t) (w : World) (hA : Vals w A a) (hB : Vals w B t) (hS : Spc w base p g L) :
    Calls Tryz.prog 175 #[.pointer (some ⟨p, 0, none⟩), .slice A a.length c, .slice B t.length d] w fun e w' => e = .returned (.tuple #[.bool (poB a t L), eV (poE a t L)]) ∧ ∃ g', Spc w' base p g' (poL a t L) ∧ Chg p g w w' ∧ Nw g g' w.heap.size := by
  by_cases e1 : ocE a t = 0
  · by_cases e2 : cnt a L L.length = 0
    · by_cases e3 : L.length = 20
      · have hb : poB a t L = false := by simp [poB, e3]
        rw [poL, hb, if_neg (by decide), poE, if_neg (by simp [e1]), if_neg (by simp [e2]), if_pos e3]
        exact onput_full _ p g L A c a B d t hm hm2 ha ht w hA hB hS e1 e2 e3
      · have hb : poB a t L = true := by simp [poB, e1, e2, e3]
        rw [poL, hb, if_pos rfl, poE, if_neg (by simp [e1]), if_neg (by simp [e2]), if_neg e3, eV_zero]
        exact onput_ok _ p g L A c a B d t hm hm2 ha ht w hA hB hS e1 e2 e3
    · have hb : poB a t L = false := by simp [poB, e2]
      rw [poL, hb, if_neg (by decide), poE, if_neg (by simp [e1]), if_pos e2, eV_zero]
      exact (onput_no _ p g L A c a B d t hm hm2 ha ht w hA hB hS e1 e2).mono fun e w' ⟨q1, q2⟩ => ⟨q1, g, hS.keep q2, Chg.of_below q2, Nw.refl _ _⟩
  · have hb : poB a t L = false := by simp [poB, e1]
    rw [poL, hb, if_neg (by decide), poE, if_pos e1, eV_of e1]
    exact (onput_bad _ A c a B d t hm hm2 ha ht w hA hB e1).mono fun e w' ⟨q1, q2⟩ => ⟨q1, g, hS.keep q2, Chg.of_below q2, Nw.refl _ _⟩
theorem sptake_any (base p : Nat) (g : Option Nat) (L : List (List Va)) (A : Option Addr) (c : Nat) (a : List Va) (hm : a.length ≤ maxLen) (hok : okL a) (w : World) (hS : Spc w base p g L) (hA : Vals w A a) :
    Calls Tryz.prog 69 #[.pointer (some ⟨p, 0, none⟩), .slice A a.length c] w fun e w' => ∃ B C, e = .returned (.tuple #[.slice B (rT a L).length C, eV (finE a L)]) ∧ Vals w' B (rT a L) ∧ Spc w' base p g (rL a L) ∧ Chg p g w w' := by
  by_cases h : finE a L = 0
  · obtain ⟨k, hk, hp, _, _, c⟩ := sptake_ok base p g L A c a hm hok w hS hA h
    rw [rT, rL, if_pos h, if_pos h, h, eV_zero, hp, show ((k : Int)).toNat = k by omega]
    exact c.mono fun e w' ⟨B, C, q1, q2, _, _, _, q3, q4⟩ => ⟨B, C, q1, q2, q3, q4⟩
  · rw [rT, rL, if_neg h, if_neg h, eV_of h]
    exact (sptake_no base p g L A c a hm hok w hS hA h).mono fun e w' ⟨q1, q2⟩ => ⟨none, 0, q1, Sl.zero, hS.keep q2, Chg.of_below q2⟩
theorem rT_rgt {base p : Nat} {g : Option Nat} {L : List (List Va)} {w : World} (hS : Spc w base p g L) (a : List Va) : rgt (rT a L) ∧ (rT a L).length ≤ 5 := by
  unfold rT
  split
  · rename_i h
    obtain ⟨k, h1, _, h3, _⟩ := fin_at h
    have hm : gg L k ∈ L := gg_mem h1
    have h3' : rT a L = gg L k := h3
    rw [rT, if_pos h] at h3'
    rw [h3']
    obtain ⟨_, h5, hr⟩ := rgt_of (tuE_zero (hS.ok _ hm).2).1
    exact ⟨hr, h5⟩
  · exact ⟨fun i hi => absurd hi (by simp), by simp⟩
theorem Chg.cell_ {w w' : World} {p : Nat} {g : Option Nat} (k : Chg p g w w') {a : Addr} {v : Value} (h : w.cell? a = some v) (h1 : a.block ≠ p) (h2 : some a.block ≠ g) : w'.cell? a = some v :=
  (World.cell?_of_block (k.block _ (lt_of_cell h) h1 h2)).trans h
theorem Spc.glt {w : World} {base p : Nat} {g : Option Nat} {L : List (List Va)} (h : Spc w base p g L) {x : Nat} (hx : w.heap.size ≤ x) : x ≠ p ∧ some x ≠ g := by
  refine ⟨fun e => ?_, fun e => ?_⟩
  · have := h.kin.lt; omega
  · have := (h.gkin e.symm).2.lt; omega
section
variable {base p : Nat} {g : Option Nat} {L : List (List Va)}
set_option maxHeartbeats 800000 in
set_option maxRecDepth 100000 in
theorem ronce_any (T : Option Addr) (c : Nat) (t u : List Va) (h5 : t.length ≤ 5 ∧ u.length ≤ 5) (ho : okL t ∧ okL u) (w : World) (hS : Spc w base p g L) (hT : Many Vals w T [t, u]) (hTn : ∀ a, T = some a → a.block ≠ p ∧ some a.block ≠ g) :
    Calls Tryz.prog 146 #[.agg #[.pointer (some ⟨p, 0, none⟩)], .slice T 2 c] w fun e w' => e = .returned (.tuple #[.string (if poB t u L = true then cYes else cNo), eV (poE t u L)]) ∧ ∃ g', Spc w' base p g' (poL t u L) ∧ Chg p g w w' ∧ Nw g g' w.heap.size := by
  obtain ⟨W1, hW1⟩ : ∃ W1, W1 = w.alloc (.cells #[.pointer (some ⟨p, 0, none⟩)] 95) := ⟨_, rfl⟩
  have hb : Below w.heap.size w W1 := by rw [hW1]; exact bal1 _ _
  have b0 : W1.cell? ⟨w.heap.size, 0, none⟩ = some (.pointer (some ⟨p, 0, none⟩)) := by rw [hW1]; exact cell_new1 _ _ _
  obtain ⟨b, off, B, C, rfl, hbl, hcc, hv, _, _⟩ := (many_below hT hb).vat (i := 0) (show 0 < ([t, u] : List (List Va)).length by simp)
  obtain ⟨b', off', B2, C2, e, _, hcc2, hv2, _, _⟩ := (many_below hT hb).vat (i := 1) (show 1 < ([t, u] : List (List Va)).length by simp)
  cases e
  obtain ⟨n1, n2⟩ := hTn _ rfl
  have q0 : W1.cell? ⟨b, off, none⟩ = some (.slice B t.length C) := hcc
  have q1 : W1.cell? ⟨b, off + 1, none⟩ = some (.slice B2 u.length C2) := hcc2
  have cp := onput_any base p g L B C t B2 C2 u (by unfold maxLen; omega) (by unfold maxLen; omega) ho.1 ho.2 W1.drew (show Vals W1.drew B t from hv) (show Vals W1.drew B2 u from hv2) (hS.keep (bdr hb))
  obtain ⟨n3, n4⟩ := hS.glt (Nat.le_refl _)
  have back := fun (w2 : World) (k : Chg p g W1.drew w2) => And.intro (k.cell_ (a := ⟨w.heap.size, 0, none⟩) (v := .pointer (some ⟨p, 0, none⟩)) b0 n3 n4) (And.intro (k.cell_ (a := ⟨b, off, none⟩) (v := .slice B t.length C) q0 n1 n2) (k.cell_ (a := ⟨b, off + 1, none⟩) (v := .slice B2 u.length C2) q1 n1 n2))
  have HW := Lib.hid hW1; have HB := Lib.hid hb; have CP := Lib.hid cp; have BK := Lib.hid back
  clear hW1 hb hT hS hcc hcc2 hv hv2 cp ho h5 hTn n1 n2 n3 n4 back
  generalize poE t u L = E at *
  generalize poL t u L = L' at *
  generalize poB t u L = F at *
  cases F
  all_goals
    go_enter Tryz.func146, Tryz.ntmps146
    go_wp2_with fail
    rw [← HW.out]
    go_region_held3 (fun w' => w'.cell? ⟨w.heap.size, 0, none⟩ = some (.pointer (some ⟨p, 0, none⟩)) ∧ w'.cell? ⟨b, off, none⟩ = some (.slice B t.length C) ∧ w'.cell? ⟨b, off + 1, none⟩ = some (.slice B2 u.length C2)) (first | exact ⟨b0, q0, q1⟩ | exact BK.out _ HX.out | go_keep) ((go_at_call 175; refine CP.out.mono ?_; rintro e w2 ⟨rfl, g', hs, hx, hn⟩; have HS := Lib.hid hs; have HX := Lib.hid hx; have HN := Lib.hid hn; clear hs hx hn))
    go_wp2_with fail
    go_ret2
    exact ⟨rfl, g', HS.out, chg_after (bdr HB.out) HX.out, nw_after (bdr HB.out) HN.out⟩
set_option maxHeartbeats 800000 in
set_option maxRecDepth 100000 in
theorem rdo_put (T : Option Addr) (c : Nat) (t : List Va) (h5 : t.length ≤ 5) (ho : okL t) (hl : liE t = 0) (w : World) (ht : ∀ W, Below base w W → TT W) (hS : Spc w base p g L) (hT : Many Vals w T [t]) (hTn : ∀ a, T = some a → a.block ≠ p ∧ some a.block ≠ g) :
    Calls Tryz.prog 122 #[.agg #[.pointer (some ⟨p, 0, none⟩)], .string cPut, .slice T 1 c] w fun e w' => e = .returned (.tuple #[.string txOk, eV (putE L t)]) ∧ ∃ g', Spc w' base p g' (putL L t) ∧ Chg p g w w' ∧ Nw g g' w.heap.size := by
  obtain ⟨W1, hW1⟩ : ∃ W1, W1 = w.alloc (.cells #[.pointer (some ⟨p, 0, none⟩)] 95) := ⟨_, rfl⟩
  have hb : Below w.heap.size w W1 := by rw [hW1]; exact bal1 _ _
  have b0 : W1.cell? ⟨w.heap.size, 0, none⟩ = some (.pointer (some ⟨p, 0, none⟩)) := by rw [hW1]; exact cell_new1 _ _ _
  obtain ⟨b, off, B, C, rfl, hbl, hcc, hv, _, _⟩ := (many_below hT hb).vat (i := 0) (show 0 < ([t] : List (List Va)).length by simp)
  obtain ⟨n1, n2⟩ := hTn _ rfl
  have q0 : W1.cell? ⟨b, off, none⟩ = some (.slice B t.length C) := hcc
  have hv1 : Vals W1.drew B t := hv
  have hS1 := hS.keep (bdr hb)
  obtain ⟨n3, n4⟩ := hS.glt (Nat.le_refl _)
  have back := fun (w2 : World) (k : Chg p g W1.drew w2) => And.intro (k.cell_ (a := ⟨w.heap.size, 0, none⟩) (v := .pointer (some ⟨p, 0, none⟩)) b0 n3 n4) (k.cell_ (a := ⟨b, off, none⟩) (v := .slice B t.length C) q0 n1 n2)
  have hm : t.length ≤ maxLen := by unfold maxLen; omega
  have htt : ∀ W, Below base W1 W → TT W := fun W h => ht W ((hb.mono hS.hb).trans h)
  have hbs : base ≤ W1.heap.size := hS1.hb
  have cp := spput_any base p g L B C t hm ho W1.drew hS1 hv1
  have CP := Lib.hid cp
  clear cp
  have HW := Lib.hid hW1; have HB := Lib.hid hb; have BK := Lib.hid back; have HTT := Lib.hid htt; have HBS := Lib.hid hbs
  clear hW1 hb hT hS hS1 hcc hv hv1 ho h5 hTn n1 n2 n3 n4 back hl hm ht htt hbs
  generalize putE L t = E at *
  generalize putL L t = L' at *
  simp only [cPut]
  go_enter Tryz.func122, Tryz.ntmps122
  go_wp2_with fail
  rw [← HW.out]
  go_wp2_with fail
  go_region_held3 (fun w' => w'.cell? ⟨w.heap.size, 0, none⟩ = some (.pointer (some ⟨p, 0, none⟩)) ∧ w'.cell? ⟨b, off, none⟩ = some (.slice B t.length C)) (first | exact ⟨b0, q0⟩ | exact BK.out _ HX.out | exact BK.out _ HX2.out | go_keep) ((go_at_call 68; refine CP.out.mono ?_; rintro e w2 ⟨rfl, g', hs, hx, hn⟩; have HS := Lib.hid hs; have HX := Lib.hid hx; have HN := Lib.hid hn; clear hs hx hn))
  go_wp2_with fail
  go_ret2
  exact ⟨rfl, g', HS.out, chg_after (bdr HB.out) HX.out, nw_after (bdr HB.out) HN.out⟩
set_option maxHeartbeats 800000 in
set_option maxRecDepth 100000 in
theorem rdo_read (T : Option Addr) (c : Nat) (t : List Va) (h5 : t.length ≤ 5) (ho : okL t) (hl : liE t = 0) (w : World) (ht : ∀ W, Below base w W → TT W) (hS : Spc w base p g L) (hT : Many Vals w T [t]) (hTn : ∀ a, T = some a → a.block ≠ p ∧ some a.block ≠ g) :
    Calls Tryz.prog 122 #[.agg #[.pointer (some ⟨p, 0, none⟩)], .string cRead, .slice T 1 c] w fun e w' => e = .returned (.tuple #[.string (lin (rT t L)), eV (finE t L)]) ∧ ∃ g', Spc w' base p g' L ∧ Chg p g w w' ∧ Nw g g' w.heap.size := by
  obtain ⟨W1, hW1⟩ : ∃ W1, W1 = w.alloc (.cells #[.pointer (some ⟨p, 0, none⟩)] 95) := ⟨_, rfl⟩
  have hb : Below w.heap.size w W1 := by rw [hW1]; exact bal1 _ _
  have b0 : W1.cell? ⟨w.heap.size, 0, none⟩ = some (.pointer (some ⟨p, 0, none⟩)) := by rw [hW1]; exact cell_new1 _ _ _
  obtain ⟨b, off, B, C, rfl, hbl, hcc, hv, _, _⟩ := (many_below hT hb).vat (i := 0) (show 0 < ([t] : List (List Va)).length by simp)
  obtain ⟨n1, n2⟩ := hTn _ rfl
  have q0 : W1.cell? ⟨b, off, none⟩ = some (.slice B t.length C) := hcc
  have hv1 : Vals W1.drew B t := hv
  have hS1 := hS.keep (bdr hb)
  obtain ⟨n3, n4⟩ := hS.glt (Nat.le_refl _)
  have back := fun (w2 : World) (k : Chg p g W1.drew w2) => And.intro (k.cell_ (a := ⟨w.heap.size, 0, none⟩) (v := .pointer (some ⟨p, 0, none⟩)) b0 n3 n4) (k.cell_ (a := ⟨b, off, none⟩) (v := .slice B t.length C) q0 n1 n2)
  have hm : t.length ≤ maxLen := by unfold maxLen; omega
  have htt : ∀ W, Below base W1 W → TT W := fun W h => ht W ((hb.mono hS.hb).trans h)
  have hbs : base ≤ W1.heap.size := hS1.hb
  have cp := spread_v p g L B C t hm ho W1.drew hS1 hv1
  obtain ⟨r1, r2⟩ := rT_rgt hS t
  have ct := fun (A : Option Addr) (n : Nat) (v : Value) (W : World) (hW : Vals W A (rT t L)) (h : TT W) => rtold_any A n (rT t L) v (by omega) r1 W hW h
  have CP := Lib.hid cp; have CT := Lib.hid ct; have HS0 := Lib.hid hS1
  clear cp ct r1 r2
  have HW := Lib.hid hW1; have HB := Lib.hid hb; have BK := Lib.hid back; have HTT := Lib.hid htt; have HBS := Lib.hid hbs
  clear hW1 hb hT hS hS1 hcc hv hv1 ho h5 hTn n1 n2 n3 n4 back hl hm ht htt hbs
  generalize finE t L = E at *
  generalize rT t L = R at *
  simp only [cRead]
  go_enter Tryz.func122, Tryz.ntmps122
  go_wp2_with fail
  rw [← HW.out]
  go_wp2_with fail
  go_region_held3 (fun w' => w'.cell? ⟨w.heap.size, 0, none⟩ = some (.pointer (some ⟨p, 0, none⟩)) ∧ w'.cell? ⟨b, off, none⟩ = some (.slice B t.length C)) (first | exact ⟨b0, q0⟩ | exact BK.out _ HX.out | exact BK.out _ HX2.out | go_keep) ((first | (go_at_call 110; refine CP.out.mono ?_; rintro e w2 ⟨B', C', rfl, hv2, hb2⟩; have HV2 := Lib.hid hv2; have HB2 := Lib.hid hb2; have HX := Lib.hid (Chg.of_below (p := p) (g := g) hb2); clear hv2 hb2) | (go_at_call 143; refine (CT.out _ _ _ _ HV2.out (HTT.out _ (((bdr (Below.refl W1.heap.size W1)).mono HBS.out).trans (HB2.out.mono HBS.out)))).mono ?_; rintro e w3 ⟨rfl, hb3⟩; have HB3 := Lib.hid (bcl HB2.out hb3); have HX2 := Lib.hid (Chg.of_below (p := p) (g := g) (bcl HB2.out hb3)); clear hb3)))
  go_wp2_with fail
  go_ret2
  exact ⟨rfl, g, HS0.out.keep HB3.out, chg_after (bdr HB.out) HX2.out, Nw.refl _ _⟩
set_option maxHeartbeats 800000 in
set_option maxRecDepth 100000 in
theorem rdo_take (T : Option Addr) (c : Nat) (t : List Va) (h5 : t.length ≤ 5) (ho : okL t) (hl : liE t = 0) (w : World) (ht : ∀ W, Below base w W → TT W) (hS : Spc w base p g L) (hT : Many Vals w T [t]) (hTn : ∀ a, T = some a → a.block ≠ p ∧ some a.block ≠ g) :
    Calls Tryz.prog 122 #[.agg #[.pointer (some ⟨p, 0, none⟩)], .string cTake, .slice T 1 c] w fun e w' => e = .returned (.tuple #[.string (lin (rT t L)), eV (finE t L)]) ∧ ∃ g', Spc w' base p g' (rL t L) ∧ Chg p g w w' ∧ Nw g g' w.heap.size := by
  obtain ⟨W1, hW1⟩ : ∃ W1, W1 = w.alloc (.cells #[.pointer (some ⟨p, 0, none⟩)] 95) := ⟨_, rfl⟩
  have hb : Below w.heap.size w W1 := by rw [hW1]; exact bal1 _ _
  have b0 : W1.cell? ⟨w.heap.size, 0, none⟩ = some (.pointer (some ⟨p, 0, none⟩)) := by rw [hW1]; exact cell_new1 _ _ _
  obtain ⟨b, off, B, C, rfl, hbl, hcc, hv, _, _⟩ := (many_below hT hb).vat (i := 0) (show 0 < ([t] : List (List Va)).length by simp)
  obtain ⟨n1, n2⟩ := hTn _ rfl
  have q0 : W1.cell? ⟨b, off, none⟩ = some (.slice B t.length C) := hcc
  have hv1 : Vals W1.drew B t := hv
  have hS1 := hS.keep (bdr hb)
  obtain ⟨n3, n4⟩ := hS.glt (Nat.le_refl _)
  have back := fun (w2 : World) (k : Chg p g W1.drew w2) => And.intro (k.cell_ (a := ⟨w.heap.size, 0, none⟩) (v := .pointer (some ⟨p, 0, none⟩)) b0 n3 n4) (k.cell_ (a := ⟨b, off, none⟩) (v := .slice B t.length C) q0 n1 n2)
  have hm : t.length ≤ maxLen := by unfold maxLen; omega
  have htt : ∀ W, Below base W1 W → TT W := fun W h => ht W ((hb.mono hS.hb).trans h)
  have hbs : base ≤ W1.heap.size := hS1.hb
  have cp := sptake_any base p g L B C t hm ho W1.drew hS1 hv1
  obtain ⟨r1, r2⟩ := rT_rgt hS t
  have ct := fun (A : Option Addr) (n : Nat) (v : Value) (W : World) (hW : Vals W A (rT t L)) (h : TT W) => rtold_any A n (rT t L) v (by omega) r1 W hW h
  have hbw := fun (w2 : World) (k : Chg p g W1.drew w2) => (bdr (Below.refl W1.heap.size W1)).mono hbs |>.trans (hS1.below k)
  have CP := Lib.hid cp; have CT := Lib.hid ct; have HBW := Lib.hid hbw
  clear cp ct r1 r2 hbw
  have HW := Lib.hid hW1; have HB := Lib.hid hb; have BK := Lib.hid back; have HTT := Lib.hid htt; have HBS := Lib.hid hbs
  clear hW1 hb hT hS hS1 hcc hv hv1 ho h5 hTn n1 n2 n3 n4 back hl hm ht htt hbs
  generalize finE t L = E at *
  generalize rT t L = R at *
  generalize rL t L = L' at *
  simp only [cTake]
  go_enter Tryz.func122, Tryz.ntmps122
  go_wp2_with fail
  rw [← HW.out]
  go_wp2_with fail
  go_region_held3 (fun w' => w'.cell? ⟨w.heap.size, 0, none⟩ = some (.pointer (some ⟨p, 0, none⟩)) ∧ w'.cell? ⟨b, off, none⟩ = some (.slice B t.length C)) (first | exact ⟨b0, q0⟩ | exact BK.out _ HX.out | exact BK.out _ HX2.out | go_keep) ((first | (go_at_call 69; refine CP.out.mono ?_; rintro e w2 ⟨B', C', rfl, hv2, hs2, hx2⟩; have HV2 := Lib.hid hv2; have HS2 := Lib.hid hs2; have HX := Lib.hid hx2; clear hv2 hs2 hx2) | (go_at_call 143; refine (CT.out _ _ _ _ HV2.out (HTT.out _ (HBW.out _ HX.out))).mono ?_; rintro e w3 ⟨rfl, hb3⟩; have HB3 := Lib.hid hb3; have HX2 := Lib.hid (HX.out.trans (Chg.of_below (p := p) (g := g) hb3) (Nw.refl _ _)); clear hb3)))
  go_wp2_with fail
  go_ret2
  exact ⟨rfl, g, HS2.out.keep HB3.out, chg_after (bdr HB.out) HX2.out, Nw.refl _ _⟩
set_option maxHeartbeats 800000 in
set_option maxRecDepth 100000 in
theorem rdo_count (T : Option Addr) (c : Nat) (t : List Va) (h5 : t.length ≤ 5) (ho : okL t) (hl : liE t = 0) (w : World) (ht : ∀ W, Below base w W → TT W) (hS : Spc w base p g L) (hT : Many Vals w T [t]) (hTn : ∀ a, T = some a → a.block ≠ p ∧ some a.block ≠ g) :
    Calls Tryz.prog 122 #[.agg #[.pointer (some ⟨p, 0, none⟩)], .string cCount, .slice T 1 c] w fun e w' => e = .returned (.tuple #[.string (itB (cnt t L L.length)), .nilIface]) ∧ ∃ g', Spc w' base p g' L ∧ Chg p g w w' ∧ Nw g g' w.heap.size := by
  obtain ⟨W1, hW1⟩ : ∃ W1, W1 = w.alloc (.cells #[.pointer (some ⟨p, 0, none⟩)] 95) := ⟨_, rfl⟩
  have hb : Below w.heap.size w W1 := by rw [hW1]; exact bal1 _ _
  have b0 : W1.cell? ⟨w.heap.size, 0, none⟩ = some (.pointer (some ⟨p, 0, none⟩)) := by rw [hW1]; exact cell_new1 _ _ _
  obtain ⟨b, off, B, C, rfl, hbl, hcc, hv, _, _⟩ := (many_below hT hb).vat (i := 0) (show 0 < ([t] : List (List Va)).length by simp)
  obtain ⟨n1, n2⟩ := hTn _ rfl
  have q0 : W1.cell? ⟨b, off, none⟩ = some (.slice B t.length C) := hcc
  have hv1 : Vals W1.drew B t := hv
  have hS1 := hS.keep (bdr hb)
  obtain ⟨n3, n4⟩ := hS.glt (Nat.le_refl _)
  have back := fun (w2 : World) (k : Chg p g W1.drew w2) => And.intro (k.cell_ (a := ⟨w.heap.size, 0, none⟩) (v := .pointer (some ⟨p, 0, none⟩)) b0 n3 n4) (k.cell_ (a := ⟨b, off, none⟩) (v := .slice B t.length C) q0 n1 n2)
  have hm : t.length ≤ maxLen := by unfold maxLen; omega
  have htt : ∀ W, Below base W1 W → TT W := fun W h => ht W ((hb.mono hS.hb).trans h)
  have hbs : base ≤ W1.heap.size := hS1.hb
  have cp := count_spc base p g L B C t hm ho hl _ rfl W1.drew hS1 hv1
  have hc := cnt_le t L L.length
  have h20 := hS.len
  have ct := fun (v : Value) (W : World) (h : TT W) => rdigit_any (cnt t L L.length) (by omega) (by omega) v W h
  have CP := Lib.hid cp; have CT := Lib.hid ct; have HS0 := Lib.hid hS1
  clear cp ct hc h20
  have HW := Lib.hid hW1; have HB := Lib.hid hb; have BK := Lib.hid back; have HTT := Lib.hid htt; have HBS := Lib.hid hbs
  clear hW1 hb hT hS hS1 hcc hv hv1 ho h5 hTn n1 n2 n3 n4 back hl hm ht htt hbs
  generalize cnt t L L.length = E at *
  simp only [cCount]
  go_enter Tryz.func122, Tryz.ntmps122
  go_wp2_with fail
  rw [← HW.out]
  go_wp2_with fail
  go_region_held3 (fun w' => w'.cell? ⟨w.heap.size, 0, none⟩ = some (.pointer (some ⟨p, 0, none⟩)) ∧ w'.cell? ⟨b, off, none⟩ = some (.slice B t.length C)) (first | exact ⟨b0, q0⟩ | exact BK.out _ HX.out | exact BK.out _ HX2.out | go_keep) ((first | (go_at_call 145; refine CP.out.mono ?_; rintro e w2 ⟨rfl, hb2⟩; have HB2 := Lib.hid hb2; have HX := Lib.hid (Chg.of_below (p := p) (g := g) hb2); clear hb2) | (go_at_call 144; refine (CT.out _ _ (HTT.out _ (((bdr (Below.refl W1.heap.size W1)).mono HBS.out).trans (HB2.out.mono HBS.out)))).mono ?_; rintro e w3 ⟨rfl, hb3⟩; have HB3 := Lib.hid (bcl HB2.out hb3); have HX2 := Lib.hid (Chg.of_below (p := p) (g := g) (bcl HB2.out hb3)); clear hb3)))
  go_wp2_with fail
  go_ret2
  exact ⟨rfl, g, HS0.out.keep HB3.out, chg_after (bdr HB.out) HX2.out, Nw.refl _ _⟩
set_option maxHeartbeats 800000 in
set_option maxRecDepth 100000 in
theorem rdo_print (T : Option Addr) (c : Nat) (t : List Va) (h5 : t.length ≤ 5) (ho : okL t) (hl : liE t = 0) (w : World) (ht : ∀ W, Below base w W → TT W) (hS : Spc w base p g L) (hT : Many Vals w T [t]) (hTn : ∀ a, T = some a → a.block ≠ p ∧ some a.block ≠ g) :
    Calls Tryz.prog 122 #[.agg #[.pointer (some ⟨p, 0, none⟩)], .string cPrint, .slice T 1 c] w fun e w' => e = .returned (.tuple #[.string (itB (dgt t)), .nilIface]) ∧ ∃ g', Spc w' base p g' L ∧ Chg p g w w' ∧ Nw g g' w.heap.size := by
  obtain ⟨W1, hW1⟩ : ∃ W1, W1 = w.alloc (.cells #[.pointer (some ⟨p, 0, none⟩)] 95) := ⟨_, rfl⟩
  have hb : Below w.heap.size w W1 := by rw [hW1]; exact bal1 _ _
  have b0 : W1.cell? ⟨w.heap.size, 0, none⟩ = some (.pointer (some ⟨p, 0, none⟩)) := by rw [hW1]; exact cell_new1 _ _ _
  obtain ⟨b, off, B, C, rfl, hbl, hcc, hv, _, _⟩ := (many_below hT hb).vat (i := 0) (show 0 < ([t] : List (List Va)).length by simp)
  obtain ⟨n1, n2⟩ := hTn _ rfl
  have q0 : W1.cell? ⟨b, off, none⟩ = some (.slice B t.length C) := hcc
  have hv1 : Vals W1.drew B t := hv
  have hS1 := hS.keep (bdr hb)
  obtain ⟨n3, n4⟩ := hS.glt (Nat.le_refl _)
  have back := fun (w2 : World) (k : Chg p g W1.drew w2) => And.intro (k.cell_ (a := ⟨w.heap.size, 0, none⟩) (v := .pointer (some ⟨p, 0, none⟩)) b0 n3 n4) (k.cell_ (a := ⟨b, off, none⟩) (v := .slice B t.length C) q0 n1 n2)
  have hm : t.length ≤ maxLen := by unfold maxLen; omega
  have htt : ∀ W, Below base W1 W → TT W := fun W h => ht W ((hb.mono hS.hb).trans h)
  have hbs : base ≤ W1.heap.size := hS1.hb
  have cp := fun (W : World) (hW : Vals W B t) (h : TT W) => digtuple_any B C t hm ho W hW h
  rw [hl, if_pos rfl, eV_zero] at cp
  have hr : 0 ≤ dgt t ∧ dgt t ≤ 10006 := hs_range _ _
  have ct := fun (v : Value) (W : World) (h : TT W) => rdigit_any (dgt t) (by omega) (by omega) v W h
  have CP := Lib.hid cp; have CT := Lib.hid ct; have HS0 := Lib.hid (hS.keep hb); have HV1 := Lib.hid (show Vals W1 B t from hv)
  clear cp ct hr
  have HW := Lib.hid hW1; have HB := Lib.hid hb; have BK := Lib.hid back; have HTT := Lib.hid htt; have HBS := Lib.hid hbs
  clear hW1 hb hT hS hS1 hcc hv hv1 ho h5 hTn n1 n2 n3 n4 back hl hm ht htt hbs
  generalize dgt t = E at *
  simp only [cPrint]
  go_enter Tryz.func122, Tryz.ntmps122
  go_upto_region 1 with fail
  rw [← HW.out]
  go_wp2_with fail
  refine (CP.out _ HV1.out (HTT.out _ (Below.refl _ _))).mono ?_
  rintro e w2 ⟨rfl, hb2⟩
  have HB2 := Lib.hid hb2
  clear hb2
  go_wp2_with fail
  refine (CT.out _ _ (HTT.out _ (HB2.out.mono HBS.out))).mono ?_
  rintro e w3 ⟨rfl, hb3⟩
  have HB3 := Lib.hid (bcl HB2.out hb3)
  clear hb3
  go_wp2_with fail
  go_ret2
  exact ⟨rfl, g, (HS0.out.keep HB3.out), chg_after HB.out (Chg.of_below HB3.out), Nw.refl _ _⟩
end
end Go.Proofs.YtpgemofkolmabaaGreatDoor
namespace Go.Proofs.YtpgemofkolmabaaGreatDoor
open Go.ChangeShapes Go.WideShapes Go.ChangeAt Go.RowKit
set_option linter.unusedVariables false

theorem cnt_drop {l : List UInt8} {i : Nat} {c : UInt8} (h : l[i]? = some c) (hk : ∀ k : Nat, k < i → l[k]? ≠ some c) : l.count c = (l.drop (i + 1)).count c + 1 := by
  obtain ⟨hlt, hc⟩ := List.getElem?_eq_some_iff.1 h
  have e : l = l.take i ++ c :: l.drop (i + 1) := by
    rw [← hc, List.getElem_cons_drop, List.take_append_drop]
  have h0 : (l.take i).count c = 0 := List.count_eq_zero.2 fun hm => by
    obtain ⟨k, hk1, hk2⟩ := List.mem_iff_getElem.1 hm
    rw [List.length_take] at hk1
    refine hk k (by omega) ?_
    rw [List.getElem_take] at hk2
    rw [List.getElem?_eq_getElem (by omega), hk2]
  conv => lhs; rw [e]
  rw [List.count_append, h0, List.count_cons_self]; omega
theorem split_pcs (c : UInt8) : ∀ (n : Nat) (s : ByteArray), s.data.toList.count c = n → Lib.splitB ⟨#[c]⟩ 0 n s = pcsB c s
  | n, s, hn => by
    have hix : Lib.indexB s ⟨#[c]⟩ = Lib.indexByte s.data.toList c := Lib.index_one _ _
    rcases idx_cases s c with e | ⟨i, e⟩
    · rw [Lib.splitB_miss _ _ _ _ (hix.trans e), pcsB_none e]
    · obtain ⟨h1, h2⟩ := Lib.indexByte_some e
      have hd := cnt_drop h1 h2
      obtain ⟨k, rfl⟩ : ∃ k, n = k + 1 := ⟨n - 1, by omega⟩
      rw [Lib.splitB_hit _ _ _ _ i (hix.trans e), (pcsB_some e).2]
      have h3 : (s.extract (i + 1) s.size).data.toList.count c = k := by rw [ext_drop]; omega
      rw [show i + (⟨#[c]⟩ : ByteArray).size = i + 1 from rfl, split_pcs c k _ h3]
      rfl
theorem pcsB_count (c : UInt8) (s : ByteArray) : (pcsB c s).length = s.data.toList.count c + 1 := by
  rw [← split_pcs c _ s rfl]
  exact Lib.splitB_all ⟨#[c]⟩ (Nat.le_refl 1) 0 _ s (Lib.count_one c _)
theorem infoS9 : (Tryz.prog.info? 9).map (fun i => (i.zero, i.size, i.bytes)) = some (some (.string ByteArray.empty), 1, 16) := by kernel_rfl
set_option maxHeartbeats 1000000 in
theorem splitc_any (c : UInt8) (s : ByteArray) (hs : s.size < 4294967281) (w : World) :
    Calls Tryz.prog 118 #[.string s, .string ⟨#[c]⟩] w fun e w' => e = .returned (.slice (some ⟨w.heap.size, 0, none⟩) (pcsB c s).length (pcsB c s).length) ∧ Strs w' (some ⟨w.heap.size, 0, none⟩) (pcsB c s) ∧ Below w.heap.size w w' := by
  have hcb : Lib.countB s ⟨#[c]⟩ = s.data.toList.count c := Lib.count_one c _
  have hle := Lib.countB_le ⟨#[c]⟩ (Nat.le_refl 1) s.size s (Nat.le_refl _)
  have cg := Any.strings_genSplit_core { Tryz.lays146 with } infoS9 s ⟨#[c]⟩ 0 (-1) (Lib.countB s ⟨#[c]⟩ + 1) w hs (Nat.le_refl 1) (Nat.zero_le _)
    (fun x cs hx => (Tryz.strings_Index_one x c _).mono fun e w' ⟨h1, h2⟩ => ⟨by rw [h1]; exact congrArg (fun z => Ending.returned (Value.int .i64 z)) (Lib.index_one _ _).symm, h2⟩)
    ((Tryz.strings_Count_one s c w).mono fun e w' ⟨h1, h2⟩ => ⟨by rw [h1, hcb]; rfl, h2⟩) (by decide) (by decide) (by rw [if_pos (by decide)]; omega)
  rw [Nat.add_sub_cancel, hcb, split_pcs c _ s rfl, ← pcsB_count, Lib.cellsOf_full] at cg
  have hst := lit_strs w (pcsB c s) 9 rfl
  have CG := Lib.hid (show Calls Tryz.prog 140 #[.string s, .string ⟨#[c]⟩, .int .i64 0, .int .i64 (-1)] w fun e w' => e = .returned (.slice (some ⟨w.heap.size, 0, none⟩) (pcsB c s).length (pcsB c s).length) ∧ w' = w.alloc (.cells ((pcsB c s).map Value.string).toArray 9) from cg)
  have HST := Lib.hid hst
  clear cg hst hcb hle hs
  go_enter Tryz.func118, Tryz.ntmps118
  go_wp2_with (go_at_call 140; refine CG.out.mono ?_; rintro e w' ⟨rfl, rfl⟩)
  go_ret
  exact ⟨rfl, HST.out, bal1 _ _⟩
end Go.Proofs.YtpgemofkolmabaaGreatDoor
