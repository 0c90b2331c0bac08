/- VoteTrueSaid: AS MANY AS MAY LIE CANNOT MAKE IT: for every number, truth, lies and places: where all but as many as may lie say the same, that wins by one more. -/
import Derived.Test.YtpmgmlmpiofnpaaRows
import Derived.Test.YtpmgmlmpiofnpaaVotePlain
import Derived.WalkKit
import Derived.ProofKit
import Derived.OpenShut
import Derived.ShutString
import Derived.ChangeOld
import Derived.WalkLawsBesides
import Derived.WalkSpells
import Derived.RegionTactic
import Derived.ChangeAlike
namespace Go.Proofs.Ytpmgmlmpiofnpaa.voteTrue
open Go.ChangeShapes Go.WideShapes Go.ChangeAt Go.RowKit

set_option linter.unusedVariables false
theorem infoS : (Try.prog.info? 9).map (fun i => (i.zero, i.size, i.bytes)) = some (some (.string ⟨#[]⟩), 1, 16) := by kernel_rfl
def sA : ByteArray := ⟨#[97]⟩
def sB : ByteArray := ⟨#[98]⟩
theorem sAB : sA ≠ sB := by decide
theorem fact : winV [sA, sB, sB] 2 = .tuple #[.string ⟨#[98]⟩, .nilIface] := by
  have h1 : wn [sA, sB, sB] 2 3 = some 2 := by decide
  rw [winV_some h1 (by simp)]; rfl

/-- the first loop's row: the truth ahead of k -/
def rowA (t : ByteArray) (k j : Nat) : Value := .string (if j < k then t else ⟨#[]⟩)

set_option maxHeartbeats 4000000 in
set_option maxRecDepth 100000 in
theorem walk (w : World) (n : Int) (_ : I64 n) (t : ByteArray) (ht : t.size ≤ maxLen) (A : Option Addr) (c : Nat) (ls : List ByteArray) (hc : ls.length ≤ c) (hm : c ≤ maxLen) (hA : Strs w A ls) (hl : ∀ i, i < ls.length → (gs ls i).size ≤ maxLen)
    (A' : Option Addr) (c' : Nat) (at' : List Int) (hc' : at'.length ≤ c') (hm' : c' ≤ maxLen) (hA' : Ints w A' at') (_ : ∀ i, i < at'.length → I64 (gi at' i)) :
    Calls Try.prog 6 #[.int .i64 n, .string t, .slice A ls.length c, .slice A' at'.length c'] w fun e w' => e = .returned (.bool true) ∧ Below w.heap.size w w' := by
  have cw : ∀ W cap A, Strs W A [sA, sB, sB] → Calls Try.prog 17 #[.slice A 3 cap, .int .i64 2] W fun e w' => e = .returned (.tuple #[.string ⟨#[98]⟩, .nilIface]) ∧ Below W.heap.size W w' := fun W cap A hA =>
    (win_any A cap [sA, sB, sB] 2 W rfl (by simp) hA (by
      intro i hi
      match i, hi with
      | 0, _ => exact (by decide)
      | 1, _ => exact (by decide)
      | 2, _ => exact (by decide))).mono fun e w' ⟨he, hb⟩ => ⟨by rw [he, fact], hb⟩
  have CW := Lib.hid cw; clear cw
  by_cases hn : copB n = true
  · obtain ⟨n0, n1⟩ := copB_true.1 hn
    obtain ⟨m, rfl⟩ := Int.eq_ofNat_of_zero_le (show 0 ≤ n by omega)
    obtain ⟨f, hf⟩ : ∃ f : Nat, ((m : Int) - 1) / 3 = (f : Int) := ⟨((m : Int) - 1).toNat / 3, by omega⟩
    have hfm : 3 * f + 1 ≤ m := by omega
    have hf2 : f ≤ 2 := by omega
    have cf : ∀ W, Calls Try.prog 22 #[.int .i64 (m : Int)] W fun e w' => e = .returned (.tuple #[.int .i64 (f : Int), .nilIface]) ∧ W = w' := fun W =>
      (faults_ok m W n0 n1).mono fun e w' ⟨he, hw⟩ => ⟨by rw [he, hf], hw⟩
    have CF := Lib.hid cf; clear cf hf hn
    have HL := Lib.hid hl; clear hl
    unfold maxLen at hm hm'
    have hmk := run_make_row' (P := Try.prog) 22 9 (.string ⟨#[]⟩) 16 Try.underlying22 infoS rfl .i64 .i64 m (by omega) (by omega)
    go_enter Try.func6, Try.ntmps6
    go_wp2_with fail
    refine (CW.out _ _ _ (lit_strs _ [sA, sB, sB] _ (by simp))).mono ?_
    rintro e w1 ⟨rfl, hb1⟩
    have hb1 : Below w.heap.size w w1 := bcl (bal (Below.refl _ _) _) hb1
    go_wp2_with fail
    refine (CF.out _).mono ?_
    rintro e w' ⟨rfl, rfl⟩
    go_wp2_with fail
    go_loopw [14] (fun i wr => ∃ k : Nat, k ≤ m ∧ i = .int .i64 k ∧ wr.rowIs w1.heap.size 9 m (rowA t k) ∧ Below w.heap.size w wr) (fun i _ => m - (intOf i).toNat)
    case atStart =>
      refine ⟨0, Nat.zero_le _, rfl, ?_, bal hb1 _⟩
      exact (World.rowIs_made w1 (.string ⟨#[]⟩) m 9).congr fun i hi => by simp [rowA]
    case round =>
      obtain ⟨k, hk, rfl, hrow, hb⟩ := hrel
      by_cases hlt : k < m
      · have hcell := hrow.cell hlt
        have hfz := hrow.frozen k
        have hB := hb1.size
        go_wp2_with fail
        go_roundw
        case rel => exact ⟨k + 1, by omega, by go_num, (hrow.set k _).congr (fun j hj => by
          simp only [rowA]
          by_cases e : j = k
          · subst e; simp
          · rw [if_neg e]; congr 1
            by_cases h2 : j < k
            · rw [if_pos h2, if_pos (by omega)]
            · rw [if_neg h2, if_neg (by omega)]), bset hb hB _⟩
        case measure => simp [intOf]; omega
      · obtain rfl : k = m := by omega
        have hrow : wr.rowIs w1.heap.size 9 k (fun j => .string (gs (List.replicate k t) j)) := hrow.congr (fun j hj => by simp [rowA, gs, hj])
        have hrep : ∀ j, (gs (List.replicate k t) j).size ≤ maxLen := fun j => by
          by_cases h : j < k
          · simp [gs, h]; exact ht
          · simp [gs, h, maxLen]
        have hlen : (List.replicate k t).length = k := by simp
        have hbad : bad (List.replicate k t) t k ≤ 0 := by rw [bad_all t k k (Nat.le_refl _)]; exact Nat.le_refl _
        generalize List.replicate k t = L0 at hrow hrep hlen hbad
        have HR := Lib.hid hrep; have HLn := Lib.hid hlen; clear hrep hlen
        go_wp2_with fail
        go_loopw [15] (fun i wx => ∃ (r : Nat) (L : List ByteArray), r ≤ f ∧ i = .int .i64 r ∧ Hid (L.length = k) ∧ Hid (∀ j, (gs L j).size ≤ maxLen) ∧ bad L t k ≤ r ∧ wx.rowIs w1.heap.size 9 k (fun j => .string (gs L j)) ∧ Below w.heap.size w wx) (fun i _ => f - (intOf i).toNat)
        case atStart => exact ⟨0, L0, Nat.zero_le _, rfl, HLn, HR, hbad, hrow, hb⟩
        case round =>
          clear hrow HR HLn hbad hb
          obtain ⟨r, L, hr, rfl, HLn, HR, hbad, hrow, hb⟩ := hrel
          have hB := hb1.size
          have hz := hrow.lt
          by_cases h1 : r < f
          · by_cases h2 : r < ls.length
            · by_cases h3 : r < at'.length
              · obtain ⟨b1, o1, rfl, hbl1, hc1⟩ := hA.at_ h2
                obtain ⟨b2, o2, rfl, hbl2, hc2⟩ := hA'.at_ h3
                have hc1 := (hb.cell (p := ⟨b1, o1 + r, none⟩) hbl1).trans hc1
                have hc2 := (hb.cell (p := ⟨b2, o2 + r, none⟩) hbl2).trans hc2
                by_cases h4 : 0 ≤ gi at' r
                · obtain ⟨q, hq⟩ := Int.eq_ofNat_of_zero_le h4
                  rw [hq] at hc2
                  clear h4 hq
                  by_cases h5 : q < k
                  · have hcell := hrow.cell h5
                    have hfz := hrow.frozen q
                    have hset := hrow.set q (.string (gs ls r))
                    have hbs := bad_set L t q (gs ls r) (by rw [HLn.out]; exact h5) k
                    have HS := Lib.hid hset; have HB := Lib.hid hbs; clear hset hbs
                    go_wp2_with fail
                    go_region
                    all_goals go_wp2_with fail
                    all_goals go_roundw
                    case rel => exact ⟨r + 1, setS L q (gs ls r), by omega, by go_num, by show (setS L q (gs ls r)).length = k; rw [setS, List.length_set]; exact HLn.out, fun j => by
                        rw [gs_set L q _ (by rw [HLn.out]; exact h5)]; split
                        · exact HL.out r h2
                        · exact HR.out j, by have := HB.out; rw [if_pos h5] at this; omega,
                        (HS.out.congr (fun j hj => by
                          show _ = Value.string (gs (setS L q (gs ls r)) j)
                          rw [gs_set L q _ (by rw [HLn.out]; exact h5)]; split <;> rfl)).drew, bdr (bset hb hB _)⟩
                    case measure => simp [intOf]; omega
                  · go_wp2_with fail
                    go_roundw
                    case rel => exact ⟨r + 1, L, by omega, by go_num, HLn, HR, by omega, hrow, hb⟩
                    case measure => simp [intOf]; omega
                · go_wp2_with fail
                  go_roundw
                  case rel => exact ⟨r + 1, L, by omega, by go_num, HLn, HR, by omega, hrow, hb⟩
                  case measure => simp [intOf]; omega
              · have h3 : at'.length ≤ r := by omega
                have hsay := strs_of_row hrow HLn.out
                have hbl : bad L t L.length ≤ f := by rw [HLn.out]; omega
                have hwin := truth_wins L t f hbl (by rw [HLn.out]; omega)
                have hmost := most_truth L t f hbl
                have hml := mo_le L L.length
                rw [HLn.out] at hmost hml
                have cwl := fun W (hW : Strs W (some ⟨w1.heap.size, 0, none⟩) L) => win_any (some ⟨w1.heap.size, 0, none⟩) k L ((f : Int) + 1) W (copB_true.2 ⟨by omega, by omega⟩) (by rw [HLn.out]; omega) hW (fun i _ => HR.out i)
                have cml := fun W (hW : Strs W (some ⟨w1.heap.size, 0, none⟩) L) => most_any (some ⟨w1.heap.size, 0, none⟩) k L W (by rw [HLn.out]; omega) hW (fun i _ => HR.out i)
                rw [hwin] at cwl
                rw [HLn.out] at cwl cml
                generalize mo L k = M at *
                have CWL := Lib.hid cwl; have CML := Lib.hid cml
                clear cwl cml hwin hrow hbl hbad
                go_wp2_with fail
                refine (CWL.out _ hsay).mono ?_
                rintro e w2 ⟨rfl, hb2⟩
                go_wp2_with fail
                refine (CML.out _ (hsay.below hb2 (Nat.le_refl _))).mono ?_
                rintro e w3 ⟨rfl, hb3⟩
                go_wp2_with fail
                all_goals go_ret
                all_goals exact ⟨ret_true (by first | rfl | (simp; done) | (simp; omega)), bcl (bcl hb hb2) hb3⟩
            · have h2 : ls.length ≤ r := by omega
              have hsay := strs_of_row hrow HLn.out
              have hbl : bad L t L.length ≤ f := by rw [HLn.out]; omega
              have hwin := truth_wins L t f hbl (by rw [HLn.out]; omega)
              have hmost := most_truth L t f hbl
              have hml := mo_le L L.length
              rw [HLn.out] at hmost hml
              have cwl := fun W (hW : Strs W (some ⟨w1.heap.size, 0, none⟩) L) => win_any (some ⟨w1.heap.size, 0, none⟩) k L ((f : Int) + 1) W (copB_true.2 ⟨by omega, by omega⟩) (by rw [HLn.out]; omega) hW (fun i _ => HR.out i)
              have cml := fun W (hW : Strs W (some ⟨w1.heap.size, 0, none⟩) L) => most_any (some ⟨w1.heap.size, 0, none⟩) k L W (by rw [HLn.out]; omega) hW (fun i _ => HR.out i)
              rw [hwin] at cwl
              rw [HLn.out] at cwl cml
              generalize mo L k = M at *
              have CWL := Lib.hid cwl; have CML := Lib.hid cml
              clear cwl cml hwin hrow hbl hbad
              go_wp2_with fail
              refine (CWL.out _ hsay).mono ?_
              rintro e w2 ⟨rfl, hb2⟩
              go_wp2_with fail
              refine (CML.out _ (hsay.below hb2 (Nat.le_refl _))).mono ?_
              rintro e w3 ⟨rfl, hb3⟩
              go_wp2_with fail
              all_goals go_ret
              all_goals exact ⟨ret_true (by first | rfl | (simp; done) | (simp; omega)), bcl (bcl hb hb2) hb3⟩
          · have h1 : f ≤ r := by omega
            have hsay := strs_of_row hrow HLn.out
            have hbl : bad L t L.length ≤ f := by rw [HLn.out]; omega
            have hwin := truth_wins L t f hbl (by rw [HLn.out]; omega)
            have hmost := most_truth L t f hbl
            have hml := mo_le L L.length
            rw [HLn.out] at hmost hml
            have cwl := fun W (hW : Strs W (some ⟨w1.heap.size, 0, none⟩) L) => win_any (some ⟨w1.heap.size, 0, none⟩) k L ((f : Int) + 1) W (copB_true.2 ⟨by omega, by omega⟩) (by rw [HLn.out]; omega) hW (fun i _ => HR.out i)
            have cml := fun W (hW : Strs W (some ⟨w1.heap.size, 0, none⟩) L) => most_any (some ⟨w1.heap.size, 0, none⟩) k L W (by rw [HLn.out]; omega) hW (fun i _ => HR.out i)
            rw [hwin] at cwl
            rw [HLn.out] at cwl cml
            generalize mo L k = M at *
            have CWL := Lib.hid cwl; have CML := Lib.hid cml
            clear cwl cml hwin hrow hbl hbad
            go_wp2_with fail
            refine (CWL.out _ hsay).mono ?_
            rintro e w2 ⟨rfl, hb2⟩
            go_wp2_with fail
            refine (CML.out _ (hsay.below hb2 (Nat.le_refl _))).mono ?_
            rintro e w3 ⟨rfl, hb3⟩
            go_wp2_with fail
            all_goals go_ret
            all_goals exact ⟨ret_true (by first | rfl | (simp; done) | (simp; omega)), bcl (bcl hb hb2) hb3⟩
  · have hn : copB n = false := by simpa using hn
    have cf := fun W => faults_no n W hn
    have CF := Lib.hid cf; clear cf
    have hn2 : n < 1 ∨ 7 < n := by
      have : ¬ copB n = true := by rw [hn]; decide
      rw [copB_true] at this; omega
    clear hn
    rcases hn2 with h | h
    all_goals
      go_enter Try.func6, Try.ntmps6
      go_wp2_with fail
      refine (CW.out _ _ _ (lit_strs _ [sA, sB, sB] _ (by simp))).mono ?_
      rintro e w1 ⟨rfl, hb1⟩
      go_wp2_with fail
      refine (CF.out _).mono ?_
      rintro e w' ⟨rfl, rfl⟩
      go_wp2_with fail
      go_ret
      exact ⟨ret_true (by first | rfl | (simp; done) | (simp; omega)), (by repeat (first | exact Below.refl _ _ | assumption | refine bal ?_ _ | refine bdn ?_ _ | refine bdr ?_ | refine bcl ?_ (by assumption)))⟩

/-! ### the row's frame -/
theorem own : ownKnob Try.prog.godebug = none := by kernel_rfl
theorem laidOut : laidOutB Try.prog = true := by kernel_rfl

set_option maxRecDepth 100000 in
theorem lifted (os : Os) (started : os.Started) (H : Type) (enc : TypeId × Value → H) :
    ReturnsInHanded {} Try.checked os 6 .any (Rows.voteTrueSpec.pre6 enc Try.prog Try.f6 Rows.voteTrueRow.domain false) (Rows.voteTrueSpec.post enc Try.prog Try.f6 false true false false) := by
  refine returnsInHanded_of_change (C := Try.checked) own started (by kernel_rfl) Try.func6
    (ChangeSpec.witness6 (enc := enc) (C := Try.checked) false ⟨#[], #[.int .i64 0, .string ByteArray.empty, .slice none 0 0, .slice none 0 0], []⟩ 8 (by kernel_rfl) (by kernel_rfl) (by kernel_rfl) (by kernel_rfl)) ?_
  intro W base args ds gs before hval0 hW hcnd _
  have hval : ∀ (j : Nat) t v, Try.f6.params[j]? = some t → args[j]? = some v → Value.okWide Try.prog W .any base t v := hval0
  have hW' := hW
  obtain ⟨p, q, hA0, hV, rfl, hfz, hnd⟩ := hW
  have hA : DataW.TrodAll enc Try.prog W 0 (fun _ => true) true Try.f6.params.toList args.toList ds p := hA0
  rw [Try.params6] at hA hval
  obtain ⟨v0, vs0, d0, ds0, p0, q0, hargs, rfl, rfl, h0, r0⟩ := trodAll_cons hA
  obtain ⟨v1, vs1, d1, ds1, p1, q1, rfl, rfl, rfl, h1, r1⟩ := trodAll_cons r0
  obtain ⟨v2, vs2, d2, ds2, p2, q2, rfl, rfl, rfl, h2, r2⟩ := trodAll_cons r1
  obtain ⟨v3, vs3, d3, ds3, p3, q3, rfl, rfl, rfl, h3, r3⟩ := trodAll_cons r2
  obtain ⟨rfl, rfl, rfl⟩ := trodAll_nil r3
  obtain rfl : args = #[v0, v1, v2, v3] := by cases args; simp_all
  obtain ⟨rfl, rfl⟩ := trodVars_none hV
  have k0 := h0
  have lt0 : ∀ x ∈ p0, x.block < W.heap.size := by obtain ⟨m, hm⟩ := k0; exact DataW.trod_lt m _ _ _ hm
  obtain ⟨x0, rfl, w0⟩ := arg_int Try.underlying3 (hval 0 3 v0 rfl rfl) h0
  have k1 := h1
  have lt1 : ∀ x ∈ p1, x.block < W.heap.size := by obtain ⟨m, hm⟩ := k1; exact DataW.trod_lt m _ _ _ hm
  obtain ⟨x1, rfl, w1⟩ := arg_string Try.underlying9 (hval 1 9 v1 rfl rfl) h1
  have k2 := h2
  have lt2 : ∀ x ∈ p2, x.block < W.heap.size := by obtain ⟨m, hm⟩ := k2; exact DataW.trod_lt m _ _ _ hm
  obtain ⟨A2, c2, x2, rfl, hc2, hm2, hA2, w2⟩ := arg_Strs Try.underlying22 Try.underlying9 (by kernel_rfl) (hval 2 22 v2 rfl rfl) h2
  have k3 := h3
  have lt3 : ∀ x ∈ p3, x.block < W.heap.size := by obtain ⟨m, hm⟩ := k3; exact DataW.trod_lt m _ _ _ hm
  obtain ⟨A3, c3, x3, rfl, hc3, hm3, hA3, w3⟩ := arg_Ints Try.underlying36 Try.underlying3 (by kernel_rfl) (hval 3 36 v3 rfl rfl) h3
  clear hA0 hval0
  refine (walk W x0 w0 x1 w1 A2 c2 x2 hc2 hm2 hA2 w2 A3 c3 x3 hc3 hm3 hA3 w3).mono fun e W' ⟨he, bel⟩ => ?_
  subst he
  exact ⟨_, rfl, _, _, _, [], _, [], hW', trodAll_mk1 (shut_bool Try.underlying4 _), (trodAll_cons_mk (Below.trod laidOut (by kernel_rfl) (of_decide_eq_true (by kernel_rfl)) k0 bel lt0) (trodAll_cons_mk (Below.trod laidOut (by kernel_rfl) (of_decide_eq_true (by kernel_rfl)) k1 bel lt1) (trodAll_cons_mk (Below.trod laidOut (by kernel_rfl) (of_decide_eq_true (by kernel_rfl)) k2 bel lt2) (trodAll_cons_mk (Below.trod laidOut (by kernel_rfl) (of_decide_eq_true (by kernel_rfl)) k3 bel lt3) trodAll_mk0)))), rfl, bel.frame _, fun h => by cases h⟩

theorem over : Rows.voteTrueRow.holds Try.pinned (OpenSpec.ofChange Rows.voteTrueSpec) :=
  OpenClaim.holds_of_wide 6 Try.f6 rfl rfl rfl rfl rfl rfl rfl ⟨rfl, rfl, rfl, rfl, rfl⟩ rfl rfl rfl rfl rfl (by kernel_rfl) Try.func6 (by kernel_rfl)
    (of_decide_eq_true (by kernel_rfl)) (by unfold Func.isWrapper; first | (rw [if_pos (by decide +kernel)]; kernel_rfl) | (rw [if_neg (by decide +kernel)]; exact ⟨rfl, rfl⟩))
    (fun os started H enc _ => lifted os started H enc)

theorem proved : Rows.VoteTrueSaid := over
#print axioms proved

end Go.Proofs.Ytpmgmlmpiofnpaa.voteTrue
