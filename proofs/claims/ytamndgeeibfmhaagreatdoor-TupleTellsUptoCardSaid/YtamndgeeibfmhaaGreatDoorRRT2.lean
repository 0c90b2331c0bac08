/- The reference's ReadTuple: what it returns. -/
import Derived.Test.YtamndgeeibfmhaaGreatDoorRRT
namespace Go.Proofs.YtamndgeeibfmhaaGreatDoor
open Go.RowKit Go.Joins Go.ChangeShapes Go.WideShapes Go.Deep
set_option linter.unusedVariables false

theorem pcsB_len (s : ByteArray) (c : UInt8) : (pcsB c s).length ≤ s.size + 1 := by
  have := pcs_cnt c s.data.toList
  rw [Array.length_toList] at this
  rw [pcsB, List.length_map]
  exact this
set_option maxHeartbeats 1600000 in
set_option maxRecDepth 100000 in
theorem rreadt_any (s : ByteArray) (hs : s.size ≤ 2000000) (w : World) :
    Calls Tryz.prog 13 #[.string s] w fun e w' => (∃ (A : Option Addr) (c : Nat), e = .returned (.tuple #[.slice A (tpR s).length c, .int .i64 (tpE s)]) ∧ OVals w' w.heap.size A c (tpR s)) ∧ Below w.heap.size w w' := by
  by_cases h0 : 0 < s.size
  · have q0 := emp_test h0
    obtain ⟨ps, hps⟩ : ∃ ps, ps = pcsB 44 s := ⟨_, rfl⟩
    have cc := rcut_any s hs 44 w
    rw [show (((44 : UInt8).toNat : Nat) : Int) = 44 from rfl, ← hps] at cc
    have hl := pcsB_len s 44
    rw [← hps] at hl
    have hne : s.size ≠ 0 := by omega
    have hE1 : tpF ps ≠ 0 → tpE s = tpF ps ∧ tpR s = [] := fun h => by
      have e : tpE s = tpF ps := by rw [tpE, if_neg hne, ← hps, if_pos h]
      exact ⟨e, by rw [tpR, if_neg (by rw [e]; exact h)]⟩
    have hE2 : tpF ps = 0 → 5 < ps.length → tpE s = 4 ∧ tpR s = [] := fun h h5 => by
      have e : tpE s = 4 := by rw [tpE, if_neg hne, ← hps, if_neg (by rw [h]; simp), if_pos h5]
      exact ⟨e, by rw [tpR, if_neg (by rw [e]; decide)]⟩
    have hE3 : tpF ps = 0 → ¬ 5 < ps.length → tpE s = 0 ∧ tpR s = ps.map rdR := fun h h5 => by
      have e : tpE s = 0 := by rw [tpE, if_neg hne, ← hps, if_neg (by rw [h]; simp), if_neg h5]
      exact ⟨e, by rw [tpR, if_pos e, ← hps]⟩
    have CC := Lib.hid cc; have HPS := Lib.hid hps; have HE1 := Lib.hid hE1; have HE2 := Lib.hid hE2; have HE3 := Lib.hid hE3
    clear cc hps hE1 hE2 hE3 hne
    go_enter Tryz.func13, Tryz.ntmps13
    go_wp2_with (go_at_call 24; refine CC.out.mono ?_; rintro e w1 ⟨⟨A0, c0, rfl, hS⟩, hb1⟩; have HS := Lib.hid hS.strs; have HB1 := Lib.hid hb1; clear hS hb1)
    go_loopw [5, 6, 7, 8] (fun so si _ _ wr => ∃ (A : Option Addr) (c k : Nat), k ≤ ps.length ∧ so = .slice A k c ∧ si = .int .i64 k ∧ Hid (OVals wr w1.heap.size A c ((ps.take k).map rdR)) ∧ Hid (Below w1.heap.size w1 wr) ∧ Hid (tpF (ps.take k) = 0)) (fun _ si _ _ _ => ps.length - (intOf si).toNat)
    case atStart => exact ⟨none, 0, 0, Nat.zero_le _, rfl, rfl, OVals.nil, Below.refl _ _, rfl⟩
    case round =>
      obtain ⟨A, c, k, hk, rfl, rfl, HO, HB, HF⟩ := hrel
      have hlk : ((ps.take k).map rdR).length = k := by rw [List.length_map, List.length_take]; omega
      have i0 : (0 : Int) ≤ (k : Int) := by omega
      by_cases hlt : k < ps.length
      · have i1 : (k : Int) < (ps.length : Int) := by omega
        obtain ⟨b2, o2, rfl, hl2, ch0⟩ := (HS.out.below HB.out (Nat.le_refl _)).at_ hlt
        obtain ⟨x, hx⟩ : ∃ x, ps[k]? = some x := ⟨_, List.getElem?_eq_getElem hlt⟩
        have hgx : gs ps k = x := by simp [gs, List.getD_eq_getElem?_getD, hx]
        rw [hgx] at ch0
        have hxs : x.size ≤ s.size := pcsB_size (c := 44) (k := k) (by rw [← HPS.out]; exact hx)
        have cr := fun W => rread_any x (by omega) W
        by_cases hE : rdE x = 0
        · have hF2 := tpF_next HF.out hx hE
          have hmap : (ps.take (k + 1)).map rdR = (ps.take k).map rdR ++ [rdR x] := by rw [List.take_add_one, hx]; simp
          rw [hE] at cr
          have CR := Lib.hid cr; have HF2 := Lib.hid hF2; have HMAP := Lib.hid hmap; have HLK := Lib.hid hlk
          have hdl : ((ps.take k).map rdR).length ≤ 4000000 := by omega
          clear cr hF2 hmap hE hgx hxs hx hlk
          generalize rdR x = R at *
          go_wp2_with (first
            | (go_at_call 25; refine (CR.out _).mono ?_; rintro e w2 ⟨rfl, hb2⟩; have HO2 := Lib.hid ((HO.out.keep hb2).keep (bal1 _ (.cells #[.int .i64 R.k, .int .i64 R.n, .string R.s] 41))); have HB2 := Lib.hid (bal (bcl HB.out hb2) (.cells #[.int .i64 R.k, .int .i64 R.n, .string R.s] 41)); clear hb2)
            | (at_builtin; refine wpList_append_valB rfl _ _ rfl w1.heap.size A c ((ps.take k).map rdR) k HLK.out rfl (HO2.out.keep (bal1 _ _)) (w2.heap.size + 1) R rfl (by have := AtB.new (w2.alloc (.cells #[.int .i64 R.k, .int .i64 R.n, .string R.s] 41)) #[.int .i64 R.k, .int .i64 R.n, .string R.s] 41; rw [World.size_alloc] at this; exact this) hdl (le_al HB2.out.size _) ?_; intro A2 c2 w3 h1 h2; have HO3 := Lib.hid h1; have HB3 := Lib.hid ((bal HB2.out _).trans h2); clear h1 h2))
          go_roundw
          case rel => exact ⟨A2, c2, k + 1, by omega, by go_num, by go_num, Lib.hid (by rw [HMAP.out]; exact HO3.out), HB3, HF2⟩
          case measure => simp [intOf]; omega
        · have hF := tpF_at HF.out hx hE
          obtain ⟨e1, e2⟩ := HE1.out (by rw [hF]; exact hE)
          have q : (rdE x != 0) = true := by rw [bne_iff_ne]; exact hE
          have hEE : tpE s = rdE x := by rw [e1, hF]
          generalize rdE x = E at *
          generalize rdR x = R at *
          have CR := Lib.hid cr; have HV := Lib.hid hEE; have HR := Lib.hid e2
          clear cr hF e1 e2 hEE hE hgx hxs hx
          go_wp2_with (go_at_call 25; refine (CR.out _).mono ?_; rintro e w2 ⟨rfl, hb2⟩; have HB2 := Lib.hid (bal (bcl HB.out hb2) (.cells #[.int .i64 R.k, .int .i64 R.n, .string R.s] 41)); clear hb2)
          go_ret2
          exact ⟨⟨none, 0, by rw [HV.out, HR.out]; rfl, by rw [HR.out]; exact OVals.nil⟩, bcl HB1.out HB2.out⟩
      · obtain rfl : k = ps.length := by omega
        have hf := HF.out
        rw [List.take_length] at hf
        have ho := HO.out
        rw [List.take_length] at ho
        by_cases h5 : 5 < ps.length
        · obtain ⟨e1, e2⟩ := HE2.out hf h5
          have HV := Lib.hid e1; have HR := Lib.hid e2
          have h5' : (5 : Int) < (ps.length : Int) := by omega
          clear e1 e2 hf ho
          go_wp2_with fail
          go_ret2
          exact ⟨⟨none, 0, by rw [HV.out, HR.out]; rfl, by rw [HR.out]; exact OVals.nil⟩, bcl HB1.out HB.out⟩
        · obtain ⟨e1, e2⟩ := HE3.out hf h5
          have HV := Lib.hid e1; have HR := Lib.hid e2
          have h5' : decide ((5 : Int) < (ps.length : Int)) = false := by simp; omega
          have HO4 := Lib.hid (own_mono ho HB1.out.size)
          clear e1 e2 hf ho h5
          go_wp2_with fail
          go_ret2
          exact ⟨⟨A, c, by rw [HV.out, HR.out, List.length_map]; rfl, by rw [HR.out]; exact HO4.out⟩, bcl HB1.out HB.out⟩
  · obtain ⟨e1, e2⟩ := tp_empty (show s.size = 0 by omega)
    obtain rfl := emp_of (show s.size = 0 by omega)
    rw [e1, e2]
    clear e1 e2
    go_enter Tryz.func13, Tryz.ntmps13
    go_wp2_with fail
    go_ret2
    exact ⟨⟨none, 0, rfl, OVals.nil⟩, (by repeat (first | exact Below.refl _ _ | assumption | refine bal ?_ _ | refine bdn ?_ _ | refine bdr ?_ | refine bcl ?_ (by assumption)))⟩
end Go.Proofs.YtamndgeeibfmhaaGreatDoor
