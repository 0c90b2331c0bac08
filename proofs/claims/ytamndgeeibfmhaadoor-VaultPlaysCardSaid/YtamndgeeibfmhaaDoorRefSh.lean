/- The reference's Deal, Join, Commit, True: what each returns. -/
import Derived.Test.YtamndgeeibfmhaaDoorRefNext
namespace Go.Proofs.YtamndgeeibfmhaaDoor
open Go.RowKit
set_option linter.unusedVariables false

set_option maxHeartbeats 1600000 in
set_option maxRecDepth 100000 in
theorem rdeal_any (s : Int) (A : Option Addr) (cap : Nat) (r : List Int) (n : Nat) (he : shE s r n = 0) (w : World) (hI : Ints w A r) :
    Calls Tryd.prog 23 #[.int .i64 s, .slice A r.length cap, .int .i64 n] w fun e w' => ∃ A' c', e = .returned (.slice A' n c') ∧ OShares w' w.heap.size A' c' (dealL (s :: r) n) ∧ Below w.heap.size w w' := by
  obtain ⟨hs, h6, ha, hm, hlt⟩ := shE_zero he
  obtain ⟨m0, m1⟩ := manB_true.1 hm
  have hall : allIn (s :: r) (s :: r).length = true := allIn_of fun i hi => by
    cases i with
    | zero => simpa [gi] using hs
    | succ i => have := allIn_at ha (i := i) (by simpa using hi); simpa [gi] using this
  have hlen : (s :: r).length = 1 + r.length := by simp; omega
  have c3 := fun A' c' (x : Int) (x0 : 0 ≤ x) (x1 : x < 257) W (hW : Ints W A' (s :: r)) => rat_any A' c' (s :: r) x (by rw [hlen]; omega) hall x0 x1 W hW
  rw [hlen] at c3
  have C3 := Lib.hid c3; clear c3 he hs ha hm hall hlen
  have hl1 : ([s] : List Int).length + r.length ≤ 1000000 := by simp; omega
  go_enter Tryd.func23, Tryd.ntmps23
  go_wp2_with (at_builtin; refine wpList_append_ints rfl _ _ rfl w.heap.size (some ⟨w.heap.size, 0, none⟩) 1 [s] rfl ⟨rfl, .inr ⟨w.heap.size, 1, #[.int .i64 s], rfl, Nat.le_refl _, heap_alloc_new w _, Nat.le_refl _, by decide, rfl, rfl⟩⟩ A _ r rfl (Sl.alloc hI _) hl1 (by simp) ?_; intro A1 c1 w1 ho1 hb1)
  have hI1 := ho1.ints
  rw [show [s] ++ r = s :: r from rfl] at hI1 ho1
  have hb1' : Below w.heap.size w w1 := (bal1 w _).trans hb1
  clear hb1
  have HW1 := Lib.hid hb1'; clear hb1'
  go_loopw [8, 9] (fun o i wr => ∃ (k : Nat) (A' : Option Addr) (c' : Nat), k ≤ n ∧ i = .int .i64 ((k : Int) + 1) ∧ o = .slice A' (dealL (s :: r) k).length c' ∧ OShares wr w1.heap.size A' c' (dealL (s :: r) k) ∧ Below w1.heap.size w1 wr) (fun _ i _ => (n + 1) - (intOf i).toNat)
  case atStart => exact ⟨0, none, 0, Nat.zero_le _, rfl, rfl, OShares.nil, Below.refl _ _⟩
  case round =>
    obtain ⟨k, A', c', hk, rfl, rfl, ho, hb⟩ := hrel
    have hll : (dealL (s :: r) k).length = k := dealL_length (s :: r) k
    by_cases hlt2 : k < n
    · have hs := dealL_succ (s :: r) k
      have HS := Lib.hid hs; clear hs
      have hz := hb.size
      have hl6 : (dealL (s :: r) k).length ≤ 1000000 := by omega
      have c4 := C3.out A1 c1 ((k : Int) + 1) (by omega) (by omega) wr (hI1.below hb (Nat.le_refl _))
      have C4 := Lib.hid c4; have HL := Lib.hid hll; clear c4 hll
      go_wp2_with fail
      refine C4.out.mono ?_
      rintro e w2 ⟨rfl, rfl⟩
      go_wp2_with (at_builtin; refine wpList_append_share rfl _ _ rfl w1.heap.size A' c' _ rfl (ho.keep (bal1 _ _)) wr.heap.size _ _ rfl (cell_new2a _ _ _ _) (cell_new2b _ _ _ _) hl6 (le_al hz _) ?_; intro A2 c2 w3 ho3 hb3)
      go_roundw
      case rel => exact ⟨k + 1, A2, c2, by omega, by go_num, by rw [HS.out]; simp, by rw [HS.out]; exact ho3, (bal hb _).trans hb3⟩
      case measure => simp [intOf]; omega
    · obtain rfl : k = n := by omega
      rw [hll]
      clear hll
      go_wp2_with fail
      go_ret
      have hbz := HW1.out.size
      exact ⟨A', c', rfl, own_mono ho hbz, HW1.out.trans (hb.mono hbz)⟩

set_option maxHeartbeats 800000 in
theorem rcommit_any (A : Option Addr) (cap : Nat) (xs : List Int) (hl : xs.length ≤ 7) (hi : allIn xs xs.length = true) (w : World) (hI : Ints w A xs) :
    Calls Tryd.prog 24 #[.slice A xs.length cap] w fun e w' => ∃ A' c', e = .returned (.slice A' xs.length c') ∧ OInts w' w.heap.size A' c' (cmt xs) ∧ Below w.heap.size w w' := by
  have HI := Lib.hid hi; clear hi
  go_enter Tryd.func24, Tryd.ntmps24
  go_wp2_with fail
  go_loopw [3, 4, 5] (fun o i _ wr => ∃ (k : Nat) (A' : Option Addr) (c' : Nat), k ≤ xs.length ∧ i = .int .i64 k ∧ o = .slice A' (cmt (xs.take k)).length c' ∧ OInts wr w.heap.size A' c' (cmt (xs.take k)) ∧ Below w.heap.size w wr) (fun _ i _ _ => xs.length - (intOf i).toNat)
  case atStart => exact ⟨0, none, 0, Nat.zero_le _, rfl, rfl, OInts.nil, Below.refl _ _⟩
  case round =>
    obtain ⟨k, A', c', hk, rfl, rfl, ho, hb⟩ := hrel
    by_cases hlt : k < xs.length
    · obtain ⟨b, off, rfl, hbl, hc⟩ := (hI.below hb (Nat.le_refl _)).at_ hlt
      obtain ⟨g0, g1⟩ := inB_true.1 (allIn_at HI.out hlt)
      have ht := cmt_take xs k hlt
      have HT := Lib.hid ht; clear ht
      have hll : (cmt (xs.take k)).length ≤ 7 := by simp [cmt]; omega
      have hz := hb.size
      have hl6 : (cmt (xs.take k)).length ≤ 1000000 := by omega
      go_wp2_with (first | (go_at_call 50; refine (rpower_any 64 (gi xs k) 1543 _ g0 (by omega) (by omega) (by omega) (by omega) (by omega)).mono ?_; rintro e w' ⟨rfl, rfl⟩) | (at_builtin; refine wpList_append_int rfl _ _ rfl w.heap.size A' c' _ rfl (ho.keep (bal1 _ _)) wr.heap.size _ rfl (cell_new1 _ _ _) hl6 (le_al hz _) ?_; intro A2 c2 w2 ho3 hb2))
      go_roundw
      case rel => exact ⟨k + 1, A2, c2, by omega, by go_num, by rw [HT.out]; simp, by rw [HT.out]; exact ho3, (bal hb _).trans hb2⟩
      case measure => simp [intOf]; omega
    · obtain rfl : k = xs.length := by omega
      rw [List.take_length] at ho ⊢
      have hcl : (cmt xs).length = xs.length := by simp [cmt]
      rw [hcl]
      clear hcl
      go_wp2_with fail
      go_ret
      exact ⟨A', c', rfl, ho, hb⟩

set_option maxHeartbeats 1600000 in
theorem rtrue_any (A : Option Addr) (cap : Nat) (c : List Int) (a i : Int) (hl : c.length ≤ 7) (hcm : cmB c c.length = true) (ha : 0 ≤ a) (ha' : a < 257) (hi : 0 ≤ i) (hi' : i < 257) (w : World) (hI : Ints w A c) :
    Calls Tryd.prog 27 #[.slice A c.length cap, .agg #[.int .i64 a, .int .i64 i]] w fun e w' => e = .returned (.bool (truB c a i)) ∧ Below w.heap.size w w' := by
  have HC := Lib.hid hcm; clear hcm
  go_enter Tryd.func27, Tryd.ntmps27
  go_wp2_with fail
  go_loop [5, 6, 7] (fun o t j => ∃ k : Nat, k ≤ c.length ∧ j = .int .i64 k ∧ o = .int .i64 (PM.trO (gi c) a k) ∧ t = .int .i64 (PM.atT a k)) (fun _ _ j => c.length - (intOf j).toNat)
  case atStart => exact ⟨0, Nat.zero_le _, rfl, rfl, rfl⟩
  case round =>
    obtain ⟨k, hk, rfl, rfl, rfl⟩ := hrel
    obtain ⟨o0, o1⟩ := PM.trO_range (gi c) a k
    obtain ⟨t0, t1⟩ := PM.atT_range a k
    by_cases hlt : k < c.length
    · obtain ⟨b, off, rfl, hbl, hcell⟩ := hI.at_ hlt
      obtain ⟨c0, c1⟩ := cmB_at HC.out hlt
      have ho : PM.trO (gi c) a (k + 1) = PM.trO (gi c) a k * (gi c k ^ (PM.atT a k).toNat % 1543) % 1543 := rfl
      have ht : PM.atT a (k + 1) = PM.atT a k * a % 257 := rfl
      have HO := Lib.hid ho; have HT := Lib.hid ht; clear ho ht
      generalize PM.trO (gi c) a k = O at *
      generalize PM.atT a k = T at *
      obtain ⟨m1, m2⟩ := mul_bd (b := 1543) o0 o1 (show 0 ≤ gi c k ^ T.toNat % 1543 by omega) (by omega) (by omega)
      obtain ⟨m3, m4⟩ := mul_bd t0 t1 ha ha' (by omega)
      go_wp2_with (go_at_call 50; refine (rpower_any (gi c k) T 1543 _ t0 (by omega) (by omega) (by omega) (by omega) c1).mono ?_; rintro e w' ⟨rfl, rfl⟩)
      go_round
      case rel => exact ⟨k + 1, by omega, by go_num, by rw [HO.out], by rw [HT.out]⟩
      case measure => simp [intOf]; omega
    · obtain rfl : k = c.length := by omega
      have hv : truB c a i = (PM.trO (gi c) a c.length == (64 : Int) ^ i.toNat % 1543) := rfl
      have HV := Lib.hid hv; clear hv
      go_wp2_with (go_at_call 50; refine (rpower_any 64 i 1543 _ hi (by omega) (by omega) (by omega) (by omega) (by omega)).mono ?_; rintro e w' ⟨rfl, rfl⟩)
      rw [HV.out]
      go_ret
      exact ⟨rfl, (by repeat (first | exact Below.refl _ _ | assumption | refine bal ?_ _ | refine bdn ?_ _ | refine bdr ?_ | refine bcl ?_ (by assumption)))⟩
end Go.Proofs.YtamndgeeibfmhaaDoor
