/- The reference's Next (Neville): what it returns. -/
import Derived.Test.YtamndgeeibfmhaaDoorRefPts
import Derived.Deep.QuietTactic
import Derived.BigQuiet
import Derived.StillTailTactics
namespace Go.Proofs.YtamndgeeibfmhaaDoor
open Go.RowKit
set_option linter.unusedVariables false

set_option maxHeartbeats 4000000 in
set_option maxRecDepth 100000 in
theorem rnext_any (A : Option Addr) (cap : Nat) (l : List Sh) (at' : Int) (h0 : 0 ≤ at') (h1 : at' < 257) (hn0 : 0 < l.length) (hn : l.length ≤ 7) (hp : PM.Pts (ga l) (gb l) l.length) (w : World) (hA : Shares w A l) :
    Calls Tryd.prog 28 #[.slice A l.length cap, .int .i64 at'] w fun e w' => e = .returned (.int .i64 (PM.thr (ga l) (gb l) l.length at' l.length)) ∧ Below w.heap.size w w' := by
  have hv := PM.nv_thr hp hn0 at'
  rw [← hv]
  clear hv
  go_enter Tryd.func28, Tryd.ntmps28
  go_wp2_with fail
  go_loopw [5, 6] (fun p i wr => ∃ (k : Nat) (A' : Option Addr) (c' : Nat), k ≤ l.length ∧ i = .int .i64 k ∧ p = .slice A' (seconds l k).length c' ∧ OInts wr w.heap.size A' c' (seconds l k) ∧ Below w.heap.size w wr) (fun _ i _ => l.length - (intOf i).toNat)
  case atStart => exact ⟨0, none, 0, Nat.zero_le _, rfl, rfl, OInts.nil, Below.refl _ _⟩
  case round =>
    obtain ⟨k, A', c', hk, rfl, rfl, ho, hb⟩ := hrel
    by_cases hlt : k < l.length
    · obtain ⟨b, off, rfl, hbl, hc1, hc2⟩ := (hA.below hb (Nat.le_refl _)).at_ hlt
      have HT := Lib.hid (seconds_succ l k)
      have hll : (seconds l k).length ≤ 1000000 := by rw [seconds_length]; omega
      have hz := hb.size
      go_wp2_with (at_builtin; refine wpList_append_int rfl _ _ rfl w.heap.size A' c' _ rfl (ho.keep (bal1 _ _)) wr.heap.size _ rfl (cell_new1 _ _ _) hll (le_al hz _) ?_; intro A2 c2 w2 ho3 hb2)
      go_roundw
      case rel => exact ⟨k + 1, A2, c2, by omega, by go_num, by rw [HT.out]; simp, by rw [HT.out]; exact ho3, (bal hb _).trans hb2⟩
      case measure => simp [intOf]; omega
    · obtain rfl : k = l.length := by omega
      obtain ⟨w1, rfl⟩ : ∃ w1 : World, w1 = wr := ⟨_, rfl⟩
      obtain ⟨g, rfl, hgb, hgl, hgc⟩ := ho.at_ (by rw [seconds_length]; exact hn0)
      have hl0 : ∀ j, j + 0 < l.length → gi (seconds l l.length) j = PM.nv (ga l) (gb l) at' 0 j := fun j hj => seconds_at l l.length j (by omega)
      have hsl : (seconds l l.length).length = l.length := seconds_length l l.length
      generalize seconds l l.length = L0 at *
      rw [hsl]
      have HL0 := Lib.hid hl0; have HSL := Lib.hid hsl; clear hl0 hsl hgc
      go_wp2_with fail
      go_loopw [7, 8, 9, 10, 11] (fun k _ _ _ _ wr => ∃ (q : Nat) (L : List Int), q + 1 ≤ l.length ∧ k = .int .i64 ((q : Int) + 1) ∧ Hid (L.length = l.length) ∧ Hid (∀ j, j + q < l.length → gi L j = PM.nv (ga l) (gb l) at' q j) ∧ OInts wr w.heap.size (some ⟨g, 0, none⟩) c' L ∧ Below w.heap.size w wr) (fun k _ _ _ _ _ => (l.length + 1) - (intOf k).toNat)
      case atStart => exact ⟨0, L0, by omega, rfl, HSL, HL0, ho, hb⟩
      case round =>
        obtain ⟨q, L, hq, rfl, hLl, hLv, hoL, hbL⟩ := hrel
        obtain ⟨w2, rfl⟩ : ∃ w2 : World, w2 = wr := ⟨_, rfl⟩
        by_cases hqn : q + 1 < l.length
        · have hqb : decide ((q : Int) + 1 < l.length) = true := by simp; omega
          go_wp2_with fail
          go_loopw [8, 9, 10, 11] (fun i _ _ _ wx => ∃ (j : Nat) (M : List Int), j + (q + 1) ≤ l.length ∧ i = .int .i64 j ∧ Hid (M.length = l.length) ∧ Hid (∀ t, t < j → gi M t = PM.nv (ga l) (gb l) at' (q + 1) t) ∧ Hid (∀ t, j ≤ t → t + q < l.length → gi M t = PM.nv (ga l) (gb l) at' q t) ∧ OInts wx w.heap.size (some ⟨g, 0, none⟩) c' M ∧ Below w.heap.size w wx) (fun i _ _ _ _ => l.length - (intOf i).toNat)
          case atStart => exact ⟨0, L, by omega, rfl, hLl, (fun t ht => absurd ht (by omega)), (fun t _ ht => hLv.out t ht), hoL, hbL⟩
          case round =>
            obtain ⟨j, M, hj, rfl, hMl, hM1, hM2, hoM, hbM⟩ := hrel
            by_cases hjn : j + (q + 1) < l.length
            · have hS := hA.below hbM (Nat.le_refl _)
              obtain ⟨b, off, rfl, hbl, hc1, hc2⟩ := hS.at_ (i := j) (by omega)
              obtain ⟨b', off', e, _, hd1, hd2⟩ := hS.at_ hjn
              simp only [Option.some.injEq, Addr.mk.injEq, and_true] at e
              obtain ⟨rfl, rfl⟩ := e
              obtain ⟨g', e, _, hgl2, hcc⟩ := hoM.at_ (by rw [hMl.out]; exact hn0)
              simp only [Option.some.injEq, Addr.mk.injEq, and_true] at e
              subst e
              obtain ⟨hp1, hpf⟩ := hcc j (by rw [hMl.out]; omega)
              obtain ⟨hp2, _⟩ := hcc (j + 1) (by rw [hMl.out]; omega)
              rw [hM2.out j (by omega) (by omega)] at hp1
              rw [hM2.out (j + 1) (by omega) (by omega)] at hp2
              obtain ⟨e0, e1⟩ := PM.nv_range hp at' q j (by omega)
              obtain ⟨v0, v1⟩ := PM.nv_range hp at' q (j + 1) (by omega)
              obtain ⟨x0, x1⟩ := hp.xr j (by omega)
              obtain ⟨y0, y1⟩ := hp.xr _ hjn
              have hnv : PM.nv (ga l) (gb l) at' (q + 1) j = ((at' - ga l (j + (q + 1)) + 257) % 257 * PM.nv (ga l) (gb l) at' q j + (ga l j - at' + 257) % 257 * PM.nv (ga l) (gb l) at' q (j + 1)) % 257 * PM.iv ((ga l j - ga l (j + (q + 1)) + 257) % 257) % 257 := rfl
              have hpw : PM.iv ((ga l j - ga l (j + (q + 1)) + 257) % 257) = ((ga l j - ga l (j + (q + 1)) + 257) % 257) ^ (255 : Int).toNat % 257 := rfl
              have HNV := Lib.hid hnv; clear hnv
              have c := fun W => rpower_any ((ga l j - ga l (j + (q + 1)) + 257) % 257) 255 257 W (by omega) (by omega) (by omega) (by omega) (by omega) (by omega)
              rw [← hpw] at c
              clear hpw hcc
              obtain ⟨i0, i1⟩ := PM.iv_range ((ga l j - ga l (j + (q + 1)) + 257) % 257)
              generalize PM.iv ((ga l j - ga l (j + (q + 1)) + 257) % 257) = I at *
              generalize PM.nv (ga l) (gb l) at' q j = U at *
              generalize PM.nv (ga l) (gb l) at' q (j + 1) = V at *
              obtain ⟨m1, m2⟩ := mul_bd (x := (at' - ga l (j + (q + 1)) + 257) % 257) (by omega) (by omega) e0 e1 (b := 257) (by omega)
              obtain ⟨m3, m4⟩ := mul_bd (x := (ga l j - at' + 257) % 257) (by omega) (by omega) v0 v1 (b := 257) (by omega)
              obtain ⟨m5, m6⟩ := mul_bd (x := ((at' - ga l (j + (q + 1)) + 257) % 257 * U + (ga l j - at' + 257) % 257 * V) % 257) (by omega) (by omega) i0 i1 (b := 257) (by omega)
              have C := Lib.hid c; clear c
              go_wp2_with fail
              have k1 : IntKind.i64.wrap ((j : Int) + ((q : Int) + 1)) = (j : Int) + ((q : Int) + 1) := IntWalk.i64_in _ (by omega)
              have k2 : (0 : Int) ≤ (j : Int) + ((q : Int) + 1) := by omega
              have k3 : ((j : Int) + ((q : Int) + 1)).toNat = j + (q + 1) := by omega
              have k4 : (0 : Int) ≤ (j : Int) := by omega
              have k5 : (j : Int) < l.length := by omega
              have k6 : (j : Int) + ((q : Int) + 1) < l.length := by omega
              go_quiet (fail)
              clear k1 k2 k3 k6
              go_wp2_with fail
              generalize (at' - ga l (j + (q + 1)) + 257) % 257 = X at *
              generalize (ga l j - at' + 257) % 257 = Y at *
              generalize (ga l j - ga l (j + (q + 1)) + 257) % 257 = D at *
              have t1 : IntKind.i64.wrap (X * U) = X * U := IntWalk.i64_in _ (by omega)
              have t2 : IntKind.i64.wrap (Y * V) = Y * V := IntWalk.i64_in _ (by omega)
              have t3 : IntKind.i64.wrap (X * U + Y * V) = X * U + Y * V := IntWalk.i64_in _ (by omega)
              have t4 : (X * U + Y * V).tmod 257 = (X * U + Y * V) % 257 := Int.tmod_eq_emod_of_nonneg (by omega)
              have t5 : IntKind.i64.wrap ((X * U + Y * V) % 257 * I) = (X * U + Y * V) % 257 * I := IntWalk.i64_in _ (by omega)
              have t6 : ((X * U + Y * V) % 257 * I).tmod 257 = (X * U + Y * V) % 257 * I % 257 := Int.tmod_eq_emod_of_nonneg (by omega)
              have t7 : IntKind.i64.wrap ((j : Int) + 1) = (j : Int) + 1 := IntWalk.i64_in _ (by omega)
              have t8 : (0 : Int) ≤ (j : Int) + 1 := by omega
              have t9 : ((j : Int) + 1).toNat = j + 1 := by omega
              have t10 : (j : Int) + 1 < l.length := by omega
              obtain ⟨wz, hwz⟩ : ∃ wz : World, wz = wr.drewN nq := ⟨_, rfl⟩
              have z1 : wz.cell? ⟨g, j, none⟩ = some (.int .i64 U) := by rw [hwz]; exact hp1
              have z2 : wz.cell? ⟨g, j + 1, none⟩ = some (.int .i64 V) := by rw [hwz]; exact hp2
              have z3 : wz.frozen? ⟨g, j, none⟩ = false := by rw [hwz]; exact hpf
              have hoZ : OInts wz w.heap.size (some ⟨g, 0, none⟩) c' M := by rw [hwz]; exact hoM.keep (bdn (Below.refl _ _) _)
              have hbZ : Below w.heap.size w wz := by rw [hwz]; exact bdn hbM _
              rw [← hwz]
              clear hwz hp1 hp2 hpf
              go_still_tail 22, (by kernel_rfl)
              still_call ((C.out _).mono fun e w'' ⟨h1, h2⟩ => ⟨h1, h2.symm⟩)
              repeat still_step
              refine wpStill_nil ?_
              change wpList _ _ _ _ _ wz.drew
              have hgb2 : w.heap.size ≤ g := hgb
              obtain ⟨ho4, hb4⟩ := OInts.set hoZ j ((X * U + Y * V) % 257 * I % 257) hgb2 (Nat.le_refl _) hbZ
              have HO4 := Lib.hid ho4; clear ho4
              have z3' : wz.drew.frozen? ⟨g, j, none⟩ = false := z3
              clear t1 t2 t3 t4 t5 t6 t7 t8 t9 t10
              go_wp2_with fail
              go_roundw
              case rel =>
                have hlen : (M.set j ((X * U + Y * V) % 257 * I % 257)).length = l.length := by rw [List.length_set]; exact hMl.out
                refine ⟨j + 1, M.set j ((X * U + Y * V) % 257 * I % 257), by omega, by go_num, hlen, ?_, ?_, HO4.out, bdr hb4⟩
                · intro t ht
                  rw [gi_set _ _ _ (by rw [hMl.out]; omega)]
                  by_cases e : t = j
                  · rw [if_pos e, e]; exact HNV.out.symm
                  · rw [if_neg e]; exact hM1.out t (by omega)
                · intro t ht htn
                  rw [gi_set _ _ _ (by rw [hMl.out]; omega), if_neg (by omega)]
                  exact hM2.out t (by omega) htn
              case measure => simp [intOf]; omega
            · have hje : j + (q + 1) = l.length := by omega
              go_wp2_with fail
              go_roundw
              case rel => exact ⟨q + 1, M, by omega, by go_num, hMl, (fun t ht => hM1.out t (by omega)), hoM, hbM⟩
              case measure => simp [intOf]; omega
        · have hqe : q = l.length - 1 := by omega
          obtain ⟨g', e, _, hgl2, hcc⟩ := hoL.at_ (by rw [hLl.out]; exact hn0)
          simp only [Option.some.injEq, Addr.mk.injEq, and_true] at e
          subst e
          obtain ⟨hp1, hpf⟩ := hcc 0 (by rw [hLl.out]; omega)
          rw [hLv.out 0 (by omega)] at hp1
          have HQ := Lib.hid hqe; clear hqe hcc
          go_wp2_with fail
          go_ret
          exact ⟨by rw [HQ.out]; rfl, hbL⟩
end Go.Proofs.YtamndgeeibfmhaaDoor
