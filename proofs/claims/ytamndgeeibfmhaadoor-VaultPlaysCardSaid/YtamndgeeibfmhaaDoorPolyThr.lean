/- poly.Through (Lagrange), At, Next, Zero: what each returns. -/
import Derived.Test.YtamndgeeibfmhaaDoorPolyPts
namespace Go.Proofs.YtamndgeeibfmhaaDoor
open Go.RowKit
set_option linter.unusedVariables false

theorem ptE_pts (l : List Sh) (k : Nat) (h : ptE l k = 0) : (∀ i, i < k → pinB l i = true) ∧ ∀ i j, i < k → j < i → ga l j ≠ ga l i := by
  have hw : ∀ (x : Int) (n : Nat), wasB l x n = false → ∀ j, j < n → ga l j ≠ x := by
    intro x n
    induction n with
    | zero => intro _ j hj; omega
    | succ n ih =>
      intro hf j hj
      simp only [wasB, Bool.or_eq_false_iff] at hf
      by_cases e : j = n
      · subst e; simpa using hf.2
      · exact ih hf.1 j (by omega)
  induction k with
  | zero => exact ⟨fun i hi => by omega, fun i j hi => by omega⟩
  | succ k ih =>
    by_cases h0 : ptE l k = 0
    · have hi := ih h0
      simp only [ptE, h0, if_true] at h
      cases hp : pinB l k with
      | false => rw [hp] at h; simp at h
      | true =>
        rw [hp] at h; simp only [if_true] at h
        cases hwk : wasB l (ga l k) k with
        | true => rw [hwk] at h; simp at h
        | false =>
          refine ⟨fun i hik => ?_, fun i j hik hji => ?_⟩
          · by_cases e : i = k
            · subst e; exact hp
            · exact hi.1 i (by omega)
          · by_cases e : i = k
            · subst e; exact hw _ _ hwk j hji
            · exact hi.2 i j (by omega) hji
    · simp only [ptE] at h
      rw [if_neg h0] at h
      exact absurd h h0
/-- points that are right -/
theorem poi_pts (l : List Sh) (h : poiE l = 0) : 0 < l.length ∧ l.length ≤ 7 ∧ PM.Pts (ga l) (gb l) l.length := by
  unfold poiE at h
  split at h
  · cases h
  · split at h
    · cases h
    · obtain ⟨h1, h2⟩ := ptE_pts l _ h
      have hin : ∀ i, i < l.length → (0 ≤ ga l i ∧ ga l i < 257) ∧ 0 ≤ gb l i ∧ gb l i < 257 := fun i hi => by
        have := h1 i hi
        rw [pinB, Bool.and_eq_true] at this
        exact ⟨inB_true.1 this.1, inB_true.1 this.2⟩
      refine ⟨by omega, by omega, ⟨fun i hi => (hin i hi).1, fun i hi => (hin i hi).2, fun i j hi hj hne => ?_⟩⟩
      rcases Nat.lt_or_gt_of_ne hne with h3 | h3
      · exact h2 j i hj h3
      · exact fun e => h2 i j hi h3 e.symm

theorem up_bd {u d : Int} (h0 : 0 ≤ u) (h1 : u < 257) (h2 : 0 ≤ d) (h3 : d < 514) : 0 ≤ u * d ∧ u * d ≤ 1000000000000 := mul_bd (b := 514) h0 (by omega) h2 h3 (by omega)

set_option maxHeartbeats 4000000 in
set_option maxRecDepth 100000 in
theorem through_any (A : Option Addr) (cap : Nat) (l : List Sh) (at' : Int) (h0 : 0 ≤ at') (h1 : at' < 257) (hn : l.length ≤ 7) (hp : PM.Pts (ga l) (gb l) l.length) (w : World) (hA : Shares w A l) :
    Calls Tryd.prog 60 #[.slice A l.length cap, .int .i64 at'] w fun e w' => e = .returned (.int .i64 (PM.thr (ga l) (gb l) l.length at' l.length)) ∧ Below w.heap.size w w' := by
  go_enter Tryd.func60, Tryd.ntmps60
  go_wp2_with fail
  go_loopw [5, 14] (fun s i wr => ∃ k : Nat, k ≤ l.length ∧ i = .int .i64 k ∧ s = .int .i64 (PM.thr (ga l) (gb l) l.length at' k) ∧ Below w.heap.size w wr) (fun _ i _ => l.length - (intOf i).toNat)
  case atStart => exact ⟨0, Nat.zero_le _, rfl, rfl, Below.refl _ _⟩
  case round =>
    obtain ⟨k, hk, rfl, rfl, hb⟩ := hrel
    obtain ⟨wq, rfl⟩ : ∃ wq : World, wq = wr := ⟨_, rfl⟩
    by_cases hlt : k < l.length
    · have hS := hA.below hb (Nat.le_refl _)
      obtain ⟨b, off, rfl, hbl, hc1, hc2⟩ := hS.at_ hlt
      obtain ⟨x0, x1⟩ := hp.xr k hlt
      obtain ⟨y0, y1⟩ := hp.yr k hlt
      obtain ⟨wo, hwo⟩ : ∃ wo : World, wo = wq.alloc (.cells #[.int .i64 (ga l k), .int .i64 (gb l k)] 64) := ⟨_, rfl⟩
      have hcx : wo.cell? ⟨wq.heap.size, 0, none⟩ = some (.int .i64 (ga l k)) := by rw [hwo]; simp
      have hso : wq.heap.size < wo.heap.size := by rw [hwo]; simp
      have hSo : Shares wo (some ⟨b, off, none⟩) l := by rw [hwo]; exact Sl.alloc hS _
      have hbo : Below w.heap.size w wo := by rw [hwo]; exact bal hb _
      have HW := Lib.hid hwo
      clear hwo
      go_wp2_with fail
      rw [← HW.out]
      clear hS hc1 hc2
      go_loopw [8, 9, 23] (fun u d i wx => ∃ j : Nat, j ≤ l.length ∧ i = .int .i64 j ∧ u = .int .i64 (PM.pb (ga l) k at' (gb l k) j) ∧ d = .int .i64 (PM.pb (ga l) k (ga l k) 1 j) ∧ Below wo.heap.size wo wx) (fun _ _ i _ => l.length - (intOf i).toNat)
      case atStart => exact ⟨0, Nat.zero_le _, rfl, rfl, rfl, Below.refl _ _⟩
      case round =>
        obtain ⟨j, hj, rfl, rfl, rfl, hbx⟩ := hrel
        obtain ⟨u0, u1⟩ := PM.pb_range (ga l) k at' (gb l k) ⟨y0, y1⟩ j
        obtain ⟨d0, d1⟩ := PM.pb_range (ga l) k (ga l k) 1 (by omega) j
        have hcxx := (hbx.cell (p := ⟨wq.heap.size, 0, none⟩) hso).trans hcx
        by_cases hjl : j < l.length
        · obtain ⟨b', off', e, hbl', hc1, hc2⟩ := (hSo.below hbx (Nat.le_refl _)).at_ hjl
          simp only [Option.some.injEq, Addr.mk.injEq, and_true] at e
          obtain ⟨rfl, rfl⟩ := e
          obtain ⟨z0, z1⟩ := hp.xr j hjl
          have hzz := hbx.size
          have hzl : wq.heap.size < wr.heap.size := Nat.lt_of_lt_of_le hso hzz
          by_cases hkj : j = k
          · have hu : PM.pb (ga l) k at' (gb l k) (j + 1) = PM.pb (ga l) k at' (gb l k) j := by rw [PM.pb, if_pos hkj]
            have hd : PM.pb (ga l) k (ga l k) 1 (j + 1) = PM.pb (ga l) k (ga l k) 1 j := by rw [PM.pb, if_pos hkj]
            have HU := Lib.hid hu; have HD := Lib.hid hd; clear hu hd
            have hne : ((k : Int) != (j : Int)) = false := by simp [hkj]
            clear hkj
            generalize PM.pb (ga l) k at' (gb l k) j = U at *
            generalize PM.pb (ga l) k (ga l k) 1 j = D at *
            go_wp2_with fail
            go_roundw
            case rel => exact ⟨j + 1, by omega, by go_num, by rw [HU.out], by rw [HD.out], bal hbx _⟩
            case measure => simp [intOf]; omega
          · have hu : PM.pb (ga l) k at' (gb l k) (j + 1) = PM.pb (ga l) k at' (gb l k) j * (at' - ga l j + 257) % 257 := by rw [PM.pb, if_neg hkj]
            have hd : PM.pb (ga l) k (ga l k) 1 (j + 1) = PM.pb (ga l) k (ga l k) 1 j * (ga l k - ga l j + 257) % 257 := by rw [PM.pb, if_neg hkj]
            have HU := Lib.hid hu; have HD := Lib.hid hd; clear hu hd
            have hne : ((k : Int) != (j : Int)) = true := by rw [bne_iff_ne]; omega
            clear hkj
            generalize PM.pb (ga l) k at' (gb l k) j = U at *
            generalize PM.pb (ga l) k (ga l k) 1 j = D at *
            obtain ⟨m1, m2⟩ := up_bd u0 u1 (d := at' - ga l j + 257) (by omega) (by omega)
            obtain ⟨m3, m4⟩ := up_bd d0 d1 (d := ga l k - ga l j + 257) (by omega) (by omega)
            go_wp2_with fail
            go_roundw
            case rel => exact ⟨j + 1, by omega, by go_num, by rw [HU.out], by rw [HD.out], bal hbx _⟩
            case measure => simp [intOf]; omega
        · obtain rfl : j = l.length := by omega
          have ht : PM.thr (ga l) (gb l) l.length at' (k + 1) = (PM.thr (ga l) (gb l) l.length at' k + PM.pb (ga l) k at' (gb l k) l.length * PM.iv (PM.pb (ga l) k (ga l k) 1 l.length)) % 257 := rfl
          have HT := Lib.hid ht; clear ht
          obtain ⟨s0, s1⟩ := PM.thr_range (ga l) (gb l) l.length at' k
          generalize PM.pb (ga l) k at' (gb l k) l.length = U at *
          generalize PM.pb (ga l) k (ga l k) 1 l.length = D at *
          generalize PM.thr (ga l) (gb l) l.length at' k = T at *
          obtain ⟨i0, i1⟩ := PM.iv_range D
          obtain ⟨m1, m2⟩ := up_bd u0 u1 (d := PM.iv D) i0 (by omega)
          go_wp2_with (go_at_call 81; refine (turned_any D _ d0 d1).mono ?_; rintro e w' ⟨rfl, rfl⟩)
          go_roundw
          case rel => exact ⟨k + 1, by omega, by go_num, by rw [HT.out], hbo.trans (hbx.mono hbo.size)⟩
          case measure => simp [intOf]; omega
    · obtain rfl : k = l.length := by omega
      go_wp2_with fail
      go_ret
      exact ⟨rfl, hb⟩

/-- At -/
def atE (xs : List Int) (x : Int) : Value := if 7 < xs.length then errV 4 else if allIn xs xs.length = false then errV 1 else if inB x = false then errV 1 else .nilIface
end Go.Proofs.YtamndgeeibfmhaaDoor
