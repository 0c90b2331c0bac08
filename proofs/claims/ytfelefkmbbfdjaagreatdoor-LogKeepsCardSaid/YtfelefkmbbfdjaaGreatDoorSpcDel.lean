/- slices.Delete of one, at slices of tuples. After the shelf's worked proof at ints. -/
import Derived.Test.YtfelefkmbbfdjaaGreatDoorSpcPut
import Derived.Deep.RegionLaw
import Derived.Lib.SlicesDelete
import Derived.Lib.SliceRun
import Derived.Lib.Walk
namespace Go.Proofs.YtfelefkmbbfdjaaGreatDoor
open Go.ChangeShapes Go.WideShapes Go.ChangeAt Go.RowKit Go.Sort Go.Lib
set_option linter.unusedVariables false

theorem zeroVals (w : World) : (zeroValue 32).run Tryz.prog w = .ok (.slice none 0 0) w := by kernel_rfl
set_option maxHeartbeats 4000000 in
set_option maxRecDepth 1000000 in
theorem spdel_any (blk cap i : Nat) (d : Array Value) (w : World) (hH : Holds id w blk 0 d) (hone : ∀ u ∈ d.toList, u.oneCell' = true) (hcap : d.size ≤ cap) (hm : cap ≤ 9223372036854775807) (hj : i < d.size) :
    Calls Tryz.prog 90 #[.slice (some ⟨blk, 0, none⟩) d.size cap, .int .i64 i, .int .i64 (i + 1)] w fun e w' => e = .returned (.slice (some ⟨blk, 0, none⟩) (d.size - 1) cap) ∧ w' = putRow id (Sort.ahead w 1) blk 0 (d.toList.take i ++ d.toList.drop (i + 1) ++ [Value.slice none 0 0]).toArray := by
  obtain ⟨i0, hi0, hz0, hz1, hz2⟩ := info_parts infoVals
  obtain ⟨j, hji⟩ : ∃ j, j = i + 1 := ⟨_, rfl⟩
  have hjc' : ((i : Int) + 1) = (j : Int) := by omega
  obtain ⟨news, hnews⟩ : ∃ news, news = (d.toList.drop j).map id := ⟨_, rfl⟩
  have hlen : news.length = d.size - j := by rw [hnews]; simp
  have hget : ∀ t, t < d.size - j → news[t]? = some (id d[j + t]!) := by
    intro t ht
    rw [hnews, List.getElem?_map, List.getElem?_drop, Array.getElem?_toList, getElem!_pos d (j + t) (by omega), Array.getElem?_eq_getElem (by omega)]
    rfl
  obtain ⟨A, hA, hsrc⟩ : ∃ A : Addr, (if cap = j then some (⟨blk, 0, none⟩ : Addr) else some ⟨blk, j, none⟩) = some A ∧ Hid (∀ t u, news[t]? = some u → w.drew.cell? (A.add t) = some u) := by
    by_cases h : cap = j
    · refine ⟨⟨blk, 0, none⟩, by simp [h], fun t u hu => ?_⟩
      have h0 : news.length = 0 := by rw [hlen]; omega
      rw [List.length_eq_zero_iff.1 h0] at hu
      simp at hu
    · refine ⟨⟨blk, j, none⟩, by simp [h], fun t u hu => ?_⟩
      have ht : t < d.size - j := by
        have := (List.getElem?_eq_some_iff.1 hu).1
        rwa [hlen] at this
      rw [hget t ht] at hu
      rw [add_plain, ← hu]
      have := (hH (j + t) (by omega)).1
      rw [Nat.zero_add] at this
      exact this
  have s1 : Hid (news.length = (d.size - j) * 1) := by rw [Nat.mul_one]; exact hlen
  have s2 : Hid (∀ u ∈ news, u.oneCell' = true) := by
    intro u hu
    rw [hnews, List.map_id] at hu
    exact hone u (List.mem_of_mem_drop hu)
  have s3 : Hid (∀ t, t < news.length → (w.drew.cell? ⟨blk, 0 + i * 1 + t, none⟩).isSome = true ∧ w.drew.frozen? ⟨blk, 0 + i * 1 + t, none⟩ = false) := by
    intro t ht
    rw [hlen] at ht
    rw [Nat.mul_one, Nat.add_assoc]
    exact ⟨by show (w.cell? _).isSome = true; rw [(hH (i + t) (by omega)).1]; rfl, (hH (i + t) (by omega)).2⟩
  obtain ⟨W1, hW1⟩ : ∃ W1, W1 = w.drew.setCells blk (0 + i * 1) news := ⟨_, rfl⟩
  have hW1' : W1 = putRow id (Sort.ahead w 1) blk 0 (lay d i (d.toList.drop j)) := by
    rw [hW1, hnews, Nat.mul_one, ← putRow_setCells id (Sort.ahead w 1) blk 0 _ d i (by simp; omega), putRow_self id (Sort.ahead w 1) blk 0 d (holds_ahead id w 1 blk 0 d hH)]
    rfl
  have hH1 : Holds id W1 blk 0 (lay d i (d.toList.drop j)) := by rw [hW1']; exact holds_putRow id _ blk 0 d _ (holds_ahead id w 1 blk 0 d hH) (lay_size _ _ _)
  have hcl : ∀ ty, (Builtin.clear_ #[72] ty #[.slice (some ⟨blk, i + (d.size - j), none⟩) (d.size - (i + (d.size - j))) (cap - (i + (d.size - j)))]).run Tryz.prog W1 = .ok (.tuple #[]) (W1.setCells blk (0 + (i + (d.size - j))) (List.replicate (d.size - (i + (d.size - j))) (.slice none 0 0))) :=
    fun ty => by
      have e0 : (⟨blk, i + (d.size - j), none⟩ : Addr) = ⟨blk, 0 + (i + (d.size - j)), none⟩ := by rw [Nat.zero_add]
      rw [e0]
      exact Lib.run_clear_slice W1 _ _ ty _ Tryz.underlying72 zeroVals rfl rfl blk (0 + (i + (d.size - j))) _ _ (by omega) (fun t ht => by rw [show 0 + (i + (d.size - j)) + t = 0 + (i + (d.size - j) + t) by omega, (hH1 _ (by rw [lay_size]; omega)).1]; rfl) (fun t ht => by rw [show 0 + (i + (d.size - j)) + t = 0 + (i + (d.size - j) + t) by omega]; exact (hH1 _ (by rw [lay_size]; omega)).2)
  have X : Hid (W1 = putRow id (Sort.ahead w 1) blk 0 (lay d i (d.toList.drop j))) := hW1'
  have hW : Hid (W1 = w.drew.setCells blk (0 + i * 1) news) := hW1
  have hic : i ≤ cap := by omega
  have hjc : j ≤ cap := by omega
  have hlt : i < j := by omega
  have hj2 : j ≤ d.size := by omega
  rw [hjc']
  have HJ := Lib.hid hji
  clear hW1 hW1' hH1 hH hget hnews hlen hjc' hji hone
  go_enter Tryz.func90, Tryz.ntmps90
  go_wp2_with fail
  go_region_law (refine step_append_room rfl (.tmp 22) (.tmp 25) 72 rfl 32 i0 1 Tryz.underlying72 hi0 hz1 blk 0 i cap (by simp [Act.eval, Act.put]) A (d.size - j) (cap - j) news (by simp [Act.eval, Act.put]) s1.out hsrc.out s2.out (by omega) s3.out ?_; rw [← hW.out])
  go_wp2
  go_ret
  have hji := HJ.out
  refine ⟨by rw [show d.size - 1 = i + (d.size - j) by omega]; rfl, ?_⟩
  rw [← hji, ← List.replicate_one, show 1 = j - i by omega, ← delete_arr d i j (Value.slice none 0 0) (by omega) (by omega), ← putRow_setCells id _ blk 0 _ _ (i + (d.size - j)) (by rw [lay_size]; simp; omega), show j - i = 1 by omega, ← X.out, List.map_replicate, show d.size - (i + (d.size - j)) = 1 by omega, Nat.zero_add]
  rfl
end Go.Proofs.YtfelefkmbbfdjaaGreatDoor
