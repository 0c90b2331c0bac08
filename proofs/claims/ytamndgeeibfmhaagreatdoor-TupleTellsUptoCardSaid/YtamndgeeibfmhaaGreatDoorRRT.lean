/- The reference's Cut: what it returns. -/
import Derived.Test.YtamndgeeibfmhaaGreatDoorTPar2
import Derived.WalkKit
import Derived.WalkLawsBesides
import Derived.WalkSpells
import Derived.RegionTactic
import Derived.Outline
namespace Go.Proofs.YtamndgeeibfmhaaGreatDoor
open Go.RowKit Go.Joins Go.ChangeShapes Go.WideShapes Go.Deep
set_option linter.unusedVariables false

theorem pcs_at {c : UInt8} {l : List UInt8} {fr i : Nat} (hf : fr ≤ i) (h : l[i]? = some c) (hk : ∀ k, fr ≤ k → k < i → l[k]? ≠ some c) : pcs c (l.drop fr) = (l.drop fr).take (i - fr) :: pcs c (l.drop (i + 1)) := by
  rw [pcs_some c (l.drop fr) (i - fr) (by rw [List.getElem?_drop, show fr + (i - fr) = i by omega]; exact h) fun k hl => by
    rw [List.getElem?_drop]; exact hk (fr + k) (by omega) (by omega)]
  rw [List.drop_drop, show fr + (i - fr + 1) = i + 1 by omega]
theorem pcs_end {c : UInt8} {l : List UInt8} {fr : Nat} (hk : ∀ k, fr ≤ k → l[k]? ≠ some c) : pcs c (l.drop fr) = [l.drop fr] :=
  pcs_none c _ fun k => by rw [List.getElem?_drop]; exact hk (fr + k) (by omega)
theorem ext_mid (s : ByteArray) (a b : Nat) : (s.extract a b).data.toList = (s.data.toList.drop a).take (b - a) := by
  rw [ByteArray.data_extract, Array.toList_extract]
theorem wpList_append_strB {w : World} {ops : Array Oper} {rest : List Oper} {o : Oper} {a : Act} {Q : Exit → Act → World → Prop} (hgd : o.guard = none) (s x : Operand)
    (ho : o.op = .call { callee := .builtin .append, args := #[s, x], argTypes := #[48, 48] }) (base : Nat) (A : Option Addr) (c : Nat) (l : List ByteArray) (m : Nat) (hm : l.length = m) (hs : a.eval s = .slice A m c) (hown : OStrs w base A c l)
    (g : Nat) (p : ByteArray) (hx : a.eval x = .slice (some ⟨g, 0, none⟩) 1 1) (h0 : w.cell? ⟨g, 0, none⟩ = some (.string p)) (hn : l.length ≤ 4000000) (hbase : base ≤ w.heap.size)
    (h : ∀ A' c' w', OStrs w' base A' c' (l ++ [p]) → Below base w w' → wpList Tryz.prog ops Q rest (a.put o.dst (.slice A' (m + 1) c')) w') : wpList Tryz.prog ops Q (o :: rest) a w := by
  subst hm
  refine wpList_append_all hgd s x _ ho base 9 _ 1 16 Tryz.underlying48 infoStr rfl (by decide) A c l.length _ hs hown (some ⟨g, 0, none⟩) 1 1 [.string p] hx rfl ?_ (by simp [Value.oneCell']) (by unfold maxLen; omega) (by omega) hbase ?_
  · intro _
    refine ⟨g, 0, rfl, fun j u hj => ?_⟩
    match j, hj with
    | 0, hj => simp at hj; subst hj; exact h0
  · intro A' c' w' h2 h3
    refine h A' c' w' ?_ (own_below h3 hown hbase)
    unfold OStrs; rw [List.length_append, List.map_append]; exact h2
theorem wpList_append_valB {w : World} {ops : Array Oper} {rest : List Oper} {o : Oper} {a : Act} {Q : Exit → Act → World → Prop} (hgd : o.guard = none) (s x : Operand)
    (ho : o.op = .call { callee := .builtin .append, args := #[s, x], argTypes := #[22, 22] }) (base : Nat) (A : Option Addr) (c : Nat) (l : List Va) (m : Nat) (hm : l.length = m) (hs : a.eval s = .slice A m c) (hown : OVals w base A c l)
    (g : Nat) (v : Va) (hx : a.eval x = .slice (some ⟨g, 0, none⟩) 1 1) (hv : AtB w g #[.int .i64 v.k, .int .i64 v.n, .string v.s] 41) (hn : l.length ≤ 4000000) (hbase : base ≤ w.heap.size)
    (h : ∀ A' c' w', OVals w' base A' c' (l ++ [v]) → Below base w w' → wpList Tryz.prog ops Q rest (a.put o.dst (.slice A' (m + 1) c')) w') : wpList Tryz.prog ops Q (o :: rest) a w := by
  subst hm
  refine wpList_append_all hgd s x _ ho base 41 _ 3 32 Tryz.underlying22 infoV rfl (by decide) A c l.length _ hs hown (some ⟨g, 0, none⟩) 1 1 [.int .i64 v.k, .int .i64 v.n, .string v.s] hx rfl ?_ (by simp [Value.oneCell']) (by unfold maxLen; omega) (by omega) hbase ?_
  · intro _
    refine ⟨g, 0, rfl, fun j u hj => ?_⟩
    rw [Nat.zero_add]
    exact hv.cell (i := j) (by rw [← hj]; simp)
  · intro A' c' w' h2 h3
    refine h A' c' w' ?_ (own_below h3 hown hbase)
    unfold OVals; rw [List.length_append, vaCells_append]; exact h2
set_option maxHeartbeats 1600000 in
set_option maxRecDepth 100000 in
theorem rcut_any (s : ByteArray) (hs : s.size ≤ 2000000) (b : UInt8) (w : World) :
    Calls Tryz.prog 24 #[.string s, .int .u8 b.toNat] w fun e w' => (∃ (A : Option Addr) (c : Nat), e = .returned (.slice A (pcsB b s).length c) ∧ OStrs w' w.heap.size A c (pcsB b s)) ∧ Below w.heap.size w w' := by
  obtain ⟨ps, hps⟩ : ∃ ps, ps = pcsB b s := ⟨_, rfl⟩
  rw [← hps]
  have hp0 : ps.map (·.data.toList) = pcs b s.data.toList := by
    rw [hps, pcsB, List.map_map]
    exact (List.map_congr_left fun l _ => rfl).trans (List.map_id _)
  have HP0 := Lib.hid hp0
  clear hps hp0
  go_enter Tryz.func24, Tryz.ntmps24
  go_wp2_with fail
  go_loopw [5, 6, 7] (fun so sf si wr => ∃ (A : Option Addr) (c : Nat) (done : List ByteArray) (n fr i : Nat), fr ≤ i ∧ i ≤ s.size ∧ n ≤ fr ∧ done.length = n ∧ so = .slice A n c ∧ sf = .int .i64 fr ∧ si = .int .i64 i ∧ Hid (OStrs wr w.heap.size A c done) ∧ Hid (Below w.heap.size w wr) ∧ Hid (ps.map (·.data.toList) = done.map (·.data.toList) ++ pcs b (s.data.toList.drop fr)) ∧ Hid (∀ k, fr ≤ k → k < i → s.data.toList[k]? ≠ some b)) (fun _ _ si _ => s.size - (intOf si).toNat)
  case atStart => exact ⟨none, 0, [], 0, 0, 0, by omega, by omega, by omega, rfl, rfl, rfl, rfl, OStrs.nil, Below.refl _ _, Lib.hid (HP0.out.trans rfl), Lib.hid (fun k h1 h2 => by omega)⟩
  case round =>
    obtain ⟨A, c, done, n, fr, i, hfi, his, hnf, hdn, rfl, rfl, rfl, HO, HB, HP, HK⟩ := hrel
    have i0 : (0 : Int) ≤ (i : Int) := by omega
    have f0 : (0 : Int) ≤ (fr : Int) := by omega
    have f1 : (fr : Int) ≤ (i : Int) := by omega
    have f2 : (fr : Int) ≤ (s.size : Int) := by omega
    have i2 : (i : Int) ≤ (s.size : Int) := by omega
    by_cases hlt : i < s.size
    · have i1 : (i : Int) < (s.size : Int) := by omega
      have hat := list_at hlt
      by_cases hb : s[i] = b
      · have q : (((s[i]'hlt).toNat : Int) == (b.toNat : Int)) = true := by rw [hb]; simp
        rw [hb] at hat
        have hp := HP.out
        rw [pcs_at hfi hat HK.out, ← ext_mid] at hp
        have hp2 : ps.map (·.data.toList) = (done ++ [s.extract fr i]).map (·.data.toList) ++ pcs b (s.data.toList.drop (i + 1)) := by
          rw [hp, List.map_append]; simp
        have HP2 := Lib.hid hp2; have HDN := Lib.hid hdn
        have hdl : done.length ≤ 4000000 := by omega
        clear hp hp2 hat hb hdn
        go_wp2_with (at_builtin; refine wpList_append_strB rfl _ _ rfl w.heap.size A c done n HDN.out rfl (HO.out.keep (bal1 _ _)) wr.heap.size (s.extract fr i) rfl ((AtB.new _ _ _).cell (i := 0) rfl) hdl (le_al HB.out.size _) ?_; intro A2 c2 w2 h1 h2; have HO2 := Lib.hid h1; have HB2 := Lib.hid ((bal HB.out _).trans h2); clear h1 h2)
        go_roundw
        case rel => exact ⟨A2, c2, done ++ [s.extract fr i], n + 1, i + 1, i + 1, by omega, by omega, by omega, by rw [List.length_append, HDN.out]; rfl, rfl, by go_num, by go_num, HO2, HB2, HP2, Lib.hid (fun k h1 h2 => by omega)⟩
        case measure => simp [intOf]; omega
      · have q : (((s[i]'hlt).toNat : Int) == (b.toNat : Int)) = false := beq_eq_false_iff_ne.2 fun e => hb (UInt8.toNat_inj.1 (by omega))
        have hk2 : ∀ k, fr ≤ k → k < i + 1 → s.data.toList[k]? ≠ some b := fun k h1 h2 => by
          by_cases e : k = i
          · subst e; rw [hat]; intro e2; exact hb (Option.some.inj e2)
          · exact HK.out k h1 (by omega)
        have HK2 := Lib.hid hk2
        clear hat hb hk2
        go_wp2_with fail
        go_roundw
        case rel => exact ⟨A, c, done, n, fr, i + 1, by omega, by omega, hnf, hdn, rfl, rfl, by go_num, HO, HB, HP, HK2⟩
        case measure => simp [intOf]; omega
    · obtain rfl : i = s.size := by omega
      have hp := HP.out
      rw [pcs_end (fun k h1 => by
        rcases Nat.lt_or_ge k s.size with h2 | h2
        · exact HK.out k h1 h2
        · rw [List.getElem?_eq_none (by rw [Array.length_toList]; exact h2)]; simp), ← ext_drop] at hp
      have hp2 : ps = done ++ [s.extract fr s.size] := by
        have : ps.map (·.data.toList) = (done ++ [s.extract fr s.size]).map (·.data.toList) := by rw [hp, List.map_append]; rfl
        exact List.map_inj_right (fun x y h => bytes_eq h) |>.1 this
      have HP2 := Lib.hid hp2; have HDN := Lib.hid hdn
      have hdl : done.length ≤ 4000000 := by omega
      clear hp hp2 hdn
      go_wp2_with (at_builtin; refine wpList_append_strB rfl _ _ rfl w.heap.size A c done n HDN.out rfl (HO.out.keep (bal1 _ _)) wr.heap.size (s.extract fr s.size) rfl ((AtB.new _ _ _).cell (i := 0) rfl) hdl (le_al HB.out.size _) ?_; intro A2 c2 w2 h1 h2; have HO2 := Lib.hid h1; have HB2 := Lib.hid ((bal HB.out _).trans h2); clear h1 h2)
      go_ret
      rw [HP2.out]
      exact ⟨⟨A2, c2, by rw [List.length_append, HDN.out]; rfl, HO2.out⟩, HB2.out⟩
end Go.Proofs.YtamndgeeibfmhaaGreatDoor
