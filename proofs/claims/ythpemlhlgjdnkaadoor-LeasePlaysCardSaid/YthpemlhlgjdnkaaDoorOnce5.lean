/- What OncePlays' walk asks besides: what Move leaves is settled; the reference's push of what was got. -/
import Derived.Test.YthpemlhlgjdnkaaDoorOnce4
namespace Go.Proofs.YthpemlhlgjdnkaaDoor
open Go.ChangeShapes Go.WideShapes Go.ChangeAt Go.RowKit
set_option linter.unusedVariables false

theorem same_errW (n : Int) (W : World) (h : HG W) : Calls Tryd.prog 24 #[errV n, .int .i64 n] W fun e w' => e = .returned (.bool true) ∧ Below W.heap.size W w' :=
  (same_err n W W (DG.refl h)).mono fun e w' ⟨h1, h2⟩ => ⟨h1, h2.2⟩
theorem same_t0 (A B : Option Addr) (c d : Nat) (W : World) :
    Calls Tryd.prog 27 #[.slice A 0 c, .slice B 0 d] W fun e w' => e = .returned (.bool true) ∧ Below W.heap.size W w' := same_tW A B c d [] W vals_nil vals_nil (by simp)
section
variable {w0 w : World} {p q p2 q2 : Nat} {g h g2 h2 : Option Nat} {L K L2 K2 : List (List Va)}
theorem j4moveD (j : J4 w0 w p g q h p2 g2 q2 h2 L K L2 K2) (A : Option Addr) (c : Nat) (a : List Va) (hm : a.length ≤ maxLen) (hok : okL a) (hA : Vals w0 A a) (h0 : liE a = 0) {n : Nat} {M1 M2 : List (List Va)} (hmv : Mv a L K n M1 M2) (he : plc a M1 < 0 ∨ M2.length = 20) :
    Calls Tryd.prog 61 #[.pointer (some ⟨p, 0, none⟩), .pointer (some ⟨q, 0, none⟩), .slice A a.length c] w fun e w' => e = .returned (.tuple #[.int .i64 n, .nilIface]) ∧ ∃ H, J4 w0 w' p g q H p2 g2 q2 h2 M1 M2 L2 K2 :=
  (j4move j A c a hm hok hA h0).mono fun e w' ⟨m, N1, N2, H, e1, e2, e3, e4⟩ => by
    obtain ⟨x1, x2, x3⟩ := hmv.det he e2 e3
    subst x1 x2 x3
    exact ⟨e1, H, e4⟩
theorem j4at (j : J4 w0 w p g q h p2 g2 q2 h2 L K L2 K2) {E : Option Addr} {n : Nat} (q1 : AtB w q2 #[.slice E K2.length n] 78) (hO : OMany Vals 29 28 w w0.heap.size E n K2) {o : Obj} {w4 : World} (hg4 : (w.alloc o).grownBy w4 (Value.slice E K2.length n).ownBlock) :
    Chs (fun b => (Value.slice E K2.length n).ownBlock = some b) w w4 ∧ AtB w4 q2 #[.slice E K2.length n] 78 := by
  have hcg : Chs (fun b => (Value.slice E K2.length n).ownBlock = some b) w w4 := (Chs.of_below _ (bal1 _ _)).trans (Chs.grown hg4) (fun b hb => .inl hb)
  exact ⟨hcg, q1.chs hcg (fun e => kin_ne (hO.gkin e).2 q1.kin (by decide) rfl)⟩
theorem j4push (j : J4 w0 w p g q h p2 g2 q2 h2 L K L2 K2) {E : Option Addr} {n : Nat} (q1 : AtB w q2 #[.slice E K2.length n] 78) (hgo : (Value.slice E K2.length n).ownBlock = h2) (hO : OMany Vals 29 28 w w0.heap.size E n K2)
    {t : List Va} (hl : K2.length ≠ 20) (ht : okL t ∧ tuE t = 0) {o : Obj} {w4 : World} {b4 c4 : Nat} (ho4 : OMany Vals 29 28 w4 w0.heap.size (some ⟨b4, 0, none⟩) c4 (K2 ++ [t])) (hg4 : (w.alloc o).grownBy w4 (Value.slice E K2.length n).ownBlock)
    (hx4 : (Value.slice E K2.length n).ownBlock = some b4 ∨ b4 = (w.alloc o).heap.size) :
    J4 w0 (w4.setCell ⟨q2, 0, none⟩ (.slice (some ⟨b4, 0, none⟩) (K2.length + 1) c4)) p g q h p2 g2 q2 (some b4) L K L2 (K2 ++ [t]) := by
  obtain ⟨hcg, P4⟩ := j4at j q1 hO hg4
  have hlen : (K2 ++ [t]).length = K2.length + 1 := by simp
  have hbz : w0.heap.size ≤ w4.heap.size := Nat.le_trans j.k.hb hcg.size
  have hs := rsp_store (g := some b4) P4 j.k.hp hbz ho4 rfl (by rw [hlen]; have := j.k.len; omega) (fun l hl => by
    rcases List.mem_append.1 hl with h | h
    · exact j.k.ok l h
    · rw [List.mem_singleton] at h; subst h; exact ht)
  rw [hlen] at hs
  refine j.k_ ?_ hs ?_
  · exact (hcg.mono (fun b hb => Or.inr (hgo.symm.trans hb)) : Chs (RM q2 h2) w w4).trans (Chs.set w4 ⟨q2, 0, none⟩ _) (fun b hb => .inl (.inl hb))
  · intro b hb
    injection hb with hb
    subst hb
    rcases hx4 with h | h
    · exact .inl (hgo.symm.trans h)
    · exact .inr (by simp at h; omega)
theorem rl_len {a : List Va} (h : finE a L = 0) : (rL a L).length + 1 = L.length := by
  obtain ⟨k, hk, _, _, h2⟩ := fin_at h
  rw [h2, List.length_eraseIdx, if_pos hk]; omega
theorem mv_got {a : List Va} {n : Nat} {M1 M2 : List (List Va)} (hm : Mv a L K n M1 M2) (h : finE a M1 = 0) (h2 : M2.length ≠ 20) : Mv a L K (n + 1) (rL a M1) (M2 ++ [rT a M1]) := by
  obtain ⟨k, hk, hp, e1, e2⟩ := fin_at h
  rw [e1, e2]
  obtain ⟨i, z1, z2, z3, z4⟩ := idx_at (show 0 ≤ plc a M1 by rw [hp]; omega)
  have hi : i = k := by have : plc a M1 = (i : Int) := z1; omega
  subst hi
  exact hm.step hk z3 z4 h2
theorem rt_ok {base : Nat} (j : RSp w base p g L) {a : List Va} (h : finE a L = 0) : (okL (rT a L) ∧ tuE (rT a L) = 0) ∧ 0 < (rT a L).length := by
  obtain ⟨k, hk, _, e1, _⟩ := fin_at h
  have hmem : gg L k ∈ L := by simp only [gg, List.getD_eq_getElem?_getD, List.getElem?_eq_getElem hk, Option.getD_some]; exact List.getElem_mem hk
  rw [e1]
  exact ⟨j.ok _ hmem, (tu_len (j.ok _ hmem).2).1⟩
end
end Go.Proofs.YthpemlhlgjdnkaaDoor
