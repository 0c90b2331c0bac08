/- Space.Put. -/
import Derived.Test.YtfelefkmbbfdjaaGreatDoorSpc
import Derived.Deep.RegionLaw
namespace Go.Proofs.YtfelefkmbbfdjaaGreatDoor
open Go.ChangeShapes Go.WideShapes Go.ChangeAt Go.RowKit
set_option linter.unusedVariables false

theorem step_append_many {α : Type} {Q' : World → Option Addr → List α → Prop} (hQ : QStay Q') {w : World} {ops : Array Oper} {o : Oper} {a : Act} {K : Act → World → Prop} {Q : Exit → Act → World → Prop} {E : Prop} (hgd : o.guard = none) (s x : Operand) (tt t e : TypeId)
    (ho : o.op = .call { callee := .builtin .append, args := #[s, x], argTypes := #[tt, tt] }) (ht : Tryz.prog.underlying tt = some (.slice t)) (hi : (Tryz.prog.info? t).map (fun i => (i.zero, i.size, i.bytes)) = some (some (.slice none 0 0), 1, 24)) (hte : t ≠ e)
    (base : Nat) (A : Option Addr) (c : Nat) (L : List (List α)) (hs : a.eval s = .slice A L.length c) (hown : OMany Q' t e w base A c L)
    (g : Nat) (B : Option Addr) (l : List α) (C : Nat) (hx : a.eval x = .slice (some ⟨g, 0, none⟩) 1 1) (h0 : w.cell? ⟨g, 0, none⟩ = some (.slice B l.length C)) (hq : Q' w B l) (hc1 : l.length ≤ C) (hc2 : C ≤ maxLen) (hI : Inn w base e B) (hn : L.length ≤ 1000000) (hbase : base ≤ w.heap.size)
    (h : ∀ b c' w', OMany Q' t e w' base (some ⟨b, 0, none⟩) c' (L ++ [l]) → w.grownBy w' (Value.slice A L.length c).ownBlock → ((Value.slice A L.length c).ownBlock = some b ∨ b = w.heap.size) → b < w'.heap.size → K (a.put o.dst (.slice (some ⟨b, 0, none⟩) (L.length + 1) c')) w') :
    if Region.wanted o (yielded ops a.tmps) = true then Oper.wp Tryz.prog o a w K Q else E := by
  obtain ⟨vs, h1, h2⟩ := hown
  obtain ⟨i0, hi0, hz0, hz1, hz2⟩ := info_parts hi
  have hb : (L.length + 1) * 24 ≤ 140737488355328 := by omega
  refine step_append_lies w hgd s x tt ho base t i0 (.slice none 0 0) 1 24 ht hi0 hz0 hz1 hz2 rfl (by decide) _ L.length vs hs h1 ⟨g, 0, none⟩ 1 1 [.slice B l.length C] hx rfl ?_ (by simp [Value.oneCell']) (by decide) (by unfold maxLen; omega) hb hbase w.heap.size rfl ?_
  · intro j u hj
    match j, hj with
    | 0, hj => simp at hj; subst hj; simpa [Addr.add] using h0
  · intro b c' w' h3 h4 h5 h6
    have hvl : vs.length = L.length := by have := h1.1; simpa using this
    refine h b c' w' ⟨_, by rw [List.length_append]; exact h3, fun i hi => ?_⟩ h4 h5 h6
    rw [List.length_append, List.length_singleton] at hi
    rcases Nat.lt_or_ge i L.length with hl | hl
    · obtain ⟨B', C', e1, q, k1, k2, k3⟩ := h2 i hl
      have hst := inn_grown hte hbase h1 h4 k3
      refine ⟨B', C', ?_, ?_, ?_, k2, k3.stay hst⟩
      · rw [gg_append_lt hl, List.getElem?_append_left (by omega)]; exact e1
      · rw [gg_append_lt hl]; exact hQ _ _ _ _ h4.size hst q
      · rw [gg_append_lt hl]; exact k1
    · obtain rfl : i = L.length := by omega
      have hst := inn_grown hte hbase h1 h4 hI
      rw [gg_append_eq]
      refine ⟨B, C, ?_, hQ _ _ _ _ h4.size hst hq, hc1, hc2, hI.stay hst⟩
      rw [List.getElem?_append_right (by omega), hvl, Nat.sub_self]; rfl
/-- behind a store to the space's own cell -/
theorem spc_store {w : World} {base p : Nat} {g : Option Nat} {L : List (List Va)} {A : Option Addr} {c : Nat} {v : Value} (hc : w.heap[p]? = some (.cells #[v] 113)) (hp : base ≤ p) (hb : base ≤ w.heap.size)
    (hO : OMany Vals 32 31 w base A c L) (hg : (Value.slice A L.length c).ownBlock = g) (hl : L.length ≤ 20) (hok : ∀ l ∈ L, okL l ∧ tuE l = 0) : Spc (w.setCell ⟨p, 0, none⟩ (.slice A L.length c)) base p g L := by
  have hk : kin w p 113 := ⟨_, hc⟩
  have hf : ∀ b, b ≠ p → (w.setCell ⟨p, 0, none⟩ (.slice A L.length c)).heap[b]? = w.heap[b]? := fun b h => Below.heap_setCell w ⟨p, 0, none⟩ _ b h
  have hs := ((Below.refl 0 w).setCell (p := ⟨p, 0, none⟩) (Nat.zero_le _) (.slice A L.length c)).size
  refine ⟨⟨A, c, ?_, hg, hO.stay vals_stay hb hs fun b hb' hw => hf b ?_⟩, hp, Nat.le_trans hb hs, hl, hok⟩
  · show (w.heap.modify p _)[p]? = _
    rw [Array.getElem?_modify, if_pos rfl, hc]; rfl
  · rintro rfl
    rcases hw with hw | hw | hw
    · omega
    · exact kin_ne hw hk (by decide) rfl
    · exact kin_ne (hO.gkin hw).2 hk (by decide) rfl
def putE (L : List (List Va)) (t : List Va) : Int := if tuE t ≠ 0 then tuE t else if L.length = 20 then 4 else 0
def putL (L : List (List Va)) (t : List Va) : List (List Va) := if putE L t = 0 then L ++ [t] else L
/-- what is said of the space's own cell in worlds that left it alone -/
def AtP (w : World) (p : Nat) (v : Value) : Prop := w.heap[p]? = some (.cells #[v] 113)
theorem AtP.cell {w : World} {p : Nat} {v : Value} (h : AtP w p v) : w.cell? ⟨p, 0, none⟩ = some v := (cell_of_one h).1
theorem AtP.frozen {w : World} {p : Nat} {v : Value} (h : AtP w p v) : w.frozen? ⟨p, 0, none⟩ = false := (cell_of_one h).2
theorem AtP.lt {w : World} {p : Nat} {v : Value} (h : AtP w p v) : p < w.heap.size := (Array.getElem?_eq_some_iff.1 h).1
theorem AtP.below {w w' : World} {p : Nat} {v : Value} (h : AtP w p v) (hb : Below w.heap.size w w') : AtP w' p v := (hb.block p h.lt).trans h
theorem AtP.alloc {w : World} {p : Nat} {v : Value} (h : AtP w p v) (o : Obj) : AtP (w.alloc o) p v := (Below.heap_alloc _ _ _ h.lt).trans h
theorem infoVals : (Tryz.prog.info? 32).map (fun i => (i.zero, i.size, i.bytes)) = some (some (.slice none 0 0), 1, 24) := by kernel_rfl
theorem Inn.alloc {w : World} {base : Nat} {e : TypeId} {B : Option Addr} (h : Inn w base e B) (hb : base ≤ w.heap.size) (o : Obj) : Inn (w.alloc o) base e B := h.stay fun a ha => Below.heap_alloc _ _ _ (h.lt hb ha)
theorem tu_len {t : List Va} (h : tuE t = 0) : 0 < t.length ∧ t.length ≤ 5 := by
  have := liE_zero (tuE_zero h).1; exact ⟨this.1, this.2.1⟩
set_option maxHeartbeats 800000 in
set_option maxRecDepth 100000 in
theorem spput_any (base p : Nat) (g : Option Nat) (L : List (List Va)) (A : Option Addr) (c : Nat) (t : List Va) (ht : t.length ≤ maxLen) (hok : okL t) (w : World) (hS : Spc w base p g L) (hA : Vals w A t) :
    Calls Tryz.prog 67 #[.pointer (some ⟨p, 0, none⟩), .slice A t.length c] w fun e w' => e = .returned (eV (putE L t)) ∧ ∃ g', Spc w' base p g' (putL L t) ∧ Chg p g w w' ∧ Nw g g' w.heap.size := by
  have c1 := tcheck_any A c t ht hok w hA
  by_cases h1 : tuE t = 0
  · rw [h1, eV_zero] at c1
    obtain ⟨E, n, q1, q2, q3⟩ := hS.there
    have q1 : AtP w p (.slice E L.length n) := q1
    have cf := fun (W : World) (hW : AtP W p (.slice E L.length n)) => spfull_any p L.length n E W hW.cell
    by_cases h2 : L.length = 20
    · have hv : putE L t = 4 := by rw [putE, if_neg (by simp [h1]), if_pos h2]
      have hf : (((L.length : Nat) : Int) == 20) = true := by simp; omega
      rw [hf] at cf
      rw [putL, hv, if_neg (by decide), show eV 4 = errV 4 from rfl]
      have C1 := Lib.hid c1; have CF := Lib.hid cf; clear c1 cf hv h2 hf h1
      go_enter Tryz.func67, Tryz.ntmps67
      go_wp2_with (first | (go_at_call 62; refine C1.out.mono ?_; rintro e w1 ⟨rfl, hb1⟩) | (go_at_call 66; refine (CF.out _ (q1.below hb1)).mono ?_; rintro e w2 ⟨rfl, rfl⟩))
      go_ret
      exact ⟨rfl, g, hS.keep hb1, Chg.of_below hb1, Nw.refl _ _⟩
    · have hv : putE L t = 0 := by rw [putE, if_neg (by simp [h1]), if_neg h2]
      have hf : (((L.length : Nat) : Int) == 20) = false := by simp; omega
      rw [hf] at cf
      rw [putL, hv, if_pos rfl, eV_zero]
      obtain ⟨t0, t5⟩ := tu_len h1
      have hl := hS.len
      have hl2 : L.length ≤ 1000000 := by omega
      have ct := fun (W : World) (hW : Vals W A t) => clone_any A c t t0 (by omega) W hW
      have HS := Lib.hid hS
      have HT := Lib.hid h1
      have H5 := Lib.hid t5
      have HO := Lib.hid hok
      have H2 := Lib.hid h2
      have C1 := Lib.hid c1; have CF := Lib.hid cf; have CT := Lib.hid ct; clear c1 cf hv h2 hf h1 ct t0 t5 hok hS hl ht
      go_enter Tryz.func67, Tryz.ntmps67
      go_wp2_with (first | (go_at_call 62; refine C1.out.mono ?_; rintro e w1 ⟨rfl, hb1⟩) | (go_at_call 66; refine (CF.out _ (q1.below hb1)).mono ?_; rintro e w2 ⟨rfl, rfl⟩))
      have hlt : p < w.heap.size := q1.lt
      have k1 := (q1.below hb1).cell
      have hp1 := (q1.below hb1).lt
      have hA1 := hA.below hb1 (Nat.le_refl _)
      have hgp : some p ≠ (Value.slice E L.length n).ownBlock := fun e => kin_ne (q3.gkin e.symm).2 HS.out.kin (by decide) rfl
      have HGP := Lib.hid hgp
      have HQ3 := Lib.hid q3
      have HQ1 := Lib.hid q1
      have HHB := Lib.hid HS.out.hb
      clear hA q3 q1 hgp
      go_region_law (first
        | (refine step_append_many vals_stay rfl _ _ 72 32 31 rfl Tryz.underlying72 infoVals (by decide) base E n L rfl (HQ3.out.keep vals_stay HHB.out (bal hb3 _)) w3.heap.size A2 t c2 rfl (cell_new1 _ _ _) (Sl.alloc HO2.out.vals _) HO2.out.cap.1 HO2.out.cap.2 ((Inn.own HO2.out).alloc (Nat.le_trans HHB.out hb3.size) _) hl2 (le_al (Nat.le_trans HHB.out hb3.size) _) ?_; intro b4 c4 w4 ho4 hg4 hx4 hl4; have q4 : AtP w4 p _ := (hg4.block p (by simp; omega) HGP.out).trans (HQ1.out.below (bal hb3 _)); have k4 := q4.cell; have f4 := q4.frozen; have hb5 := bal hb3 (.cells #[.slice A2 t.length c2] 32); have HO4 := Lib.hid ho4; have HG4 := Lib.hid hg4; have HX4 := Lib.hid hx4; have HQ4 := Lib.hid q4; clear ho4 hg4 hx4 q4)
        | (go_simp; go_at_call 40; refine (CT.out _ hA1.drew).mono ?_; rintro e w3 ⟨A2, c2, rfl, ho2, hb2⟩; have hb3 := bcl hb1 (bcl (bdr (Below.refl _ _)) hb2); have k3 := (HQ1.out.below hb3).cell; have hp3 := (HQ1.out.below hb3).lt; have HO2 := Lib.hid ho2; clear ho2; try dsimp only))
      all_goals
        go_wp2_with fail
        go_ret
        have hz := hb5.size
        have hbz : base ≤ w4.heap.size := Nat.le_trans HHB.out (Nat.le_trans hz HG4.out.size)
        have hlen : (L ++ [t]).length = L.length + 1 := by simp
        have hs := spc_store (g := some b4) HQ4.out HS.out.hp hbz HO4.out rfl (by rw [hlen]; have := HS.out.len; have := H2.out; omega) (fun l hl => by
          rcases List.mem_append.1 hl with h | h
          · exact HS.out.ok l h
          · rw [List.mem_singleton] at h; subst h; exact ⟨HO.out, HT.out⟩)
        rw [hlen] at hs
        refine ⟨rfl, some b4, hs, ?_, ?_⟩
        · subst q2
          refine (Chg.of_below hb5).trans (g' := (Value.slice E L.length n).ownBlock) ?_ (Nw.refl _ _)
          refine ⟨HG4.out.os, HG4.out.tape, HG4.out.output, ?_, fun b hb h1 h2 => ?_⟩
          · exact ((Below.refl 0 w4).setCell (p := ⟨p, 0, none⟩) (Nat.zero_le _) _).size |> Nat.le_trans HG4.out.size
          · exact (Below.heap_setCell w4 ⟨p, 0, none⟩ _ b h1).trans (HG4.out.block b hb h2)
        · subst q2
          rcases HX4.out with h | h
          · exact .inl h.symm
          · exact .inr ⟨b4, rfl, by omega⟩
  · have hv : putE L t = tuE t := by rw [putE, if_pos h1]
    rw [putL, hv, if_neg h1, eV_of h1]
    rw [eV_of h1] at c1
    generalize tuE t = E at *
    have C1 := Lib.hid c1; clear c1 hv h1
    go_enter Tryz.func67, Tryz.ntmps67
    go_wp2_with (first | (go_at_call 62; refine C1.out.mono ?_; rintro e w1 ⟨rfl, hb1⟩))
    go_ret
    exact ⟨rfl, g, hS.keep hb1, Chg.of_below hb1, Nw.refl _ _⟩
end Go.Proofs.YtfelefkmbbfdjaaGreatDoor
