/- Package run: do as a whole; line. Package run: line. errors.As at the target *bad: of that error it is true, of an Errno it is false. errors.As at the target *bad: of an Errno it is false. Package run: answer. Package run: Run: what a session is answered. What a session is answered: the laws, plain. The door of the sessions' laws: what their listed variables give a walk. -/
import Derived.Test.YtpgemofkolmabaaGreatDoorRnA
import Derived.Test.YtpgemofkolmabaaGreatDoorAs
import Derived.Stop.Asserts
import Derived.Shelf.Strings.BuilderK
import Derived.Stop.RegionWithIn
namespace Go.Proofs.YtpgemofkolmabaaGreatDoor
open Go.ChangeShapes Go.WideShapes Go.ChangeAt Go.RowKit Go.Joins Go.Deep Go.Maps Go.WideMaps
set_option linter.unusedVariables false

/-- a tuple that was read is right -/
theorem tpR_ok {s : ByteArray} (h : tpE s = 0) : liE (tpR s) = 0 ∧ okL (tpR s) := by
  have h1 := h
  unfold tpE at h1
  split at h1
  · cases h1
  · split at h1
    · rename_i h2; exact absurd h1 h2
    · rename_i h2
      split at h1
      · cases h1
      · rename_i h5
        have hf : tpF (pcsB 44 s) = 0 := Classical.not_not.1 h2
        have hr : tpR s = (pcsB 44 s).map rdR := by rw [tpR, if_pos h]
        have hz : ∀ x ∈ pcsB 44 s, rdE x = 0 := fun x hx => by
          obtain ⟨k, hk, e⟩ := List.mem_iff_getElem.1 hx
          by_cases h0 : rdE x = 0
          · exact h0
          · exfalso
            have key : ∀ (l : List ByteArray), tpF l = 0 → ∀ y ∈ l, rdE y = 0 := fun l => by
              induction l with
              | nil => intro _ y hy; simp at hy
              | cons z r ih =>
                intro h y hy
                have hh : (if rdE z ≠ 0 then rdE z else tpF r) = 0 := h
                by_cases hz : rdE z = 0
                · rw [if_neg (fun e => e hz)] at hh
                  rcases List.mem_cons.1 hy with rfl | hy
                  · exact hz
                  · exact ih hh y hy
                · rw [if_pos hz] at hh; exact absurd hh hz
            exact h0 (key _ hf x hx)
        have hv : ∀ i, i < (tpR s).length → vaE (va (tpR s) i) = 0 := fun i hi => by
          rw [hr] at hi ⊢
          rw [List.length_map] at hi
          have e : va ((pcsB 44 s).map rdR) i = rdR ((pcsB 44 s)[i]) := by simp [va, List.getD_eq_getElem?_getD, List.getElem?_eq_getElem hi]
          rw [e]
          exact (rd_back (hz _ (List.getElem_mem hi))).1
        have hl : 0 < (tpR s).length ∧ (tpR s).length ≤ 5 := by
          rw [hr, List.length_map]
          have := pcsB_ne 44 s
          exact ⟨List.length_pos_iff.2 this, by omega⟩
        exact ⟨liE_iff.2 ⟨hl.1, hl.2, hv⟩, fun i hi => Nat.le_trans (vaE_kind (hv i hi)).2.2.2 (by decide)⟩
theorem WMap.look {w : World} {B : Nat} (h : WMap w B) (x : ByteArray) (hx : x.size ≤ maxLen) :
    (Instr.lookup 171 (.map (some B)) (.string x) true).run Tryz.prog w = .ok (.tuple #[.int .i64 (((wantN x).getD 0 : Nat) : Int), .bool (wantN x).isSome]) w := by
  obtain ⟨n, m, hs, f, ⟨D, hown, hD, _, hat, hh⟩, h2⟩ := h
  obtain ⟨v, ps, hrun, hv⟩ := hown.look_ok (R := heldR) lawS Tryz.underlying171 (z := .int .i64 0) (by kernel_rfl) (zd := .held (.int .i64 0)) (zp := []) rfl (keyS_of hx)
  have : v = f (keyS x) := by
    simp only [heldR, Option.some.injEq, Prod.mk.injEq] at hv
    rw [hat] at hv
    injection hv.1
  rw [hrun, this, hh, (h2 x).1, (h2 x).2]
section
variable {base p : Nat} {g : Option Nat} {L : List (List Va)}
set_option maxHeartbeats 800000 in
set_option maxRecDepth 100000 in
theorem rdo_once (T : Option Addr) (c : Nat) (t u : List Va) (h5 : t.length ≤ 5 ∧ u.length ≤ 5) (ho : okL t ∧ okL u) (w : World) (hS : Spc w base p g L) (hT : Many Vals w T [t, u]) (hTn : ∀ a, T = some a → a.block ≠ p ∧ some a.block ≠ g) :
    Calls Tryz.prog 122 #[.agg #[.pointer (some ⟨p, 0, none⟩)], .string cOnce, .slice T 2 c] w fun e w' => e = .returned (.tuple #[.string (if poB t u L = true then cYes else cNo), eV (poE t u L)]) ∧ ∃ g', Spc w' base p g' (poL t u L) ∧ Chg p g w w' ∧ Nw g g' w.heap.size := by
  obtain ⟨W1, hW1⟩ : ∃ W1, W1 = w.alloc (.cells #[.pointer (some ⟨p, 0, none⟩)] 95) := ⟨_, rfl⟩
  have hb : Below w.heap.size w W1 := by rw [hW1]; exact bal1 _ _
  have b0 : W1.cell? ⟨w.heap.size, 0, none⟩ = some (.pointer (some ⟨p, 0, none⟩)) := by rw [hW1]; exact cell_new1 _ _ _
  have cp := ronce_any T c t u h5 ho W1 (hS.keep hb) (many_below hT hb) hTn
  have HW := Lib.hid hW1; have HB := Lib.hid hb; have CP := Lib.hid cp
  clear hW1 hb hT hS hTn ho h5 cp
  generalize poE t u L = E at *
  generalize poL t u L = L' at *
  generalize (if poB t u L = true then cYes else cNo) = tx at *
  simp only [cOnce]
  go_enter Tryz.func122, Tryz.ntmps122
  go_upto_region 1 with fail
  rw [← HW.out]
  go_wp2_with (go_at_call 146; refine CP.out.mono ?_; rintro e w2 ⟨rfl, g', hs, hx, hn⟩; have HS := Lib.hid hs; have HX := Lib.hid hx; have HN := Lib.hid hn; clear hs hx hn)
  go_ret2
  exact ⟨rfl, g', HS.out, chg_after HB.out HX.out, nw_after HB.out HN.out⟩
theorem wantN_cases {x : ByteArray} {n : Nat} (h : wantN x = some n) (hd : x ≠ cDeal) : (n = 1 ∧ (x = cPut ∨ x = cRead ∨ x = cTake ∨ x = cCount ∨ x = cPrint)) ∨ (n = 2 ∧ x = cOnce) := by
  unfold wantN at h
  split at h
  · rename_i h1; injection h with h; exact .inl ⟨h.symm, h1⟩
  · split at h
    · rename_i h2; injection h with h; exact .inr ⟨h.symm, h2⟩
    · cases h
theorem rdo_any (x : ByteArray) (n : Nat) (hw : wantN x = some n) (hd : x ≠ cDeal) (T : Option Addr) (c : Nat) (ts : List (List Va)) (hl : ts.length = n) (hok : ∀ t ∈ ts, liE t = 0 ∧ okL t) (w : World) (ht : ∀ W, Below base w W → TT W) (hS : Spc w base p g L) (hT : Many Vals w T ts) (hTn : ∀ a, T = some a → a.block ≠ p ∧ some a.block ≠ g) :
    Calls Tryz.prog 122 #[.agg #[.pointer (some ⟨p, 0, none⟩)], .string x, .slice T n c] w fun e w' => e = .returned (.tuple #[.string (dT L x (gg ts 0) (gg ts 1)), eV (dE L x (gg ts 0) (gg ts 1))]) ∧ ∃ g', Spc w' base p g' (dL L x (gg ts 0) (gg ts 1)) ∧ Chg p g w w' ∧ Nw g g' w.heap.size := by
  rcases wantN_cases hw hd with ⟨rfl, hx⟩ | ⟨rfl, rfl⟩
  · obtain ⟨t, rfl⟩ := len1 hl
    obtain ⟨h1, h2⟩ := hok t (by simp)
    have h5 := (liE_iff.1 h1).2.1
    have g0 : gg [t] 0 = t := rfl
    rw [g0]
    rcases hx with rfl | rfl | rfl | rfl | rfl
    · exact rdo_put T c t h5 h2 h1 w ht hS hT hTn
    · exact rdo_read T c t h5 h2 h1 w ht hS hT hTn
    · exact rdo_take T c t h5 h2 h1 w ht hS hT hTn
    · exact rdo_count T c t h5 h2 h1 w ht hS hT hTn
    · exact rdo_print T c t h5 h2 h1 w ht hS hT hTn
  · obtain ⟨t, u, rfl⟩ := len2 hl
    obtain ⟨h1, h2⟩ := hok t (by simp)
    obtain ⟨h3, h4⟩ := hok u (by simp)
    exact rdo_once T c t u ⟨(liE_iff.1 h1).2.1, (liE_iff.1 h3).2.1⟩ ⟨h2, h4⟩ w hS hT hTn
end
end Go.Proofs.YtpgemofkolmabaaGreatDoor
namespace Go.Proofs.YtpgemofkolmabaaGreatDoor
open Go.ChangeShapes Go.WideShapes Go.ChangeAt Go.RowKit Go.Joins Go.Deep Go.Maps Go.WideMaps
set_option linter.unusedVariables false

theorem str0 {w : World} {b : Nat} {x : ByteArray} {r : List ByteArray} (h : Strs w (some ⟨b, 0, none⟩) (x :: r)) : w.cell? ⟨b, 0, none⟩ = some (.string x) := by
  obtain ⟨b', o', e, _, hc⟩ := h.at_ (show 0 < (x :: r).length by simp)
  cases e
  exact hc
theorem strs_tail {w : World} {b o : Nat} {x : ByteArray} {r : List ByteArray} (h : Strs w (some ⟨b, o, none⟩) (x :: r)) : Strs w (some ⟨b, o + 1, none⟩) r := fun hn => by
  obtain ⟨b', o', e, hb, hc⟩ := h (by simp)
  cases e
  refine ⟨b, o + 1, rfl, hb, fun i hi j hj => ?_⟩
  have := hc (i + 1) (by simp; omega) j hj
  rw [show o + 1 + i * 1 + j = o + (i + 1) * 1 + j by omega, this]
  simp [gs]
theorem deal_other {x : ByteArray} (h : x ≠ cDeal) : (x.toList == [100, 101, 97, 108]) = false := by
  rw [beq_eq_false_iff_ne, ByteArray.toList_eq]
  exact fun e => h (bytes_eq e)
theorem gg_tpR (r : List ByteArray) (i : Nat) : gg (r.map tpR) i = tpR (gs r i) := by
  simp only [gg, gs, List.getD_eq_getElem?_getD, List.getElem?_map]
  cases r[i]? with
  | none => exact (tp_empty (s := ByteArray.empty) rfl).2.symm
  | some x => rfl
section
variable {base p : Nat} {g : Option Nat} {L : List (List Va)}
set_option maxHeartbeats 3200000 in
set_option maxRecDepth 100000 in
theorem ln_any (s : ByteArray) (hs : s.size ≤ 100000) (w : World) (hS : Spc w base p g L) (hr : ∀ W, Below base w W → RT W) :
    Calls Tryz.prog 87 #[.agg #[.pointer (some ⟨p, 0, none⟩)], .string s] w fun e w' => e = .returned (.tuple #[.string (lnT L (wd s) (wr s)), kV (lnK L (wd s) (wr s))]) ∧ ∃ g', Spc w' base p g' (lnL L (wd s) (wr s)) ∧ Chg p g w w' ∧ Nw g g' w.heap.size := by
  obtain ⟨x, r, hxr⟩ : ∃ x r, pcsB 32 s = x :: r := by
    cases h : pcsB 32 s with
    | nil => exact absurd h (pcsB_ne _ _)
    | cons x r => exact ⟨x, r, rfl⟩
  have e1 : wd s = x := by unfold wd; rw [hxr]; rfl
  have e2 : wr s = r := by unfold wr; rw [hxr]; rfl
  rw [e1, e2]
  have hsz : ∀ u ∈ x :: r, u.size ≤ 100000 := fun u hu => by
    rw [← hxr] at hu
    obtain ⟨k, hk, e⟩ := List.mem_iff_getElem.1 hu
    have := pcsB_size (c := 32) (k := k) (s := s) (x := u) (by rw [← e]; exact List.getElem?_eq_getElem hk)
    omega
  have hrl : r.length ≤ 100000 := by
    have := pcsB_ln s 32
    rw [hxr, List.length_cons] at this; omega
  have cs := fun (W : World) => splitc_any 32 s (by omega) W
  rw [hxr, List.length_cons] at cs
  obtain ⟨W1, hW1⟩ : ∃ W1, W1 = w.alloc (.cells #[.pointer (some ⟨p, 0, none⟩)] 95) := ⟨_, rfl⟩
  have hb : Below w.heap.size w W1 := by rw [hW1]; exact bal1 _ _
  have b0 : W1.cell? ⟨w.heap.size, 0, none⟩ = some (.pointer (some ⟨p, 0, none⟩)) := by rw [hW1]; exact cell_new1 _ _ _
  have hb0l : w.heap.size < W1.heap.size := by rw [hW1]; simp
  have HW := Lib.hid hW1; have HB := Lib.hid hb; have CS := Lib.hid cs; have HSZ := Lib.hid hsz; have HS0 := Lib.hid hS; have HR := Lib.hid hr; have HXS := Lib.hid (show x.size ≤ maxLen from Nat.le_trans (hsz x (by simp)) (by decide)); have HBS := Lib.hid hS.hb
  clear hW1 hb cs hsz hS hr hxr e1 e2 hs
  by_cases hw : wantN x = some r.length
  · have hne1 : (((r.length : Int) + 1) - 1 != (r.length : Int)) = false := by rw [bne_eq_false_iff_eq]; omega
    have hne2 : ((r.length : Int) != (r.length : Int)) = false := by rw [bne_eq_false_iff_eq]
    have hT : lnT L x r = (if x = cDeal then dlT (gs r 0) (gs r 1) (gs r 2) else if allB r = false then ⟨#[]⟩ else dT L x (tpR (gs r 0)) (tpR (gs r 1))) := if_neg (fun e => e hw)
    have hK : lnK L x r = (if x = cDeal then dlK (gs r 0) (gs r 1) (gs r 2) else if allB r = false then none else some (dE L x (tpR (gs r 0)) (tpR (gs r 1)))) := if_neg (fun e => e hw)
    have hLL : lnL L x r = (if x = cDeal then L else if allB r = false then L else dL L x (tpR (gs r 0)) (tpR (gs r 1))) := if_neg (fun e => e hw)
    by_cases hd : x = cDeal
    · rw [if_pos hd] at hT hK hLL
      have hr3 : r.length = 3 := by rw [hd] at hw; have : wantN cDeal = some 3 := by decide
                                    rw [this] at hw; injection hw with h; exact h.symm
      obtain ⟨a, b, c, rfl⟩ : ∃ a b c, r = [a, b, c] := by
        match r, hr3 with
        | [a, b, c], _ => exact ⟨a, b, c, rfl⟩
      have hv : Value.tuple #[.string (lnT L x [a, b, c]), kV (lnK L x [a, b, c])] = dlV a b c := by rw [hT, hK]; rfl
      have HV := Lib.hid hv; have HVL := Lib.hid hLL; have HWN := Lib.hid hw
      have t1 : (x.toList == [100, 101, 97, 108]) = true := by rw [hd, beq_iff_eq, ByteArray.toList_eq]; rfl
      clear hv hT hK hLL hw hd hr3 hne1 hne2
      go_enter Tryz.func87, Tryz.ntmps87
      go_upto_region 1 with fail
      rw [← HW.out]
      go_wp2_with (go_at_call 118; refine (CS.out _).mono ?_; rintro e w2 ⟨rfl, hst, hb2⟩; have HST := Lib.hid hst; have HB2 := Lib.hid hb2; have q0 := str0 hst; have hbk := fun (W : World) (h : Below w2.drew.heap.size w2.drew W) => str0 (hst.below (show Below w2.heap.size w2 W from (bdr (Below.refl w2.heap.size w2)).trans h) (Nat.le_refl _)); have HBK := Lib.hid hbk; clear hst hb2 hbk)
      go_region_held3 (fun w' => w'.cell? ⟨W1.heap.size, 0, none⟩ = some (.string x)) (first | exact q0 | exact HBK.out _ HB3.out | go_keep) ((go_at_call 119; refine (wants_any _).mono ?_; rintro e w3 ⟨rfl, hm, hb3⟩; have hlk := (show WMap w3 w2.heap.size from hm).look x HXS.out; rw [HWN.out] at hlk; simp only [Option.getD_some, Option.isSome_some] at hlk; have HB3 := Lib.hid hb3; have HB4 := Lib.hid (bcl HB.out (bcl HB2.out ((bdr (Below.refl w2.heap.size w2)).trans hb3))); have hur : w3.cell? ⟨0, 0, none⟩ = some (errV 2) := (HR.out _ (HB4.out.mono HBS.out)).2.2; clear hm hb3))
      go_wp2_with fail
      refine (rundeal_any (some ⟨W1.heap.size, 1, none⟩) 3 a b c ⟨HSZ.out a (by simp), HSZ.out b (by simp), HSZ.out c (by simp)⟩ w3 (strs_tail (HST.out.below (show Below w2.heap.size w2 w3 from (bdr (Below.refl w2.heap.size w2)).trans HB3.out) (Nat.le_refl _))) (HR.out _ (HB4.out.mono HBS.out))).mono ?_
      rintro e w4 ⟨rfl, hb5⟩
      have HB5 := Lib.hid (bcl HB4.out hb5)
      clear hb5
      unfold dlV
      go_wp2_with fail
      go_ret2
      exact ⟨by rw [HV.out]; rfl, g, by rw [HVL.out]; exact HS0.out.keep HB5.out, Chg.of_below HB5.out, Nw.refl _ _⟩
    · rw [if_neg hd] at hT hK hLL
      have t1 := deal_other hd
      have hr0 : ¬ r.length = 0 := by rcases wantN_cases hw hd with ⟨h, _⟩ | ⟨h, _⟩ <;> omega
      have hr1 : ¬ r.length + 1 = 1 := by omega
      have hr2 : (1 : Int) ≤ (r.length : Int) + 1 := by omega
      have HWN := Lib.hid hw; have HD := Lib.hid hd
      have HGG := Lib.hid (show ∀ i, gg (r.map tpR) i = tpR (gs r i) from gg_tpR r)
      by_cases hall : allB r = true
      · have hv : Value.tuple #[.string (lnT L x r), kV (lnK L x r)] = .tuple #[.string (dT L x (gg (r.map tpR) 0) (gg (r.map tpR) 1)), eV (dE L x (gg (r.map tpR) 0) (gg (r.map tpR) 1))] ∧ lnL L x r = dL L x (gg (r.map tpR) 0) (gg (r.map tpR) 1) := by
          rw [hT, hK, hLL, hall, HGG.out, HGG.out]
          exact ⟨rfl, rfl⟩
        have HV := Lib.hid hv.1; have HVL := Lib.hid hv.2
        have ct := fun (A : Option Addr) (c : Nat) (W : World) (hA : Strs W A r) (h : RT W) => (rtuples_any A c r hrl (fun x hx => HSZ.out x (List.mem_cons_of_mem _ hx)) W hA h).mono (R' := fun e w' => (∃ B C, e = .returned (.tuple #[.slice B r.length C, .nilIface]) ∧ Many Vals w' B (r.map tpR) ∧ ∀ a, B = some a → W.heap.size ≤ a.block) ∧ Below W.heap.size W w') fun e w' ⟨⟨B, C, h1⟩, h2⟩ => ⟨(by
          rcases h1 with ⟨_, h3, h4, h5⟩ | ⟨h3, _⟩
          · exact ⟨B, C, h3, h4, h5⟩
          · rw [hall] at h3; cases h3), h2⟩
        have hok : ∀ t ∈ r.map tpR, liE t = 0 ∧ okL t := fun t ht => by
          obtain ⟨u, hu, rfl⟩ := List.mem_map.1 ht
          exact tpR_ok (of_decide_eq_true (List.all_eq_true.1 hall u hu))
        have cd := fun (T : Option Addr) (c : Nat) (W : World) (hb : Below w.heap.size w W) (hT : Many Vals W T (r.map tpR)) (hTn : ∀ a, T = some a → a.block ≠ p ∧ some a.block ≠ g) => rdo_any x r.length hw hd T c (r.map tpR) (by simp) hok W (fun W' h' => (HR.out W' ((hb.mono HBS.out).trans h')).1) (HS0.out.keep hb) hT hTn
        have CT := Lib.hid ct; have CD := Lib.hid cd
        have hgl := fun (y : Nat) (hy : w.heap.size ≤ y) => HS0.out.glt hy
        have HGL := Lib.hid hgl
        clear hv ct cd hok hT hK hLL hw hd hall hgl
        generalize dT L x (gg (r.map tpR) 0) (gg (r.map tpR) 1) = tx at *
        generalize dE L x (gg (r.map tpR) 0) (gg (r.map tpR) 1) = E at *
        generalize dL L x (gg (r.map tpR) 0) (gg (r.map tpR) 1) = L' at *
        go_enter Tryz.func87, Tryz.ntmps87
        go_upto_region 1 with fail
        rw [← HW.out]
        go_wp2_with (go_at_call 118; refine (CS.out _).mono ?_; rintro e w2 ⟨rfl, hst, hb2⟩; have HST := Lib.hid hst; have HB2 := Lib.hid hb2; have q0 := str0 hst; have hbk := fun (W : World) (h : Below w2.drew.heap.size w2.drew W) => str0 (hst.below (show Below w2.heap.size w2 W from (bdr (Below.refl w2.heap.size w2)).trans h) (Nat.le_refl _)); have HBK := Lib.hid hbk; clear hst hb2 hbk)
        go_region_held3 (fun w' => w'.cell? ⟨W1.heap.size, 0, none⟩ = some (.string x)) (first | exact q0 | exact HBK.out _ HB3.out | go_keep) ((go_at_call 119; refine (wants_any _).mono ?_; rintro e w3 ⟨rfl, hm, hb3⟩; have hlk := (show WMap w3 w2.heap.size from hm).look x HXS.out; rw [HWN.out] at hlk; simp only [Option.getD_some, Option.isSome_some] at hlk; have HB3 := Lib.hid hb3; have HB4 := Lib.hid (bcl HB.out (bcl HB2.out ((bdr (Below.refl w2.heap.size w2)).trans hb3))); have hur : w3.cell? ⟨0, 0, none⟩ = some (errV 2) := (HR.out _ (HB4.out.mono HBS.out)).2.2; clear hm hb3))
        go_wp2_with fail
        refine (CT.out (some ⟨W1.heap.size, 1, none⟩) _ w3 (strs_tail (HST.out.below (show Below w2.heap.size w2 w3 from (bdr (Below.refl w2.heap.size w2)).trans HB3.out) (Nat.le_refl _))) (HR.out _ (HB4.out.mono HBS.out))).mono ?_
        rintro e w4 ⟨⟨B, C, rfl, hM, hB⟩, hb5⟩
        have HB5 := Lib.hid (bcl HB4.out hb5)
        have c0 : w4.drew.cell? ⟨w.heap.size, 0, none⟩ = some (.pointer (some ⟨p, 0, none⟩)) := by
          have h1 : Below W1.heap.size W1 w4 := bcl (bcl HB2.out ((bdr (Below.refl w2.heap.size w2)).trans HB3.out)) hb5
          exact (h1.cell (p := ⟨w.heap.size, 0, none⟩) hb0l).trans b0
        have c1 : w4.drew.cell? ⟨W1.heap.size, 0, none⟩ = some (.string x) := (hb5.cell (p := ⟨W1.heap.size, 0, none⟩) (lt_of_cell (HBK.out _ HB3.out))).trans (HBK.out _ HB3.out)
        have hTn : ∀ a, B = some a → a.block ≠ p ∧ some a.block ≠ g := fun a ha => HGL.out _ (Nat.le_trans HB4.out.size (hB a ha))
        have cd := CD.out B C w4.drew (bdr HB5.out) (show Many Vals w4.drew B (r.map tpR) from hM) hTn
        have back := fun (W : World) (k : Chg p g w4.drew W) => And.intro (k.cell_ c0 (HGL.out _ (Nat.le_refl _)).1 (HGL.out _ (Nat.le_refl _)).2) (k.cell_ c1 (HGL.out _ HB.out.size).1 (HGL.out _ HB.out.size).2)
        have CD2 := Lib.hid cd; have BK2 := Lib.hid back
        have c0' : w4.cell? ⟨w.heap.size, 0, none⟩ = some (.pointer (some ⟨p, 0, none⟩)) := c0
        have c1' : w4.cell? ⟨W1.heap.size, 0, none⟩ = some (.string x) := c1
        clear cd back hTn hM hB hb5 c0 c1
        go_wp2_with fail
        go_region_held3 (fun w' => w'.cell? ⟨w.heap.size, 0, none⟩ = some (.pointer (some ⟨p, 0, none⟩)) ∧ w'.cell? ⟨W1.heap.size, 0, none⟩ = some (.string x)) (first | exact ⟨c0', c1'⟩ | exact BK2.out _ HX.out | go_keep) ((go_at_call 122; refine CD2.out.mono ?_; rintro e w5 ⟨rfl, g', hs, hx, hn⟩; have HS := Lib.hid hs; have HX := Lib.hid hx; have HN := Lib.hid hn; clear hs hx hn))
        go_wp2_with fail
        go_ret2
        exact ⟨by rw [HV.out]; rfl, g', by rw [HVL.out]; exact HS.out, chg_after (bdr HB5.out) HX.out, nw_after (bdr HB5.out) HN.out⟩
      · have hall : allB r = false := by rwa [Bool.not_eq_true] at hall
        have hv : Value.tuple #[.string (lnT L x r), kV (lnK L x r)] = .tuple #[.string ⟨#[]⟩, badV] ∧ lnL L x r = L := by
          rw [hT, hK, hLL, hall]
          exact ⟨rfl, rfl⟩
        have HV := Lib.hid hv.1; have HVL := Lib.hid hv.2
        have ct := fun (A : Option Addr) (c : Nat) (W : World) (hA : Strs W A r) (h : RT W) => (rtuples_any A c r hrl (fun x hx => HSZ.out x (List.mem_cons_of_mem _ hx)) W hA h).mono (R' := fun e w' => e = .returned (.tuple #[.slice none 0 0, badV]) ∧ Below W.heap.size W w') fun e w' ⟨⟨B, C, h1⟩, h2⟩ => ⟨(by
          rcases h1 with ⟨h3, _⟩ | ⟨_, h4⟩
          · rw [hall] at h3; cases h3
          · exact h4), h2⟩
        have CT := Lib.hid ct
        clear hv ct hT hK hLL hw hd hall
        go_enter Tryz.func87, Tryz.ntmps87
        go_upto_region 1 with fail
        rw [← HW.out]
        go_wp2_with (go_at_call 118; refine (CS.out _).mono ?_; rintro e w2 ⟨rfl, hst, hb2⟩; have HST := Lib.hid hst; have HB2 := Lib.hid hb2; have q0 := str0 hst; have hbk := fun (W : World) (h : Below w2.drew.heap.size w2.drew W) => str0 (hst.below (show Below w2.heap.size w2 W from (bdr (Below.refl w2.heap.size w2)).trans h) (Nat.le_refl _)); have HBK := Lib.hid hbk; clear hst hb2 hbk)
        go_region_held3 (fun w' => w'.cell? ⟨W1.heap.size, 0, none⟩ = some (.string x)) (first | exact q0 | exact HBK.out _ HB3.out | go_keep) ((go_at_call 119; refine (wants_any _).mono ?_; rintro e w3 ⟨rfl, hm, hb3⟩; have hlk := (show WMap w3 w2.heap.size from hm).look x HXS.out; rw [HWN.out] at hlk; simp only [Option.getD_some, Option.isSome_some] at hlk; have HB3 := Lib.hid hb3; have HB4 := Lib.hid (bcl HB.out (bcl HB2.out ((bdr (Below.refl w2.heap.size w2)).trans hb3))); have hur : w3.cell? ⟨0, 0, none⟩ = some (errV 2) := (HR.out _ (HB4.out.mono HBS.out)).2.2; clear hm hb3))
        go_wp2_with fail
        refine (CT.out (some ⟨W1.heap.size, 1, none⟩) _ w3 (strs_tail (HST.out.below (show Below w2.heap.size w2 w3 from (bdr (Below.refl w2.heap.size w2)).trans HB3.out) (Nat.le_refl _))) (HR.out _ (HB4.out.mono HBS.out))).mono ?_
        rintro e w4 ⟨rfl, hb5⟩
        have HB5 := Lib.hid (bcl HB4.out hb5)
        clear hb5
        unfold badV
        go_wp2_with fail
        go_ret2
        exact ⟨by rw [HV.out]; rfl, g, by rw [HVL.out]; exact HS0.out.keep HB5.out, Chg.of_below HB5.out, Nw.refl _ _⟩
  · have hv : lnT L x r = ⟨#[]⟩ ∧ lnK L x r = none ∧ lnL L x r = L := ⟨if_pos hw, if_pos hw, if_pos hw⟩
    have HV := Lib.hid (show Value.tuple #[.string (lnT L x r), kV (lnK L x r)] = .tuple #[.string ⟨#[]⟩, badV] by rw [hv.1, hv.2.1]; rfl)
    have HVL := Lib.hid hv.2.2
    clear hv
    cases hn : wantN x with
    | none =>
      have HWN := Lib.hid hn
      clear hn hw
      go_enter Tryz.func87, Tryz.ntmps87
      go_upto_region 1 with fail
      rw [← HW.out]
      go_wp2_with (go_at_call 118; refine (CS.out _).mono ?_; rintro e w2 ⟨rfl, hst, hb2⟩; have HST := Lib.hid hst; have HB2 := Lib.hid hb2; have q0 := str0 hst; have hbk := fun (W : World) (h : Below w2.drew.heap.size w2.drew W) => str0 (hst.below (show Below w2.heap.size w2 W from (bdr (Below.refl w2.heap.size w2)).trans h) (Nat.le_refl _)); have HBK := Lib.hid hbk; clear hst hb2 hbk)
      go_region_held3 (fun w' => w'.cell? ⟨W1.heap.size, 0, none⟩ = some (.string x)) (first | exact q0 | exact HBK.out _ HB3.out | go_keep) ((go_at_call 119; refine (wants_any _).mono ?_; rintro e w3 ⟨rfl, hm, hb3⟩; have hlk := (show WMap w3 w2.heap.size from hm).look x HXS.out; rw [HWN.out] at hlk; simp only [Option.getD_none, Option.isSome_none] at hlk; have HB3 := Lib.hid hb3; have HB4 := Lib.hid (bcl HB.out (bcl HB2.out ((bdr (Below.refl w2.heap.size w2)).trans hb3))); have hur : w3.cell? ⟨0, 0, none⟩ = some (errV 2) := (HR.out _ (HB4.out.mono HBS.out)).2.2; clear hm hb3))
      go_wp2_with fail
      go_region
      go_wp2_with fail
      go_ret2
      exact ⟨by rw [HV.out]; rfl, g, by rw [HVL.out]; exact HS0.out.keep (by first | exact bdr HB4.out | exact HB4.out), Chg.of_below (by first | exact bdr HB4.out | exact HB4.out), Nw.refl _ _⟩
    | some n =>
      have d1 : (((r.length : Int) + 1) - 1 != (n : Int)) = true := by rw [bne_iff_ne]; intro e; exact hw (by rw [hn]; congr 1; omega)
      have d2 : ((r.length : Int) != (n : Int)) = true := by rw [bne_iff_ne]; intro e; exact hw (by rw [hn]; congr 1; omega)
      have HWN := Lib.hid hn
      clear hn hw
      go_enter Tryz.func87, Tryz.ntmps87
      go_upto_region 1 with fail
      rw [← HW.out]
      go_wp2_with (go_at_call 118; refine (CS.out _).mono ?_; rintro e w2 ⟨rfl, hst, hb2⟩; have HST := Lib.hid hst; have HB2 := Lib.hid hb2; have q0 := str0 hst; have hbk := fun (W : World) (h : Below w2.drew.heap.size w2.drew W) => str0 (hst.below (show Below w2.heap.size w2 W from (bdr (Below.refl w2.heap.size w2)).trans h) (Nat.le_refl _)); have HBK := Lib.hid hbk; clear hst hb2 hbk)
      go_region_held3 (fun w' => w'.cell? ⟨W1.heap.size, 0, none⟩ = some (.string x)) (first | exact q0 | exact HBK.out _ HB3.out | go_keep) ((go_at_call 119; refine (wants_any _).mono ?_; rintro e w3 ⟨rfl, hm, hb3⟩; have hlk := (show WMap w3 w2.heap.size from hm).look x HXS.out; rw [HWN.out] at hlk; simp only [Option.getD_some, Option.isSome_some] at hlk; have HB3 := Lib.hid hb3; have HB4 := Lib.hid (bcl HB.out (bcl HB2.out ((bdr (Below.refl w2.heap.size w2)).trans hb3))); have hur : w3.cell? ⟨0, 0, none⟩ = some (errV 2) := (HR.out _ (HB4.out.mono HBS.out)).2.2; clear hm hb3))
      go_wp2_with fail
      go_region
      go_wp2_with fail
      go_ret2
      exact ⟨by rw [HV.out]; rfl, g, by rw [HVL.out]; exact HS0.out.keep (by first | exact bdr HB4.out | exact HB4.out), Chg.of_below (by first | exact bdr HB4.out | exact HB4.out), Nw.refl _ _⟩
end
end Go.Proofs.YtpgemofkolmabaaGreatDoor
namespace Go.Proofs.YtpgemofkolmabaaGreatDoor
open Go.RowKit Go.Extern.Stop Go.Stop Go.Extern
set_option linter.unusedVariables false

theorem asb.valueOf27 (t : Addr) (w : World) : (ReflectliteValue.unpack (.iface 157 (.pointer (some t)))).run Tryz.prog w
    = .ok (.agg #[.pointer (some ⟨13, 157, none⟩), .pointer (some ⟨w.heap.size, 0, none⟩), .int .u64 150]) (w.alloc (.cells #[.pointer (some t)] 157)) := by kernel_rfl
theorem asb.type27 (a : Addr) (w : World) : (ReflectliteValue.methodAny (ReflectliteValue.valueError "reflectlite.Value.Type" 0) (fun t _ _ _ => ReflectliteType.toType t) #[.agg #[.pointer (some ⟨13, 157, none⟩), .pointer (some a), .int .u64 150]]).run Tryz.prog w
    = .ok (.iface 210 (.agg #[.pointer (some ⟨13, 157, none⟩)])) w := by kernel_rfl
theorem asb.kind27 (w : World) : ((ReflectliteType.abiMethod fun t => (fun a : Nat => Value.int IntKind.u8 (a : Int)) <$> Rtype.kind t) #[.pointer (some ⟨13, 157, none⟩)]).run Tryz.prog w = .ok (.int .u8 22) w := by kernel_rfl
theorem asb.kind25 (w : World) : ((ReflectliteType.abiMethod fun t => (fun a : Nat => Value.int IntKind.u8 (a : Int)) <$> Rtype.kind t) #[.pointer (some ⟨13, 155, none⟩)]).run Tryz.prog w = .ok (.int .u8 25) w := by kernel_rfl
theorem asb.parts27 (a : Addr) (w : World) : (ReflectliteValue.parts (.agg #[.pointer (some ⟨13, 157, none⟩), .pointer (some a), .int .u64 150])).run Tryz.prog w = .ok (some (157, a, 150)) w := by kernel_rfl
theorem asb.isNil27 (a p : Addr) (W : World) (ha : W.cell? a = some (.pointer (some p))) :
    (ReflectliteValue.method (ReflectliteValue.valueError "reflectlite.Value.IsNil" 0) ReflectliteValue.isNil #[.agg #[.pointer (some ⟨13, 157, none⟩), .pointer (some a), .int .u64 150]]).run Tryz.prog W = .ok (.bool false) W := by
  rw [rlm]
  simp only [Sem.run_bind, asb.parts27, Result.andThen]
  simp [ReflectliteValue.isNil, loadVar, isAgg, underlying, Tryz.underlying157, ha, Result.andThen]
theorem asb.elem27 (w : World) : (ReflectliteType.method ReflectliteType.elem #[.agg #[.pointer (some ⟨13, 157, none⟩)]]).run Tryz.prog w = .ok (.iface 210 (.agg #[.pointer (some ⟨13, 155, none⟩)])) w := by kernel_rfl
theorem asb.implements25 (w : World) : (ReflectliteType.relation "Implements" ReflectliteType.implements_ #[.agg #[.pointer (some ⟨13, 155, none⟩)], .iface 210 (.agg #[.pointer (some ⟨13, 24, none⟩)])]).run Tryz.prog w = .ok (.bool true) w := by kernel_rfl
theorem asb.typeOf25 (v : Value) (w : World) : (ReflectliteType.typeOf #[.iface 155 v]).run Tryz.prog w = .ok (.iface 210 (.agg #[.pointer (some ⟨13, 155, none⟩)])) w := by kernel_rfl
theorem asb.assignable25 (w : World) : (ReflectliteType.relation "AssignableTo" ReflectliteType.assignableTo #[.agg #[.pointer (some ⟨13, 155, none⟩)], .iface 210 (.agg #[.pointer (some ⟨13, 155, none⟩)])]).run Tryz.prog w = .ok (.bool true) w := by kernel_rfl
theorem asb.assignable26 (w : World) : (ReflectliteType.relation "AssignableTo" ReflectliteType.assignableTo #[.agg #[.pointer (some ⟨13, 89, none⟩)], .iface 210 (.agg #[.pointer (some ⟨13, 155, none⟩)])]).run Tryz.prog w = .ok (.bool false) w := by kernel_rfl
theorem asb.valueOf25 (v : Value) (w : World) : (ReflectliteValue.unpack (.iface 155 (.agg #[v]))).run Tryz.prog w
    = .ok (.agg #[.pointer (some ⟨13, 155, none⟩), .pointer (some ⟨w.heap.size, 0, none⟩), .int .u64 153]) (w.alloc (.cells #[v] 155)) := by kernel_rfl
theorem asb.elemOf27 (w : World) : (Rtype.elem? 157).run Tryz.prog w = .ok (some 155) w := by kernel_rfl
theorem asb.mk25 (p : Addr) (w : World) : (ReflectliteValue.mk 155 p ReflectliteValue.flagAddr).run Tryz.prog w = .ok (.agg #[.pointer (some ⟨13, 155, none⟩), .pointer (some p), .int .u64 409]) w := by kernel_rfl
theorem asb.elemV27 (a p : Addr) (W : World) (ha : W.cell? a = some (.pointer (some p))) :
    (ReflectliteValue.method (ReflectliteValue.valueError "reflectlite.Value.Elem" 0) ReflectliteValue.elem #[.agg #[.pointer (some ⟨13, 157, none⟩), .pointer (some a), .int .u64 150]]).run Tryz.prog W
      = .ok (.agg #[.pointer (some ⟨13, 155, none⟩), .pointer (some p), .int .u64 409]) W := by
  rw [rlm]
  simp only [Sem.run_bind, asb.parts27, Result.andThen]
  simp [ReflectliteValue.elem, loadVar, isAgg, underlying, Tryz.underlying157, ha, Result.andThen, asb.elemOf27, asb.mk25]
theorem asb.parts25a (a : Addr) (w : World) : (ReflectliteValue.parts (.agg #[.pointer (some ⟨13, 155, none⟩), .pointer (some a), .int .u64 409])).run Tryz.prog w = .ok (some (155, a, 409)) w := by kernel_rfl
theorem asb.parts25 (a : Addr) (w : World) : (ReflectliteValue.parts (.agg #[.pointer (some ⟨13, 155, none⟩), .pointer (some a), .int .u64 153])).run Tryz.prog w = .ok (some (155, a, 153)) w := by kernel_rfl
theorem asb.direct25 (w : World) : (Rtype.directlyAssignable 155 155).run Tryz.prog w = .ok true w := by kernel_rfl
theorem asb.size25 (w : World) : (sizeOf 155).run Tryz.prog w = .ok 1 w := by kernel_rfl
theorem asb.load1 (b : Addr) (v : Value) (W : World) (hb : W.cell? b = some v) : (loadCells b 1).run Tryz.prog W = .ok #[v] W := by
  simp [loadCells, go_sem, Addr.add, hb]
theorem asb.set25 (ta b : Addr) (old : Value) (W : World) (hb : W.cell? b = some (errV 2)) (ht : W.cell? ta = some old) (hf : W.frozen? ta = false) :
    (ReflectliteValue.set #[.agg #[.pointer (some ⟨13, 155, none⟩), .pointer (some ta), .int .u64 409], .agg #[.pointer (some ⟨13, 155, none⟩), .pointer (some b), .int .u64 153]]).run Tryz.prog W
      = .ok (.tuple #[]) (W.setCell ta (errV 2)) := by
  obtain ⟨s1, s2, s3, s4, s5, hrl⟩ := rls (.agg #[.pointer (some ⟨13, 155, none⟩), .pointer (some ta), .int .u64 409]) (.agg #[.pointer (some ⟨13, 155, none⟩), .pointer (some b), .int .u64 153])
  rw [hrl]
  simp only [Sem.run_bind, asb.parts25a, asb.parts25, Result.andThen]
  simp [ReflectliteValue.flagAddr, loadVar, isAgg, underlying, Tryz.underlying155, Result.andThen, asb.direct25, storeVar, Value.cells]
  rw [asb.load1 b _ W hb]
  simp [storeCells, Addr.add]
  rw [run_store Tryz.prog W ta _ _ (by rfl)]
  simp [ht, hf]
set_option maxHeartbeats 4000000 in
theorem as_badhit (t : Addr) (old : Value) (w : World) (hg : w.cell? ⟨1, 0, none⟩ = some (.iface 210 (.agg #[.pointer (some ⟨13, 24, none⟩)]))) (ht0 : w.cell? t = some old) (hf0 : w.frozen? t = false) :
    Calls Tryz.prog 88 #[badV, .iface 157 (.pointer (some t))] w fun ev w' => ev = .returned (.bool true) ∧ w' = ((((w.alloc (.cells #[.pointer (some t)] 157)).alloc (.cells #[.pointer (some ⟨13, 157, none⟩), .pointer (some ⟨w.heap.size, 0, none⟩), .int .u64 150] 183)).alloc (.cells #[.pointer (some ⟨13, 157, none⟩), .pointer (some ⟨w.heap.size, 0, none⟩), .int .u64 150] 183)).alloc (.cells #[errV 2] 155)).setCell t (errV 2) := by
  have h6 := @run_callFunc_extern Tryz.prog 123 _ (fun args => ReflectliteValue.unpack (args.getD 0 (.tuple #[]))) Tryz.func123 (by kernel_rfl) (by kernel_rfl) (by kernel_rfl) (by kernel_rfl)
  have h7 := @run_callFunc_extern Tryz.prog 124 _ (ReflectliteValue.methodAny (ReflectliteValue.valueError "reflectlite.Value.Type" 0) (fun t _ _ _ => ReflectliteType.toType t)) Tryz.func124 (by kernel_rfl) (by kernel_rfl) (by kernel_rfl) (by kernel_rfl)
  have h8 := @run_callFunc_extern Tryz.prog 125 _ (ReflectliteValue.method (ReflectliteValue.valueError "reflectlite.Value.IsNil" 0) ReflectliteValue.isNil) Tryz.func125 (by kernel_rfl) (by kernel_rfl) (by kernel_rfl) (by kernel_rfl)
  have h27 := @run_callFunc_extern Tryz.prog 239 _ (ReflectliteType.abiMethod fun t => do pure (.int .u8 (← Rtype.kind t))) Tryz.func239 (by kernel_rfl) (by kernel_rfl) (by kernel_rfl) (by kernel_rfl)
  have h37 := @run_callFunc_extern Tryz.prog 250 _ (ReflectliteType.method ReflectliteType.elem) Tryz.func250 (by kernel_rfl) (by kernel_rfl) (by kernel_rfl) (by kernel_rfl)
  have h38 := @run_callFunc_extern Tryz.prog 251 _ (ReflectliteType.relation "Implements" ReflectliteType.implements_) Tryz.func251 (by kernel_rfl) (by kernel_rfl) (by kernel_rfl) (by kernel_rfl)
  have h10 := @run_callFunc_extern Tryz.prog 148 _ ReflectliteType.typeOf Tryz.func148 (by kernel_rfl) (by kernel_rfl) (by kernel_rfl) (by kernel_rfl)
  have h35 := @run_callFunc_extern Tryz.prog 248 _ (ReflectliteType.relation "AssignableTo" ReflectliteType.assignableTo) Tryz.func248 (by kernel_rfl) (by kernel_rfl) (by kernel_rfl) (by kernel_rfl)
  have h11 := @run_callFunc_extern Tryz.prog 149 _ (ReflectliteValue.method (ReflectliteValue.valueError "reflectlite.Value.Elem" 0) ReflectliteValue.elem) Tryz.func149 (by kernel_rfl) (by kernel_rfl) (by kernel_rfl) (by kernel_rfl)
  have h12 := @run_callFunc_extern Tryz.prog 150 _ ReflectliteValue.set Tryz.func150 (by kernel_rfl) (by kernel_rfl) (by kernel_rfl) (by kernel_rfl)
  have tO := asb.typeOf25
  have mA := asx.methodAssignableTo
  have a25 := asb.assignable25
  have v25 := asb.valueOf25
  have f6 := asb.valueOf27
  have f7 := asb.type27
  have mK := asx.methodKind
  have mE := asx.methodElem
  have mI := asx.methodImplements
  have k27 := asb.kind27
  have k25 := asb.kind25
  have e27 := asb.elem27
  have i25 := asb.implements25
  have n8 := asb.isNil27 ⟨w.heap.size, 0, none⟩ t ((w.alloc (.cells #[.pointer (some t)] 157)).alloc (.cells #[.pointer (some ⟨13, 157, none⟩), .pointer (some ⟨w.heap.size, 0, none⟩), .int .u64 150] 183)) (by simp)
  have hlt : 1 < w.heap.size := lt_of_cell hg
  have hg2 : ((w.alloc (.cells #[.pointer (some t)] 157)).alloc (.cells #[.pointer (some ⟨13, 157, none⟩), .pointer (some ⟨w.heap.size, 0, none⟩), .int .u64 150] 183)).cell? ⟨1, 0, none⟩ = some (.iface 210 (.agg #[.pointer (some ⟨13, 24, none⟩)])) := by
    rw [World.cell?_alloc_lt _ _ ⟨1, 0, none⟩ (by simp <;> omega), World.cell?_alloc_lt _ _ ⟨1, 0, none⟩ hlt]; exact hg
  have htl : t.block < w.heap.size := by
    rcases Nat.lt_or_ge t.block w.heap.size with h | h
    · exact h
    · simp [World.cell?, Array.getElem?_eq_none h] at ht0
  have el := asb.elemV27 ⟨w.heap.size, 0, none⟩ t (((w.alloc (.cells #[.pointer (some t)] 157)).alloc (.cells #[.pointer (some ⟨13, 157, none⟩), .pointer (some ⟨w.heap.size, 0, none⟩), .int .u64 150] 183)).alloc (.cells #[.pointer (some ⟨13, 157, none⟩), .pointer (some ⟨w.heap.size, 0, none⟩), .int .u64 150] 183)) (by rw [World.cell?_alloc_lt _ _ ⟨w.heap.size, 0, none⟩ (by simp; omega)]; simp)
  have st := asb.set25 t ⟨w.heap.size + 1 + 1 + 1, 0, none⟩ old ((((w.alloc (.cells #[.pointer (some t)] 157)).alloc (.cells #[.pointer (some ⟨13, 157, none⟩), .pointer (some ⟨w.heap.size, 0, none⟩), .int .u64 150] 183)).alloc (.cells #[.pointer (some ⟨13, 157, none⟩), .pointer (some ⟨w.heap.size, 0, none⟩), .int .u64 150] 183)).alloc (.cells #[errV 2] 155))
    (by rw [World.cell?_alloc_at _ _ _ _ (by simp)]; rfl)
    (by rw [World.cell?_alloc_lt _ _ t (by simp; omega), World.cell?_alloc_lt _ _ t (by simp; omega), World.cell?_alloc_lt _ _ t (by simp; omega), World.cell?_alloc_lt _ _ t htl]; exact ht0)
    (by rw [World.frozen?_alloc_old _ _ t (by simp; omega), World.frozen?_alloc_old _ _ t (by simp; omega), World.frozen?_alloc_old _ _ t (by simp; omega), World.frozen?_alloc_old _ _ t (Nat.ne_of_lt htl)]; exact hf0)
  unfold badV
  generalize errV 2 = e2 at *
  go_enter Tryz.func88, Tryz.ntmps88
  go_wp2
  refine wp_loop_rounds 1 ?_
  rw [rounds_succ]
  go_wp2
  go_ret
  exact ⟨rfl, rfl⟩
end Go.Proofs.YtpgemofkolmabaaGreatDoor
namespace Go.Proofs.YtpgemofkolmabaaGreatDoor
open Go.RowKit Go.Extern.Stop Go.Stop Go.Extern
set_option linter.unusedVariables false

set_option maxHeartbeats 4000000 in
set_option maxRecDepth 100000 in
/-- an Errno is none of these -/
theorem as_miss (n : Int) (t : Addr) (w : World) (hg : w.cell? ⟨1, 0, none⟩ = some (.iface 210 (.agg #[.pointer (some ⟨13, 24, none⟩)]))) :
    Calls Tryz.prog 88 #[errV n, .iface 157 (.pointer (some t))] w fun ev w' => ev = .returned (.bool false) ∧ Below w.heap.size w w' := by
  have h6 := @run_callFunc_extern Tryz.prog 123 _ (fun args => ReflectliteValue.unpack (args.getD 0 (.tuple #[]))) Tryz.func123 (by kernel_rfl) (by kernel_rfl) (by kernel_rfl) (by kernel_rfl)
  have h7 := @run_callFunc_extern Tryz.prog 124 _ (ReflectliteValue.methodAny (ReflectliteValue.valueError "reflectlite.Value.Type" 0) (fun t _ _ _ => ReflectliteType.toType t)) Tryz.func124 (by kernel_rfl) (by kernel_rfl) (by kernel_rfl) (by kernel_rfl)
  have h8 := @run_callFunc_extern Tryz.prog 125 _ (ReflectliteValue.method (ReflectliteValue.valueError "reflectlite.Value.IsNil" 0) ReflectliteValue.isNil) Tryz.func125 (by kernel_rfl) (by kernel_rfl) (by kernel_rfl) (by kernel_rfl)
  have h27 := @run_callFunc_extern Tryz.prog 239 _ (ReflectliteType.abiMethod fun t => do pure (.int .u8 (← Rtype.kind t))) Tryz.func239 (by kernel_rfl) (by kernel_rfl) (by kernel_rfl) (by kernel_rfl)
  have h37 := @run_callFunc_extern Tryz.prog 250 _ (ReflectliteType.method ReflectliteType.elem) Tryz.func250 (by kernel_rfl) (by kernel_rfl) (by kernel_rfl) (by kernel_rfl)
  have h38 := @run_callFunc_extern Tryz.prog 251 _ (ReflectliteType.relation "Implements" ReflectliteType.implements_) Tryz.func251 (by kernel_rfl) (by kernel_rfl) (by kernel_rfl) (by kernel_rfl)
  have h10 := @run_callFunc_extern Tryz.prog 148 _ ReflectliteType.typeOf Tryz.func148 (by kernel_rfl) (by kernel_rfl) (by kernel_rfl) (by kernel_rfl)
  have h35 := @run_callFunc_extern Tryz.prog 248 _ (ReflectliteType.relation "AssignableTo" ReflectliteType.assignableTo) Tryz.func248 (by kernel_rfl) (by kernel_rfl) (by kernel_rfl) (by kernel_rfl)
  have h11 := @run_callFunc_extern Tryz.prog 149 _ (ReflectliteValue.method (ReflectliteValue.valueError "reflectlite.Value.Elem" 0) ReflectliteValue.elem) Tryz.func149 (by kernel_rfl) (by kernel_rfl) (by kernel_rfl) (by kernel_rfl)
  have h12 := @run_callFunc_extern Tryz.prog 150 _ ReflectliteValue.set Tryz.func150 (by kernel_rfl) (by kernel_rfl) (by kernel_rfl) (by kernel_rfl)
  have tO := asx.typeOf25
  have mA := asx.methodAssignableTo
  have a25 := asb.assignable26
  have f6 := asb.valueOf27
  have f7 := asb.type27
  have mK := asx.methodKind
  have mE := asx.methodElem
  have mI := asx.methodImplements
  have k27 := asb.kind27
  have k25 := asb.kind25
  have e27 := asb.elem27
  have i25 := asb.implements25
  have n8 := asb.isNil27 ⟨w.heap.size, 0, none⟩ t ((w.alloc (.cells #[.pointer (some t)] 157)).alloc (.cells #[.pointer (some ⟨13, 157, none⟩), .pointer (some ⟨w.heap.size, 0, none⟩), .int .u64 150] 183)) (by simp)
  have hlt : 1 < w.heap.size := lt_of_cell hg
  have hg2 : ((w.alloc (.cells #[.pointer (some t)] 157)).alloc (.cells #[.pointer (some ⟨13, 157, none⟩), .pointer (some ⟨w.heap.size, 0, none⟩), .int .u64 150] 183)).cell? ⟨1, 0, none⟩ = some (.iface 210 (.agg #[.pointer (some ⟨13, 24, none⟩)])) := by
    rw [World.cell?_alloc_lt _ _ ⟨1, 0, none⟩ (by simp <;> omega), World.cell?_alloc_lt _ _ ⟨1, 0, none⟩ hlt]; exact hg
  have ta0 := fun (W : World) => run_typeAssert_lacksB (t := 89) (z := .nilIface) Tryz.underlying215 (by kernel_rfl) (by kernel_rfl) (.int .i64 n) 24 W
  have ta1 := fun (W : World) => run_typeAssert_lacksB (t := 89) (z := .nilIface) Tryz.underlying218 (by kernel_rfl) (by kernel_rfl) (.int .i64 n) 24 W
  have ta2 := fun (W : World) => run_typeAssert_lacksB (t := 89) (z := .nilIface) Tryz.underlying219 (by kernel_rfl) (by kernel_rfl) (.int .i64 n) 24 W
  go_enter Tryz.func88, Tryz.ntmps88
  go_wp2
  refine wp_loop_rounds 1 ?_
  rw [rounds_succ]
  go_wp2
  go_ret
  exact ⟨rfl, (by repeat (first | exact Below.refl _ _ | assumption | refine bal ?_ _ | refine bdn ?_ _ | refine bdr ?_ | refine bcl ?_ (by assumption)))⟩
end Go.Proofs.YtpgemofkolmabaaGreatDoor
namespace Go.Proofs.YtpgemofkolmabaaGreatDoor
open Go.ChangeShapes Go.WideShapes Go.ChangeAt Go.RowKit Go.Joins Go.Deep
set_option linter.unusedVariables false

set_option maxHeartbeats 800000 in
/-- an Errno's name -/
theorem ername_any (n : Int) (w : World) : Calls Tryz.prog 89 #[.int .i64 n] w fun e w' => e = .returned (.string (nmB n)) ∧ w = w' := by
  rcases (show n = 0 ∨ n = 1 ∨ n = 2 ∨ n = 3 ∨ n = 4 ∨ n = 5 ∨ n = 6 ∨ n = 7 ∨ n = 8 ∨ (n ≠ 0 ∧ n ≠ 1 ∧ n ≠ 2 ∧ n ≠ 3 ∧ n ≠ 4 ∧ n ≠ 5 ∧ n ≠ 6 ∧ n ≠ 7 ∧ n ≠ 8) by omega) with rfl | rfl | rfl | rfl | rfl | rfl | rfl | rfl | rfl | ⟨h0, h1, h2, h3, h4, h5, h6, h7, h8⟩
  iterate 9
    · go_enter Tryz.func89, Tryz.ntmps89
      go_wp2_with fail
      go_ret
      exact ⟨rfl, rfl⟩
  · have hv : nmB n = ⟨#[69, 114, 114, 110, 111]⟩ := by unfold nmB; simp [h0, h1, h2, h3, h4, h5, h6, h7, h8]
    have HV := Lib.hid hv
    have b0 := beq_eq_false_iff_ne.2 h0; have b1 := beq_eq_false_iff_ne.2 h1; have b2 := beq_eq_false_iff_ne.2 h2; have b3 := beq_eq_false_iff_ne.2 h3; have b4 := beq_eq_false_iff_ne.2 h4; have b5 := beq_eq_false_iff_ne.2 h5; have b6 := beq_eq_false_iff_ne.2 h6; have b7 := beq_eq_false_iff_ne.2 h7; have b8 := beq_eq_false_iff_ne.2 h8
    clear hv h0 h1 h2 h3 h4 h5 h6 h7 h8
    go_enter Tryz.func89, Tryz.ntmps89
    go_wp2_with fail
    go_ret
    exact ⟨by rw [HV.out]; rfl, rfl⟩
theorem bad_hit' (b : Nat) (old : Value) (w : World) (hg : HG w) (ht0 : w.cell? ⟨b, 0, none⟩ = some old) (hf0 : w.frozen? ⟨b, 0, none⟩ = false) (B : Nat) (hB : B ≤ b) (hB2 : B ≤ w.heap.size) :
    Calls Tryz.prog 88 #[badV, .iface 157 (.pointer (some ⟨b, 0, none⟩))] w fun ev w' => ev = .returned (.bool true) ∧ Below B w w' :=
  (as_badhit ⟨b, 0, none⟩ old w hg ht0 hf0).mono fun e w' ⟨h1, h2⟩ => ⟨h1, by
    rw [h2]
    refine Below.setCell ?_ (p := ⟨b, 0, none⟩) hB _
    exact (bal (bal (bal (bal1 w _) _) _) _).mono hB2⟩
theorem errno_hit' (n : Int) (b : Nat) (old : Value) (w : World) (hg : HG w) (ht0 : w.cell? ⟨b, 0, none⟩ = some old) (hf0 : w.frozen? ⟨b, 0, none⟩ = false) (B : Nat) (hB : B ≤ b) (hB2 : B ≤ w.heap.size) :
    Calls Tryz.prog 88 #[errV n, .iface 158 (.pointer (some ⟨b, 0, none⟩))] w fun ev w' => ev = .returned (.bool true) ∧ w'.cell? ⟨b, 0, none⟩ = some (.int .i64 n) ∧ Below B w w' :=
  (as_hit n ⟨b, 0, none⟩ old w hg ht0 hf0).mono fun e w' ⟨h1, h2⟩ => ⟨h1, by
    have hl := lt_of_cell ht0
    have hx := bal (bal (bal (bal1 w (.cells #[.pointer (some ⟨b, 0, none⟩)] 158)) (.cells #[.pointer (some ⟨13, 158, none⟩), .pointer (some ⟨w.heap.size, 0, none⟩), .int .u64 150] 183)) (.cells #[.pointer (some ⟨13, 158, none⟩), .pointer (some ⟨w.heap.size, 0, none⟩), .int .u64 150] 183)) (.cells #[.int .i64 n] 89)
    rw [h2]
    exact World.cell?_setCell_same _ _ _ ((hx.cell (p := ⟨b, 0, none⟩) hl).trans ht0), by
    rw [h2]
    refine Below.setCell ?_ (p := ⟨b, 0, none⟩) hB _
    exact (bal (bal (bal (bal1 w _) _) _) _).mono hB2⟩
section
variable {base p : Nat} {g : Option Nat} {L : List (List Va)}
set_option maxHeartbeats 1600000 in
set_option maxRecDepth 100000 in
theorem ans_any (s : ByteArray) (hs : s.size ≤ 100000) (w : World) (hS : Spc w base p g L) (hr : ∀ W, Below base w W → RT W ∧ HG W) :
    Calls Tryz.prog 47 #[.agg #[.pointer (some ⟨p, 0, none⟩)], .string s] w fun e w' => e = .returned (.string (lineF L s).1) ∧ ∃ g', Spc w' base p g' (lineF L s).2 ∧ Chg p g w w' ∧ Nw g g' w.heap.size := by
  obtain ⟨W1, hW1⟩ : ∃ W1, W1 = w.alloc (.cells #[.pointer (some ⟨p, 0, none⟩)] 95) := ⟨_, rfl⟩
  have hb : Below w.heap.size w W1 := by rw [hW1]; exact bal1 _ _
  have b0 : W1.cell? ⟨w.heap.size, 0, none⟩ = some (.pointer (some ⟨p, 0, none⟩)) := by rw [hW1]; exact cell_new1 _ _ _
  have cl := ln_any s hs W1 (hS.keep hb) (fun W h => (hr W ((hb.mono hS.hb).trans h)).1)
  have hgw : ∀ W g', Spc W base p g' (lnL L (wd s) (wr s)) → Chg p g W1 W → ∀ W', Below W.heap.size W W' → HG W' := fun W g' h1 h2 W' h3 => (hr W' ((hb.mono hS.hb).trans (((hS.keep hb).below h2).trans (h3.mono h1.hb)))).2
  have HW := Lib.hid hW1; have HB := Lib.hid hb; have CL := Lib.hid cl; have HGW := Lib.hid hgw
  have hv : (lineF L s).1 = saidB (lnT L (wd s) (wr s)) (lnK L (wd s) (wr s)) ∧ (lineF L s).2 = lnL L (wd s) (wr s) := ⟨rfl, rfl⟩
  rw [hv.1, hv.2]
  clear hW1 hb cl hgw hS hr hv
  generalize lnT L (wd s) (wr s) = tx at *
  generalize lnL L (wd s) (wr s) = L' at *
  generalize lnK L (wd s) (wr s) = k at *
  cases k with
  | none =>
    rw [show kV none = badV from rfl] at CL
    go_enter Tryz.func47, Tryz.ntmps47
    go_upto_region 1 with fail
    rw [← HW.out]
    go_wp2_with (go_at_call 87; refine CL.out.mono ?_; rintro e w2 ⟨rfl, g', hs, hx, hn⟩; have HS := Lib.hid hs; have HX := Lib.hid hx; have HN := Lib.hid hn; clear hs hx hn)
    obtain ⟨Y, hY⟩ : ∃ Y, Y = (w2.alloc (.cells #[.nilIface] 155)).alloc (.cells #[.int .i64 0] 89) := ⟨_, rfl⟩
    have hyb : Below w2.heap.size w2 Y := by rw [hY]; exact bal (bal1 _ _) _
    have y0 : Y.cell? ⟨w2.heap.size, 0, none⟩ = some .nilIface := by rw [hY]; simp
    have y1 : Y.frozen? ⟨w2.heap.size, 0, none⟩ = false := by rw [hY]; simp
    have ca := bad_hit' w2.heap.size _ Y (HGW.out _ _ HS.out HX.out _ hyb) y0 y1 w2.heap.size (Nat.le_refl _) hyb.size
    have CA := Lib.hid ca; have HYB := Lib.hid hyb; have HY := Lib.hid hY
    clear ca hyb hY y0 y1
    rw [← HY.out]
    go_wp2_with (go_at_call 88; refine CA.out.mono ?_; rintro e w3 ⟨rfl, hb3⟩; have HB3 := Lib.hid (HYB.out.trans hb3); clear hb3)
    go_ret
    exact ⟨rfl, g', HS.out.keep HB3.out, chg_after HB.out (HX.out.trans (Chg.of_below HB3.out) HN.out), nw_after HB.out HN.out⟩
  | some E =>
    rw [show kV (some E) = eV E from rfl] at CL
    by_cases hE : E = 0
    · rw [hE, eV_zero] at CL
      rw [show saidB tx (some E) = tx by rw [hE]; rfl]
      clear hE
      go_enter Tryz.func47, Tryz.ntmps47
      go_upto_region 1 with fail
      rw [← HW.out]
      go_wp2_with (first
        | (go_at_call 87; refine CL.out.mono ?_; rintro e w2 ⟨rfl, g', hs, hx, hn⟩; have HS := Lib.hid hs; have HX := Lib.hid hx; have HN := Lib.hid hn; clear hs hx hn)
        | (go_at_call 88; refine (as_nil _ _).mono ?_; rintro e w3 ⟨rfl, rfl⟩))
      go_ret
      exact ⟨rfl, g', HS.out.keep (by repeat (first | exact Below.refl _ _ | assumption | refine bal ?_ _ | refine bdn ?_ _ | refine bdr ?_ | refine bcl ?_ (by assumption))), chg_after HB.out (HX.out.trans (Chg.of_below (by repeat (first | exact Below.refl _ _ | assumption | refine bal ?_ _ | refine bdn ?_ _ | refine bdr ?_ | refine bcl ?_ (by assumption)))) HN.out), nw_after HB.out HN.out⟩
    · rw [eV_of hE] at CL
      rw [show saidB tx (some E) = nmB E from if_neg hE]
      clear hE
      go_enter Tryz.func47, Tryz.ntmps47
      go_upto_region 1 with fail
      rw [← HW.out]
      go_wp2_with (go_at_call 87; refine CL.out.mono ?_; rintro e w2 ⟨rfl, g', hs, hx, hn⟩; have HS := Lib.hid hs; have HX := Lib.hid hx; have HN := Lib.hid hn; clear hs hx hn)
      obtain ⟨Y, hY⟩ : ∃ Y, Y = (w2.alloc (.cells #[.nilIface] 155)).alloc (.cells #[.int .i64 0] 89) := ⟨_, rfl⟩
      have hyb : Below w2.heap.size w2 Y := by rw [hY]; exact bal (bal1 _ _) _
      have y0 : AtB Y (w2.heap.size + 1) #[.int .i64 0] 89 := by
        have := AtB.new (w2.alloc (.cells #[.nilIface] 155)) #[.int .i64 0] 89
        rw [World.size_alloc] at this
        rw [hY]; exact this
      have ca := as_miss E ⟨w2.heap.size, 0, none⟩ Y (HGW.out _ _ HS.out HX.out _ hyb)
      have CA := Lib.hid ca; have HYB := Lib.hid hyb; have HY := Lib.hid hY; have Y0 := Lib.hid y0
      clear ca hyb hY y0
      rw [← HY.out]
      go_wp2_with (first
        | (go_at_call 88; (with_reducible refine CA.out.mono ?_); rintro e w3 ⟨rfl, hb3⟩; have HB3 := Lib.hid (bcl HYB.out hb3); have y3 := Y0.out.below hb3 Y0.out.lt; have hl3 : w2.heap.size + 1 < w3.heap.size := y3.lt; have Y3 := Lib.hid y3; clear hb3 y3)
        | (go_at_call 88; refine (errno_hit' E (w2.heap.size + 1) _ w3 (HGW.out _ _ HS.out HX.out _ HB3.out) (Y3.out.cell rfl) (Y3.out.frozen 0) w2.heap.size (Nat.le_succ _) (HB3.out.size)).mono ?_; rintro e w4 ⟨rfl, hc4, hb4⟩; have HB4 := Lib.hid (HB3.out.trans hb4); clear hb4)
        | (go_at_call 89; refine (ername_any E _).mono ?_; rintro e w' ⟨rfl, rfl⟩))
      go_ret
      exact ⟨rfl, g', HS.out.keep HB4.out, chg_after HB.out (HX.out.trans (Chg.of_below HB4.out) HN.out), nw_after HB.out HN.out⟩
end
end Go.Proofs.YtpgemofkolmabaaGreatDoor
namespace Go.Proofs.YtpgemofkolmabaaGreatDoor
open Go.ChangeShapes Go.WideShapes Go.ChangeAt Go.RowKit Go.Joins
set_option linter.unusedVariables false
attribute [local go_sem] Oper.semAt_some

theorem nmB_size (e : Int) : (nmB e).size ≤ 1000 := by
  unfold nmB
  repeat' split
  all_goals decide
theorem dT_size {w : World} {base p : Nat} {g : Option Nat} {L : List (List Va)} (hS : Spc w base p g L) (x : ByteArray) (t u : List Va) : (dT L x t u).size ≤ 1000 := by
  unfold dT
  split
  · decide
  · split
    · obtain ⟨hr, h5⟩ := rT_rgt hS t
      have := lin_size hr (rT t L).length
      rw [List.take_length] at this
      omega
    · split
      · have h1 := cnt_le t L L.length
        have h2 := hS.len
        exact Nat.le_trans (itB_size (by omega) (by omega)) (by decide)
      · split
        · split <;> decide
        · have : 0 ≤ dgt t ∧ dgt t ≤ 10006 := hs_range _ _
          exact Nat.le_trans (itB_size (by omega) (by omega)) (by decide)
theorem dlT_size (x y z : ByteArray) : (dlT x y z).size ≤ 1000 := by
  unfold dlT
  split
  · exact jn_shares (dlL_ok _ _ _).1 (dlL_ok _ _ _).2
  · decide
theorem line_size {w : World} {base p : Nat} {g : Option Nat} {L : List (List Va)} (hS : Spc w base p g L) (s : ByteArray) : (lineF L s).1.size ≤ 1000 := by
  show (saidB _ _).size ≤ 1000
  have ht : (lnT L (wd s) (wr s)).size ≤ 1000 := by
    unfold lnT
    split
    · decide
    · split
      · exact dlT_size _ _ _
      · split
        · decide
        · exact dT_size hS _ _ _
  unfold saidB
  split
  · decide
  · split
    · exact ht
    · exact nmB_size _
/-- a builder that holds these bytes -/
def BL (W : World) (b : Nat) (l : List UInt8) : Prop := Lib.IsBuilderF 99 5 b b (Lib.byteCells l) W
theorem BL.head {W : World} {b : Nat} {l : List UInt8} (h : BL W b l) : ∃ p v, W.heap[b]? = some (.cells #[p, v] 99 (0, 0)) := by
  rcases h with ⟨_, v, h, _⟩ | ⟨_, v, h, _⟩ <;> exact ⟨_, v, h⟩
theorem BL.stay {W W' : World} {b : Nat} {l : List UInt8} (h : BL W b l) (hs : ∀ x, (x = b ∨ ∃ c fz, W.heap[x]? = some (.cells c 5 fz)) → W'.heap[x]? = W.heap[x]?) : BL W' b l := by
  have hown : ∀ v n xs, W.ownsRowF b 5 1 v n xs → W'.ownsRowF b 5 1 v n xs := fun v n xs ⟨h1, h2⟩ => by
    refine ⟨h1, ?_⟩
    rcases h2 with h2 | ⟨g, cap, cur, fz, e1, e2, e3, r⟩
    · exact .inl h2
    · exact .inr ⟨g, cap, cur, fz, e1, e2, (hs g (.inr ⟨_, _, e3⟩)).trans e3, r⟩
  rcases h with ⟨hB, v, h1, h2, h3⟩ | ⟨hB, v, h1, h2, h3⟩
  · exact .inl ⟨hB, v, (hs b (.inl rfl)).trans h1, hown _ _ _ h2, h3⟩
  · exact .inr ⟨hB, v, (hs b (.inl rfl)).trans h1, hown _ _ _ h2, h3⟩
theorem BL.new (W : World) : BL (W.alloc (.cells #[.pointer none, .slice none 0 0] 99)) W.heap.size [] :=
  .inl ⟨Nat.le_refl _, _, World.alloc_heap_new W _, World.ownsRowF_nil _ _ _ _, by simp [Value.ownBlock]⟩
theorem bws_any (b : Nat) (l : List UInt8) (s : ByteArray) (w : World) (h : BL w b l) (hl : l.length + s.size ≤ 140737488355328) (hb : b ≤ w.heap.size) :
    Calls Tryz.prog 46 #[.pointer (some ⟨b, 0, none⟩), .string s] w fun e w' => e = .returned (.tuple #[.int .i64 s.size, .nilIface]) ∧ BL w' b (l ++ s.data.toList) ∧ Below b w w' ∧ Lib.OthersKept 5 (some b) w w' := by
  have c := Any.Builder_WriteString_k { Tryz.lays156 with } Tryz.Builder_Extra_156 b b (Lib.byteCells l) s w h (by rw [Lib.byteCells_length]; exact hl) hb
  refine (show Calls Tryz.prog 46 _ _ _ from c).mono ?_
  rintro e w' ⟨h1, h2, h3, h4⟩
  exact ⟨h1, .inr (by rw [Lib.byteCells_append]; exact h2), h3, h4⟩
structure RJ (w : World) (bd bb bl p : Nat) (xs : List ByteArray) (k : Nat) (W : World) : Prop where
  d : Boxed W bd 95 (.pointer (some ⟨p, 0, none⟩))
  bld : BL W bb (runL (xs.take k)).1.data.toList
  kl : kin W bl 9
  spc : ∃ g, Spc W w.heap.size p g (runL (xs.take k)).2
  le : k ≤ xs.length
  b : Below w.heap.size w W
  sz : (runL (xs.take k)).1.size ≤ k * 1001
theorem runL_next {xs : List ByteArray} {k : Nat} {x : ByteArray} (h : xs[k]? = some x) : runL (xs.take (k + 1)) = stepF (runL (xs.take k)) x := by
  unfold runL
  rw [List.take_add_one, h, List.foldl_append]; rfl
theorem lns_len : ∀ (l : List UInt8), ∀ q ∈ lns l, q.length ≤ l.length
  | [], q, h => by simp [lns] at h
  | x :: r, q, h => by
    have ih := lns_len r
    unfold lns at h
    split at h
    · rcases List.mem_cons.1 h with rfl | h
      · simp
      · have := ih q h; simp; omega
    · split at h
      · rename_i a b e
        rcases List.mem_cons.1 h with rfl | h
        · have := ih a (by rw [e]; simp); simp; omega
        · have := ih q (by rw [e]; exact List.mem_cons_of_mem _ h); simp; omega
      · rw [List.mem_singleton] at h; rw [h]; simp
theorem lns_cnt : ∀ l : List UInt8, (lns l).length ≤ l.length
  | [] => Nat.le_refl _
  | x :: r => by
    have ih := lns_cnt r
    unfold lns
    split
    · simp; omega
    · split
      · rename_i a b e; rw [e] at ih; simp at ih ⊢; omega
      · simp
theorem lnB_cnt (t : ByteArray) : (lnB t).length ≤ t.size := by
  have := lns_cnt t.data.toList
  rw [Array.length_toList] at this
  rw [lnB, List.length_map]; exact this
theorem lnB_len {t x : ByteArray} (h : x ∈ lnB t) : x.size ≤ t.size := by
  obtain ⟨l, hl, rfl⟩ := List.mem_map.1 h
  have := lns_len _ l hl
  rw [Array.length_toList] at this
  show l.toArray.size ≤ t.data.size
  rw [List.size_toArray]; exact this
theorem noEnd_size (x : ByteArray) : (noEnd x).size ≤ x.size := by
  have := Lib.trimSuffix_le x.data.toList [10]
  show (Lib.trimSuffix x.data.toList [10]).toArray.size ≤ x.size
  rw [List.size_toArray]
  have e : x.data.toList.length = x.size := Array.length_toList
  omega
theorem cells_kin {W : World} {x : Nat} {c : Array Value} {T T' : TypeId} {fz : Nat × Nat} (h : W.heap[x]? = some (.cells c T fz)) (k : kin W x T') : T = T' := by
  obtain ⟨c', h'⟩ := k
  rw [h] at h'; cases h'; rfl
theorem BL.ne {W : World} {b : Nat} {l : List UInt8} (h : BL W b l) {x : Nat} (hx : x = b ∨ ∃ c fz, W.heap[x]? = some (.cells c 5 fz)) {T : TypeId} (k : kin W x T) : T = 99 ∨ T = 5 := by
  rcases hx with rfl | ⟨c, fz, hx⟩
  · obtain ⟨p, v, h⟩ := h.head
    exact .inl (cells_kin h k).symm
  · exact .inr (cells_kin hx k).symm
theorem bl_chg {W w' : World} {b p base : Nat} {g : Option Nat} {L : List (List Va)} {l : List UInt8} (h : BL W b l) (hS : Spc W.drew base p g L) (k : Chg p g W.drew w') : BL w' b l := by
  have hd : BL W.drew b l := h
  refine h.stay fun x hx => ?_
  have hlt : x < W.heap.size := by
    rcases hx with rfl | ⟨c, fz, hx⟩
    · obtain ⟨_, _, h1⟩ := h.head; exact (Array.getElem?_eq_some_iff.1 h1).1
    · exact (Array.getElem?_eq_some_iff.1 hx).1
  refine k.block x hlt (fun e => ?_) (fun e => ?_)
  · rcases BL.ne hd hx (e ▸ hS.kin) with h1 | h1 <;> exact absurd h1 (by decide)
  · rcases BL.ne hd hx (hS.gkin e.symm).2 with h1 | h1 <;> exact absurd h1 (by decide)
theorem RJ.stay {w : World} {bd bb bl p B : Nat} {xs : List ByteArray} (hbd : bd ≠ bl) (hw : w.heap.size ≤ bl) (hB : w.heap.size ≤ B) : AbRk (fun b => b = bl) B (RJ w bd bb bl p xs) := by
  intro k W W' row h hg hr hkd
  have nk : ∀ r, row = some r → ∀ c T fz, W.heap[r]? = some (.cells c T fz) → r = bl := fun r e c T fz h2 => by
    rcases hr r e with h1 | ⟨_, o, h3, h4⟩
    · exact h1
    · rw [h2] at h3; cases h3; cases h4
  refine ⟨h.d.kept hg fun e => hbd (nk _ e.symm _ _ _ h.d), h.bld.stay fun x hx => ?_, hkd _ _ h.kl, ?_, h.le, h.b.grown hg h.b.size fun r e => ?_, h.sz⟩
  · have hlt : x < W.heap.size := by
      rcases hx with rfl | ⟨c, fz, hx⟩
      · obtain ⟨_, _, h1⟩ := h.bld.head; exact (Array.getElem?_eq_some_iff.1 h1).1
      · exact (Array.getElem?_eq_some_iff.1 hx).1
    refine hg.block x hlt fun e => ?_
    have hxb : x = bl := by
      rcases hx with rfl | ⟨c, fz, hx⟩
      · obtain ⟨_, _, h1⟩ := h.bld.head; exact nk _ e.symm _ _ _ h1
      · exact nk _ e.symm _ _ _ hx
    subst hxb
    rcases h.bld.ne hx h.kl with h1 | h1
    · exact absurd h1 (by decide)
    · exact absurd h1 (by decide)
  · obtain ⟨g, hS⟩ := h.spc
    refine ⟨g, hS.farC (Chs.grown hg) fun x hx => ?_⟩
    rcases hr x hx with rfl | ⟨hx2, o, ho, hnc⟩
    · exact ⟨hw, fun k => absurd (kin.ne k h.kl) (by decide), fun e => absurd (kin.ne h.kl (e ▸ hS.kin)) (by decide), fun e => absurd (kin.ne h.kl (hS.gkin e).2) (by decide)⟩
    · have nk2 : ∀ t, ¬ kin W x t := fun t ⟨cs, hk⟩ => by rw [ho] at hk; cases hk; cases hnc
      exact ⟨by omega, nk2 _, fun e => nk2 _ (e ▸ hS.kin), fun e => nk2 _ (hS.gkin e).2⟩
  · rcases hr r e with h1 | ⟨h1, _⟩ <;> omega
theorem RJ.next {w W w3 w4 : World} {bd bb bl p k B : Nat} {xs : List ByteArray} {x : ByteArray} {g g' : Option Nat} {acc : List UInt8} {tx : ByteArray} (hI : RJ w bd bb bl p xs k W) (hx : xs[k]? = some x) (hS : Spc W w.heap.size p g (runL (xs.take k)).2)
    (hS3 : Spc w3 w.heap.size p g' (lineF (runL (xs.take k)).2 (noEnd x)).2) (hX : Chg p g W.drew w3) (hB3 : BL w3 bb acc) (hacc : acc = (runL (xs.take k)).1.data.toList) (htx : (lineF (runL (xs.take k)).2 (noEnd x)).1 = tx) (htz : tx.size ≤ 1000)
    (hb4 : BL w4 bb (acc ++ (tx ++ (⟨#[10]⟩ : ByteArray)).data.toList)) (hl4 : Below bb w3 w4) (hk4 : Lib.OthersKept 5 (some bb) w3 w4) (hbb : w.heap.size ≤ bb) (hbl : bl ≠ bb) (hbd : bd ≠ bb) (hw : w.heap.size ≤ bl) :
    KeepsFrom B W w4 ∧ KpM (fun b => b = bl) W w4 ∧ RJ w bd bb bl p xs (k + 1) w4 := by
  have hpk : kin W p 151 := hS.kin
  have hgk : ∀ y, g = some y → kin W y 31 := fun y e => (hS.gkin e).2
  have one : ∀ (y : Nat) (o : Obj), W.heap[y]? = some o → (∀ c T fz, o = .cells c T fz → T ≠ 151 ∧ T ≠ 31 ∧ T ≠ 5 ∧ T ≠ 99) → w4.heap[y]? = some o := fun y o ho hn => by
    have h3 : w3.heap[y]? = some o := by
      refine (hX.block y (Array.getElem?_eq_some_iff.1 ho).1 (fun e => ?_) (fun e => ?_)).trans ho
      · obtain ⟨c, hc⟩ := hpk
        rw [e, hc] at ho; cases ho
        exact (hn _ _ _ rfl).1 rfl
      · obtain ⟨c, hc⟩ := hgk y e.symm
        rw [hc] at ho; cases ho
        exact (hn _ _ _ rfl).2.1 rfl
    refine hk4 y o h3 (fun e => ?_) (fun c fz e => (hn _ _ _ e).2.2.1 rfl)
    obtain ⟨q, v, h1⟩ := hB3.head
    injection e with e
    rw [e, h1] at h3; cases h3
    exact (hn _ _ _ rfl).2.2.2 rfl
  have hd4 : Boxed w4 bd 95 (.pointer (some ⟨p, 0, none⟩)) := one bd _ hI.d fun c T fz e => by cases e; decide
  obtain ⟨cl, hcl⟩ := hI.kl
  have hl5 : w4.heap[bl]? = W.heap[bl]? := (one bl _ hcl fun c T fz e => by cases e; decide).trans hcl.symm
  have hst := runL_next hx
  have hz : W.heap.size ≤ w3.heap.size := hX.size
  have hbz : Below w.heap.size w w4 := hI.b.trans (((show Below w.heap.size W w3 from ((bdr (Below.refl W.heap.size W)).mono hS.hb).trans ((hS.keep (bdr (Below.refl _ _))).below hX))).trans (hl4.mono hbb))
  refine ⟨⟨Nat.le_trans hz hl4.size, fun y o _ ho hnc => one y o ho fun c T fz e => by rw [e] at hnc; cases hnc⟩, fun y e => by rw [e]; exact hl5, hd4, ?_, ⟨cl, hl5.trans hcl⟩, ⟨g', ?_⟩, (List.getElem?_eq_some_iff.1 hx).1, hbz, ?_⟩
  · rw [hst]
    show BL w4 bb ((runL (xs.take k)).1 ++ ((lineF (runL (xs.take k)).2 (noEnd x)).1 ++ (⟨#[10]⟩ : ByteArray))).data.toList
    rw [htx, ByteArray.data_append, Array.toList_append, ← hacc]
    exact hb4
  · rw [hst]
    show Spc w4 w.heap.size p g' (lineF (runL (xs.take k)).2 (noEnd x)).2
    have hch : Chs (fun y => bb ≤ y ∧ (y = bb ∨ ∃ c fz, w3.heap[y]? = some (.cells c 5 fz))) w3 w4 := ⟨hl4.os, hl4.tape, hl4.output, hl4.size, fun y hy hn => by
      rcases Nat.lt_or_ge y bb with hlt | hge
      · exact hl4.block y hlt
      · obtain ⟨o, ho⟩ : ∃ o, w3.heap[y]? = some o := ⟨_, Array.getElem?_eq_getElem hy⟩
        rw [ho]
        refine hk4 y o ho (fun e => hn ⟨hge, .inl (Option.some.inj e)⟩) (fun c fz e => hn ⟨hge, .inr ⟨c, fz, by rw [ho, e]⟩⟩)⟩
    refine hS3.farC hch fun y ⟨hy, hy2⟩ => ⟨by omega, fun kk => ?_, fun e => ?_, fun e => ?_⟩
    · rcases hB3.ne hy2 kk with h1 | h1 <;> exact absurd h1 (by decide)
    · rcases hB3.ne hy2 (e ▸ hS3.kin) with h1 | h1 <;> exact absurd h1 (by decide)
    · rcases hB3.ne hy2 (hS3.gkin e).2 with h1 | h1 <;> exact absurd h1 (by decide)
  · rw [hst]
    show ((runL (xs.take k)).1 ++ ((lineF (runL (xs.take k)).2 (noEnd x)).1 ++ (⟨#[10]⟩ : ByteArray))).size ≤ (k + 1) * 1001
    rw [htx, size_app, size_app]
    have := hI.sz
    show _ + (tx.size + 1) ≤ _
    omega
set_option maxHeartbeats 1600000 in
set_option maxRecDepth 100000 in
theorem run_inside (t : ByteArray) (w : World) (hr : ∀ W, Below w.heap.size w W → RT W ∧ HG W) (ht : t.size ≤ 3000) :
    CallsIn Fence.wide 5 Tryz.prog 14 #[.string t] w fun e w' => e = .returned (.string (runL (lnB t)).1) ∧ Below w.heap.size w w' := by
  have ht3 : ¬ (3000 : Int) < (t.size : Int) := by omega
  have HR := Lib.hid hr
  clear hr
  refine callsIn_of_wp_marks Tryz.func14 rfl trivial ?_ rfl
  simp only [Tryz.ntmps14, List.size_toArray, List.length_cons, List.length_nil, Nat.reduceAdd, Nat.reduceSub, Array.replicate_succ, Array.replicate_zero, List.push_toArray, List.append_toArray, List.nil_append, List.cons_append]
  gi_wp2_with (first
    | (refine ⟨trivial, ?_⟩; gi_at_call 44; refine (callsIn_wide.2 (spnew _)).mono ?_; rintro e w2 ⟨rfl, rfl⟩)
    | (refine ⟨trivial, ?_⟩; gi_at_call 45; refine (callsIn_wide.2 (lines_any _ _)).mono ?_; rintro e w' ⟨rfl, rfl⟩))
  obtain ⟨Y, hY⟩ : ∃ Y, Y = (((w.alloc (.cells #[.slice none 0 0] 151)).alloc (.cells #[.pointer (some ⟨w.heap.size, 0, none⟩)] 95)).alloc (.cells #[.pointer none, .slice none 0 0] 99)).alloc (.cells #[.string t] 9) := ⟨_, rfl⟩
  have hyb : Below w.heap.size w Y := by rw [hY]; exact bal (bal (bal (bal1 _ _) _) _) _
  have b1 : Below (w.alloc (.cells #[.slice none 0 0] 151)).heap.size (w.alloc (.cells #[.slice none 0 0] 151)) Y := by rw [hY]; exact bal (bal (bal1 _ _) _) _
  have yS : Spc Y w.heap.size w.heap.size none [] := (Spc.new w (Nat.le_refl _)).keep b1
  have yd : Boxed Y (w.heap.size + 1) 95 (.pointer (some ⟨w.heap.size, 0, none⟩)) := by
    have := Boxed.new (w.alloc (.cells #[.slice none 0 0] 151)) 95 (.pointer (some ⟨w.heap.size, 0, none⟩))
    rw [World.size_alloc] at this
    rw [hY]; exact (this.alloc _).alloc _
  have yb : BL Y (w.heap.size + 1 + 1) [] := by
    have := BL.new ((w.alloc (.cells #[.slice none 0 0] 151)).alloc (.cells #[.pointer (some ⟨w.heap.size, 0, none⟩)] 95))
    rw [World.size_alloc, World.size_alloc] at this
    rw [hY]
    refine this.stay fun x hx => Below.heap_alloc _ _ _ ?_
    rcases hx with rfl | ⟨c, fz, hx⟩
    · simp
    · exact (Array.getElem?_eq_some_iff.1 hx).1
  have yl : AtB Y (w.heap.size + 1 + 1 + 1) #[.string t] 9 := by
    have := AtB.new (((w.alloc (.cells #[.slice none 0 0] 151)).alloc (.cells #[.pointer (some ⟨w.heap.size, 0, none⟩)] 95)).alloc (.cells #[.pointer none, .slice none 0 0] 99)) #[.string t] 9
    rw [World.size_alloc, World.size_alloc, World.size_alloc] at this
    rw [hY]; exact this
  have hYz : Y.heap.size = w.heap.size + 4 := by rw [hY]; simp
  rw [← hY]
  have H0 : RJ w (w.heap.size + 1) (w.heap.size + 1 + 1) (w.heap.size + 1 + 1 + 1) w.heap.size (lnB t) 0 Y := ⟨yd, yb, yl.kin, ⟨none, yS⟩, Nat.zero_le _, hyb, Nat.zero_le _⟩
  have hseq := lines_in 4 (by decide) (w.heap.size + 1 + 1 + 1) t (by omega) Y yl
  have hxs : ∀ x ∈ lnB t, x.size ≤ 3000 := fun x hx => Nat.le_trans (lnB_len hx) ht
  have HXS := Lib.hid hxs
  have HXL := Lib.hid (show (lnB t).length ≤ 1000000 from Nat.le_trans (lnB_cnt t) (by omega))
  clear hY yS yd yb yl hyb b1 hxs
  generalize hlb : lnB t = xs at *
  have HXB := Lib.hid hlb
  clear hlb
  refine wpIn_range_textsK (M := fun b => b = w.heap.size + 1 + 1 + 1) (xs := xs) (gf := 84) (lb := #[.pointer (some ⟨w.heap.size + 1 + 1 + 1, 0, none⟩)]) rfl (enters_of Tryz.func84 (by kernel_rfl) rfl)
    (fun b hb => by omega) hseq (RJ w (w.heap.size + 1) (w.heap.size + 1 + 1) (w.heap.size + 1 + 1 + 1) w.heap.size xs) (fun _ _ _ => False) (RJ.stay (by omega) (by omega) (by omega)) (fun c s W W' row h _ _ _ => h.elim) H0
    (fun x => { tmps := #[.string t, undef, .string ⟨#[]⟩, .pointer (some ⟨w.heap.size + 1, 0, none⟩), .pointer (some ⟨w.heap.size + 1 + 1, 0, none⟩), .string x, .string t, .int .i64 t.size, .bool false, .pointer (some ⟨w.heap.size, 0, none⟩), .agg #[.pointer (some ⟨w.heap.size, 0, none⟩)], .string t,
      .func (.func 84) #[] #[.pointer (some ⟨w.heap.size + 1 + 1 + 1, 0, none⟩)], .string x, undef, undef, undef, undef, undef, undef, undef], defers := [] }) ?assign ?body ?done ?stop
  case assign =>
    intro l x W K hK
    gi_wp2
    exact hK
  case body =>
    intro l k x W hx hI
    have hxm := List.mem_of_getElem? hx
    have hxz := HXS.out x hxm
    have hlt := (List.getElem?_eq_some_iff.1 hx).1
    obtain ⟨g, hS⟩ := hI.spc
    have hnz := noEnd_size x
    have ca := ans_any (noEnd x) (by omega) W.drew (hS.keep (bdr (Below.refl _ _))) (fun W' h => HR.out W' (hI.b.trans (((bdr (Below.refl W.heap.size W)).mono hS.hb).trans h)))
    have htx := line_size hS (noEnd x)
    have hst : runL (xs.take (k + 1)) = stepF (runL (xs.take k)) x := runL_next hx
    have hcat := size_app (lineF (runL (xs.take k)).2 (noEnd x)).1 ⟨#[10]⟩
    have hcat2 : ((lineF (runL (xs.take k)).2 (noEnd x)).1 ++ (⟨#[10]⟩ : ByteArray)).size = (lineF (runL (xs.take k)).2 (noEnd x)).1.size + 1 := hcat
    have ct := fun (W' : World) => Tryz.strings_TrimSuffix x ⟨#[10]⟩ W' (by omega)
    have HI := Lib.hid hI; have HS := Lib.hid hS; have HST := Lib.hid hst; have CA := Lib.hid ca
    have CT := Lib.hid (show ∀ W', Calls Tryz.prog 48 #[.string x, .string ⟨#[10]⟩] W' fun e w' => e = .returned (.string (noEnd x)) ∧ W' = w' from fun W' => (ct W').mono fun e w' ⟨h1, h2⟩ => ⟨h1, h2.symm⟩)
    have HLE := Lib.hid (show k ≤ 1000000 from Nat.le_trans (Nat.le_of_lt hlt) HXL.out)
    have c1 := hI.d.cell
    have c1l := hI.d.lt
    clear hI hS hst ca ct hnz hxz hxm hcat hseq H0
    generalize htxe : (lineF (runL (xs.take k)).2 (noEnd x)).1 = tx at *
    have HTX := Lib.hid htxe
    clear htxe
    obtain ⟨acc, hacc⟩ : ∃ acc, acc = (runL (xs.take k)).1.data.toList := ⟨_, rfl⟩
    have hbl := HI.out.bld
    rw [← hacc] at hbl
    have hal : acc.length ≤ 2000000000 := by
      have := HI.out.sz; have := HLE.out
      rw [hacc, Array.length_toList]
      show (runL (xs.take k)).1.size ≤ _
      omega
    have cw := fun (w3 : World) (h : BL w3 (w.heap.size + 1 + 1) acc) (hz : W.heap.size ≤ w3.heap.size) => bws_any (w.heap.size + 1 + 1) acc (tx ++ ⟨#[10]⟩) w3 h (by omega) (by have := HI.out.d.lt; obtain ⟨_, _, h1⟩ := HI.out.bld.head; have := (Array.getElem?_eq_some_iff.1 h1).1; omega)
    have CW := Lib.hid cw; have HBL := Lib.hid hbl; have HACC := Lib.hid hacc
    clear cw hbl hal hacc
    gi_wp2_with fail
    gi_region_with (first
      | (refine ⟨trivial, ?_⟩; gi_at_call 48; refine (CallsIn.inRound l (callsIn_wide.2 (CT.out _))).mono ?_; rintro e w' ⟨rfl, rfl⟩)
      | (refine ⟨trivial, ?_⟩; gi_at_call 47; refine (CallsIn.inRound l (callsIn_wide.2 CA.out)).mono ?_; rintro e w3 ⟨rfl, g', hs3, hx3, hn3⟩; have HS3 := Lib.hid hs3; have HX3 := Lib.hid hx3; have HN3 := Lib.hid hn3; have HB3 := Lib.hid (bl_chg HBL.out (HS.out.keep (bdr (Below.refl _ _))) hx3); have hz3 : W.heap.size ≤ w3.heap.size := hx3.size; clear hs3 hx3 hn3)
      | (refine ⟨trivial, ?_⟩; gi_at_call 46; refine (CallsIn.inRound l (callsIn_wide.2 (CW.out w3 HB3.out hz3))).mono ?_; rintro e w4 ⟨rfl, hb4, hl4, hk4⟩; have HB4 := Lib.hid hb4; have HL4 := Lib.hid hl4; have HK4 := Lib.hid hk4; clear hb4 hl4 hk4))
    all_goals
      gi_wp2_with fail
      exact RJ.next HI.out hx HS.out HS3.out HX3.out HB3.out HACC.out HTX.out htx HB4.out HL4.out HK4.out (by omega) (by omega) (by omega) (by omega)
  case done =>
    intro E W hE hI hK
    have hb := hI.bld
    rw [List.take_length] at hb
    have hzb : w.heap.size + 1 + 1 < W.heap.size := by obtain ⟨_, _, h1⟩ := hI.bld.head; exact (Array.getElem?_eq_some_iff.1 h1).1
    have cs := Tryz.Builder_String_any_k (w.heap.size + 1 + 1) (w.heap.size + 1 + 1) (runL xs).1.data.toList W hb (by omega)
    have hKb : ∀ W', Lib.OthersKept 5 (some (w.heap.size + 1 + 1)) W W' → W'.heap[E]? = some (.deferred (some [])) := fun W' h => h E _ hK (fun e => by
      obtain ⟨_, _, h1⟩ := hI.bld.head
      injection e with e
      rw [e, h1] at hK; cases hK) (fun c fz e => by cases e)
    have CS := Lib.hid cs; have HI := Lib.hid hI; have HKB := Lib.hid hKb
    clear cs hI hb hKb
    gi_wp2_with (refine ⟨trivial, ?_⟩; gi_at_call 49; refine (callsIn_wide.2 CS.out).mono ?_; rintro e w5 ⟨rfl, hb5, hl5, hk5⟩)
    have hK5 := HKB.out _ hk5
    have hbz : Below w.heap.size w w5 := HI.out.b.trans (hl5.mono (by omega))
    refine ⟨by simp, .inl ⟨_, _, rfl, run_takeDeferred hK5, ?_⟩⟩
    refine ⟨.string (runL xs).1, by simp [results, Tryz.results14, go_sem], ?_⟩
    exact ⟨by rw [HXB.out], hbz.trans (belowK_b (w := w) (Nat.le_refl _) w5 E _ _ (by omega) hK5 rfl rfl)⟩
  case stop =>
    intro D2 c2 k W hD2 hF
    exact hF.elim
/-- what a session is answered -/
theorem run_any (t : ByteArray) (w : World) (hr : ∀ W, Below w.heap.size w W → RT W ∧ HG W) :
    Calls Tryz.prog 14 #[.string t] w fun e w' => e = .returned (.string (runF t)) ∧ Below w.heap.size w w' := by
  by_cases ht : 3000 < t.size
  · have hv : runF t = cLong := if_pos ht
    rw [hv]
    have ht3 : (3000 : Int) < (t.size : Int) := by omega
    clear hv ht hr
    unfold cLong
    go_enter Tryz.func14, Tryz.ntmps14
    go_wp2_with fail
    go_ret
    exact ⟨rfl, Below.refl _ _⟩
  · have hv : runF t = (runL (lnB t)).1 := if_neg ht
    rw [hv]
    exact callsIn_wide.1 (run_inside t w hr (by omega))
end Go.Proofs.YtpgemofkolmabaaGreatDoor
namespace Go.Proofs.YtpgemofkolmabaaGreatDoor
set_option linter.unusedVariables false

def nl : ByteArray := ⟨#[10]⟩
def noL (p : ByteArray) : Prop := ∀ b ∈ p.data.toList, b ≠ 10
instance (p : ByteArray) : Decidable (noL p) := inferInstanceAs (Decidable (∀ b ∈ p.data.toList, b ≠ 10))
/-- lines, each with its end -/
def sess : List ByteArray → ByteArray
  | [] => ⟨#[]⟩
  | p :: r => p ++ (nl ++ sess r)
theorem app_list (a b : ByteArray) : (a ++ b).data.toList = a.data.toList ++ b.data.toList := by simp
theorem lnB_cons {p r : ByteArray} (h : noL p) : lnB (p ++ (nl ++ r)) = (p ++ nl) :: lnB r := by
  have e : (p ++ (nl ++ r)).data.toList = p.data.toList ++ 10 :: r.data.toList := by simp [nl]
  rw [lnB, e, lns_app _ _ h, List.map_cons, lnB]
  refine congrArg (· :: _) (bytes_eq ?_)
  simp [nl]
theorem lnB_sess : ∀ l : List ByteArray, (∀ p ∈ l, noL p) → lnB (sess l) = l.map (· ++ nl)
  | [], _ => lnB_nil rfl
  | p :: r, h => by rw [sess, lnB_cons (h p (by simp)), lnB_sess r fun q hq => h q (by simp [hq])]; rfl
theorem noEnd_nl (p : ByteArray) : noEnd (p ++ nl) = p := by
  refine bytes_eq ?_
  have e : (p ++ nl).data.toList = p.data.toList ++ [10] := by simp [nl]
  rw [noEnd, e]
  simp [Lib.trimSuffix, Lib.hasSuffix]
def stepG (x : ByteArray × List (List Va)) (p : ByteArray) : ByteArray × List (List Va) := (x.1 ++ ((lineF x.2 p).1 ++ nl), (lineF x.2 p).2)
theorem stepF_nl (x : ByteArray × List (List Va)) (p : ByteArray) : stepF x (p ++ nl) = stepG x p := by rw [stepF, noEnd_nl]; rfl
theorem runL_sess (l : List ByteArray) (h : ∀ p ∈ l, noL p) : runL (lnB (sess l)) = l.foldl stepG (⟨#[]⟩, []) := by
  rw [lnB_sess l h, runL, List.foldl_map]
  congr 1
  funext x p
  exact stepF_nl x p
theorem step_one {t0 : ByteArray} {L0 : List (List Va)} {p t : ByteArray} {L : List (List Va)} {r : List ByteArray} (h : lineF L0 p = (t, L)) : (p :: r).foldl stepG (t0, L0) = r.foldl stepG (t0 ++ (t ++ nl), L) := by
  rw [List.foldl_cons]
  show r.foldl stepG (t0 ++ ((lineF L0 p).1 ++ nl), (lineF L0 p).2) = _
  rw [h]
/-! ### words of a line -/
theorem pcsB_two {p r : ByteArray} (h : ∀ b ∈ p.data.toList, b ≠ 32) (h2 : ∀ b ∈ r.data.toList, b ≠ 32) : pcsB 32 (p ++ (⟨#[32]⟩ ++ r)) = [p, r] := by
  have e : (p ++ (⟨#[32]⟩ ++ r)).data.toList = p.data.toList ++ 32 :: r.data.toList := by simp
  rw [pcsB, e, pcs_app _ _ _ h, pcs_own _ _ h2]
  rfl
def vn (n : Int) : Va := ⟨0, n, ⟨#[]⟩⟩
def vs : Va := ⟨2, 0, ⟨#[]⟩⟩
theorem lin_one (v : Va) : lin [v] = wrd v := jn_one _ _
theorem va_in {n : Int} (h : -1000000 ≤ n ∧ n ≤ 1000000) : vaE (vn n) = 0 := by
  have h1 : ¬ ((vn n).k < 0 ∨ 2 < (vn n).k ∨ ((vn n).k = 0 ∧ ((vn n).n < -1000000 ∨ 1000000 < (vn n).n))) := by
    show ¬ ((0 : Int) < 0 ∨ (2 : Int) < 0 ∨ ((0 : Int) = 0 ∧ (n < -1000000 ∨ 1000000 < n)))
    omega
  rw [vaE, if_neg h1, if_neg (by rintro ⟨h, _⟩; exact absurd h (by simp [vn])), if_neg (by
    rintro (⟨h, _⟩ | ⟨_, h⟩ | h)
    · exact h rfl
    · exact absurd h (by show ¬ (0 : Nat) < (⟨#[]⟩ : ByteArray).size; decide)
    · exact absurd h (by show ¬ okS ⟨#[]⟩ = false; decide))]
theorem li_in {n : Int} (h : -1000000 ≤ n ∧ n ≤ 1000000) : liE [vn n] = 0 := by
  have e : lsE [vn n] 1 = vaE (vn n) := by
    show (if lsE [vn n] 0 ≠ 0 then lsE [vn n] 0 else vaE (va [vn n] 0)) = _
    rfl
  rw [liE, if_neg (by simp), if_neg (by simp)]
  exact e.trans (va_in h)
theorem tu_in {n : Int} (h : -1000000 ≤ n ∧ n ≤ 1000000) : tuE [vn n] = 0 := by
  rw [tuE, if_neg (by simp [li_in h]), if_neg]
  rw [Bool.not_eq_true, anyB_false]
  intro i hi
  obtain rfl : i = 0 := by simpa using hi
  show (0 : Int) ≠ 2
  decide
theorem lin_vn (n : Int) : lin [vn n] = itB n := by rw [lin_one]; rfl
theorem tp_in {n : Int} (h : -1000000 ≤ n ∧ n ≤ 1000000) : tpE (itB n) = 0 ∧ tpR (itB n) = [vn n] := by
  have := lin_back (li_in h)
  rw [lin_vn] at this
  exact ⟨this.1, this.2.1⟩
theorem itB_mem (n : Int) : ∀ b ∈ (itB n).data.toList, b ≠ 32 ∧ b ≠ 10 := fun b hb => by
  have := itoa_pln n b (by simpa [itB] using hb)
  exact ⟨pln_ne this (by decide), pln_ne this (by decide)⟩
def sp : ByteArray := ⟨#[32]⟩
def star : ByteArray := ⟨#[42]⟩
def sPut (x : ByteArray) : ByteArray := cPut ++ (sp ++ x)
theorem line_put (L : List (List Va)) {n : Int} (h : -1000000 ≤ n ∧ n ≤ 1000000) (hl : L.length < 20) : lineF L (sPut (itB n)) = (txOk, L ++ [[vn n]]) := by
  have e : pcsB 32 (sPut (itB n)) = [cPut, itB n] := pcsB_two (by decide) fun b hb => (itB_mem n b hb).1
  have w1 : wd (sPut (itB n)) = cPut := by rw [wd, e]; rfl
  have w2 : wr (sPut (itB n)) = [itB n] := by rw [wr, e]; rfl
  have g : gs [itB n] 0 = itB n := rfl
  have hw : wantN cPut = some 1 := by decide
  have hal : allB [itB n] = true := by simp [allB, (tp_in h).1]
  have hpe : putE L [vn n] = 0 := by rw [putE, if_neg (by simp [tu_in h]), if_neg (by omega)]
  have h1 : ¬ wantN cPut ≠ some [itB n].length := by rw [hw]; simp
  have h2 : ¬ cPut = cDeal := by decide
  have h3 : ¬ allB [itB n] = false := by rw [hal]; decide
  rw [lineF, w1, w2, lnT, lnK, lnL, if_neg h1, if_neg h1, if_neg h1, if_neg h2, if_neg h2, if_neg h2, if_neg h3, if_neg h3, if_neg h3, g, (tp_in h).2, dT, dE, dL, if_pos rfl, if_pos rfl, if_pos rfl, hpe, putL, if_pos hpe]
  rfl
def sTake : ByteArray := cTake ++ (sp ++ star)
theorem line_take (L : List (List Va)) : lineF L sTake = (saidB (lin (rT [vs] L)) (some (finE [vs] L)), rL [vs] L) := by
  have e : pcsB 32 sTake = [cTake, star] := by decide +kernel
  have w1 : wd sTake = cTake := by rw [wd, e]; rfl
  have w2 : wr sTake = [star] := by rw [wr, e]; rfl
  have g : gs [star] 0 = star := rfl
  have hw : wantN cTake = some 1 := by decide
  have hte : tpE star = 0 := by decide +kernel
  have htr : tpR star = [vs] := by decide +kernel
  have hal : allB [star] = true := by simp [allB, hte]
  have h1 : ¬ wantN cTake ≠ some [star].length := by rw [hw]; simp
  have h2 : ¬ cTake = cDeal := by decide
  have h3 : ¬ allB [star] = false := by rw [hal]; decide
  have h4 : ¬ cTake = cPut := by decide
  have h5 : cTake = cRead ∨ cTake = cTake := .inr rfl
  rw [lineF, w1, w2, lnT, lnK, lnL, if_neg h1, if_neg h1, if_neg h1, if_neg h2, if_neg h2, if_neg h2, if_neg h3, if_neg h3, if_neg h3, g, htr, dT, dE, dL, if_neg h4, if_neg h4, if_neg h4, if_pos h5, if_pos h5, if_pos rfl]
theorem take_none : lineF [] sTake = (nmB 5, []) := by
  rw [line_take]
  have : finE [vs] [] = 5 := by decide +kernel
  rw [this, rL, if_neg (by rw [this]; decide)]
  rfl
theorem take_first {n : Int} (h : -1000000 ≤ n ∧ n ≤ 1000000) (L : List (List Va)) : lineF ([vn n] :: L) sTake = (itB n, L) := by
  have hk : plc [vs] ([vn n] :: L) = 0 := by
    refine idx_some (k := 1) ?_ (by simp)
    have : fitB [vs] (gg ([vn n] :: L) 0) = true := by
      rw [fitB_true]
      refine ⟨rfl, fun i hi => ?_⟩
      obtain rfl : i = 0 := by simpa [gg] using hi
      exact decide_eq_true (.inl rfl)
    simp only [fst']
    rw [this]
    rfl
  have hf : finE [vs] ([vn n] :: L) = 0 := by
    have : liE [vs] = 0 := by decide +kernel
    rw [finE, if_neg (by simp [this]), hk, if_neg (by decide)]
  rw [line_take, hf, rT, if_pos hf, rL, if_pos hf, hk]
  refine Prod.ext ?_ rfl
  show lin [vn n] = itB n
  exact lin_vn n
def tk1 : ByteArray := sess [sTake]
theorem size_sess_cons (p : ByteArray) (r : List ByteArray) : (sess (p :: r)).size = p.size + (1 + (sess r).size) := by rw [sess, ByteArray.size_append, ByteArray.size_append]; rfl
theorem run_none : runF tk1 = sess [nmB 5] := by
  rw [runF, if_neg (by decide), tk1, runL_sess _ (by intro p hp; rw [List.mem_singleton.1 hp]; decide)]
  rw [step_one take_none]
  exact bytes_eq rfl
theorem itB_small {n : Int} (h : -1000000 ≤ n ∧ n ≤ 1000000) : (itB n).size ≤ 110 := by
  have := (lin_back (li_in h)).2.2.1
  rw [lin_vn] at this
  exact this
set_option maxHeartbeats 800000 in
theorem run_takes {a b : Int} (ha : -1000000 ≤ a ∧ a ≤ 1000000) (hb : -1000000 ≤ b ∧ b ≤ 1000000) : runF (sess [sPut (itB a), sPut (itB b), sTake, sTake, sTake]) = sess [txOk, txOk, itB a, itB b, nmB 5] := by
  have za := itB_small ha
  have zb := itB_small hb
  have hz : ∀ n : Int, (sPut (itB n)).size = 4 + (itB n).size := fun n => by rw [sPut, ByteArray.size_append, ByteArray.size_append]; show 3 + (1 + _) = _; omega
  have hs : ¬ 3000 < (sess [sPut (itB a), sPut (itB b), sTake, sTake, sTake]).size := by
    rw [size_sess_cons, size_sess_cons, hz, hz]
    have : (sess [sTake, sTake, sTake]).size = 21 := by decide
    omega
  have hn : ∀ n : Int, noL (sPut (itB n)) := fun n b hb => by
    rw [sPut, app_list, app_list] at hb
    rcases List.mem_append.1 hb with hb | hb
    · exact (show noL cPut by decide) b hb
    · rcases List.mem_append.1 hb with hb | hb
      · exact (show noL sp by decide) b hb
      · exact (itB_mem n b hb).2
  have ht : noL sTake := by decide
  rw [runF, if_neg hs, runL_sess _ (by
    intro p hp
    simp only [List.mem_cons, List.not_mem_nil, or_false] at hp
    rcases hp with rfl | rfl | rfl | rfl | rfl
    · exact hn a
    · exact hn b
    all_goals exact ht)]
  rw [step_one (line_put [] ha (by decide)), List.nil_append]
  rw [step_one (line_put [[vn a]] hb (by decide : 1 < 20)), show [[vn a]] ++ [[vn b]] = [[vn a], [vn b]] from rfl]
  rw [step_one (take_first ha _)]
  rw [step_one (take_first hb _)]
  rw [step_one take_none]
  refine bytes_eq ?_
  rw [List.foldl_nil]
  simp [sess]
end Go.Proofs.YtpgemofkolmabaaGreatDoor
namespace Go.Proofs.YtpgemofkolmabaaGreatDoor
open Go.ChangeShapes Go.WideShapes Go.RowKit Go.Lib

/-- one type alone bears that name -/
theorem typeName_named {P : Program} {nm : String} {tp : TypeId}
    (hrows : ((List.range P.types.size).all fun u => P.typeName? 3 u != some nm || u == tp) = true)
    (hstar : nm.toList.head? ≠ some '*')
    (u : TypeId) (hu : P.typeName? 3 u = some nm) : u = tp := by
  by_cases hlt : u < P.types.size
  · have := List.all_eq_true.1 hrows u (List.mem_range.2 hlt)
    simpa [hu] using this
  · exfalso
    unfold Program.typeName? at hu
    cases hi : P.info? u with
    | none => simp [hi] at hu
    | some i =>
      have hb := Tables.info?_beyond hlt hi
      simp only [hi] at hu
      cases hd : i.desc <;> simp only [hd, TypeDesc.tableOnly] at hu hb <;> try cases hb
      all_goals try cases hu
      simp only [Option.map_eq_some_iff] at hu
      obtain ⟨n', _, hs⟩ := hu
      apply hstar
      rw [← hs]
      simp [String.toList_append]
theorem doorR.gU : Tryz.prog.globalNamed "tuplestead/run.unread" = some 0 := by kernel_rfl
theorem doorR.tU : (Tryz.prog.globals[0]?).map (·.type) = some 155 := by kernel_rfl
theorem doorR.row (u : TypeId) (h : Tryz.prog.typeName? 3 u = some "tuplestead/api.Errno") : u = 89 := typeName_named (by kernel_rfl) (by decide) u h
theorem doorR.cE : Tryz.prog.cellsOf 24 = 1 := by kernel_rfl
theorem doorR.cB : Tryz.prog.cellsOf 155 = 1 := by kernel_rfl
set_option maxRecDepth 100000 in
theorem ur_of_head {W : World} {r : List (String × DataW Unit)} (h : laidMet Tryz.prog (("tuplestead/run.unread", Rows.laid_tuplestead_run_unread) :: r) W) : UR W := by
  obtain ⟨ps, ⟨g0, t0, cs0, f0, p0, q0, hg0, ht0, hv0, hd0, _, e0⟩, _, hrows⟩ := h
  obtain rfl := Option.some.inj (doorR.gU.symm.trans hg0)
  obtain rfl := Option.some.inj (doorR.tU.symm.trans ht0)
  subst e0
  obtain ⟨l0⟩ := cs0
  have hd1 : DataW.trod _ Tryz.prog W 0 _ false f0 155 l0 = some (.agg [.iface "tuplestead/api.Errno" (.lit (.int .i64 2))], p0) := hd0
  obtain ⟨y0, n, hx, hl, hy⟩ := trod_struct1 Tryz.underlying155 hd1
  rw [doorR.cB] at hl
  obtain ⟨c, rfl⟩ : ∃ c, l0 = [c] := by
    match l0, hl with
    | [c], _ => exact ⟨c, rfl⟩
  have hy' : DataW.trod _ Tryz.prog W 0 _ false n 24 [c] = some y0 := hy
  simp only [Prod.mk.injEq, DataW.agg.injEq, List.cons.injEq, and_true] at hx
  obtain ⟨y1, y2⟩ := y0
  obtain ⟨rfl, rfl⟩ := hx
  obtain ⟨f1, u, v, hc, hn, h1⟩ := iface_of_trod Tryz.underlying24 hy'
  obtain rfl := (List.cons.inj hc).1
  obtain rfl := doorR.row u hn
  obtain ⟨z, hz, e1, _⟩ := DataW.trod_int Tryz.underlying89 h1
  have e1' := congrArg Prod.fst e1
  simp only [DataW.lit.injEq, Lit.int.injEq, true_and] at e1'
  subst e1'
  have hcell : W.cell? ⟨0, 0, none⟩ = some (.iface 89 v) := by simpa using World.var?_cell doorR.gU hv0 0
  have ok := (hrows 0 0 (by simp [MemPlace.row])).2 _ _ hcell
  have hv : v = .int .i64 2 := by
    unfold Value.okWide at ok
    simp only [Tryz.underlying89] at ok
    unfold Cell.okWide at ok
    cases v <;> simp [Value.cells, Cell.ok, Tryz.underlying89] at ok hz
    obtain ⟨rfl, rfl⟩ := hz
    rfl
  rw [hv] at hcell
  exact hcell
abbrev laidRd : List (String × DataW Unit) := [("math/bits.deBruijn32tab", Rows.laid_math_bits_deBruijn32tab), ("math/bits.deBruijn64tab", Rows.laid_math_bits_deBruijn64tab), ("internal/strconv.uint64pow10", Rows.laid_internal_strconv_uint64pow10), ("unicode/utf8.acceptRanges", Rows.laid_unicode_utf8_acceptRanges), ("strconv.ErrRange", Rows.laid_strconv_ErrRange), ("strconv.ErrSyntax", Rows.laid_strconv_ErrSyntax), ("tuplestead/run.unread", Rows.laid_tuplestead_run_unread), ("unicode/utf8.first", Rows.laid_unicode_utf8_first)]
theorem rt_of_met {W : World} (h' : laidMet Tryz.prog laidRd W) : RT W :=
  ⟨tt_of_head h'.tail.tail, ee_of_met h'.tail.tail.tail.tail, ur_of_head h'.tail.tail.tail.tail.tail.tail⟩
abbrev laidR : List (String × DataW Unit) := [("math/bits.deBruijn32tab", Rows.laid_math_bits_deBruijn32tab), ("math/bits.deBruijn64tab", Rows.laid_math_bits_deBruijn64tab), ("internal/strconv.uint64pow10", Rows.laid_internal_strconv_uint64pow10), ("unicode/utf8.acceptRanges", Rows.laid_unicode_utf8_acceptRanges), ("errors.errorType", Rows.laid_errors_errorType), ("strconv.ErrRange", Rows.laid_strconv_ErrRange), ("strconv.ErrSyntax", Rows.laid_strconv_ErrSyntax), ("tuplestead/run.unread", Rows.laid_tuplestead_run_unread), ("unicode/utf8.first", Rows.laid_unicode_utf8_first)]
/-- what a session's walk is handed -/
theorem tr_of_laid {W : World} (h : laidMetH Tryz.prog laidR W) : ∀ W', Below W.heap.size W W' → RT W' ∧ HG W' := by
  have h' : laidMet Tryz.prog laidRd W ∧ handlesMet Tryz.prog laidL W := h
  have hh := handle_of_laid (show laidMet Tryz.prog [] W ∧ handlesMet Tryz.prog laidL W from ⟨laidMet_nil _ _, h'.2⟩)
  exact fun W' hb => ⟨(rt_of_met h'.1).below hb, hh.below hb⟩
noncomputable def laidWorldR (os : Os) : World := (laidWorld os).layVars Tryz.prog laidRd
theorem laidWorldR_met (os : Os) (args : Array Value) : laidMetH Tryz.prog laidR ((laidWorldR os).forCall (fun _ _ => 0) ⟨#[], args, []⟩).memory := by
  refine laidMetH_of_parts ?_ (by kernel_rfl)
  show laidMet Tryz.prog laidRd _
  have e1 : (laidRd.filter fun x => (laidRd.map (·.1)).contains x.1) = laidRd := by kernel_rfl
  have e2 : (laidRd.filter fun x => !(laidRd.map (·.1)).contains x.1) = [] := by kernel_rfl
  have h : laidMet Tryz.prog laidRd (laidWorldR os) := laidMet_layVars (w0 := laidWorld os) (laidRd.map (·.1)) [] (by rw [e1]; rfl) (by rw [e1]; kernel_rfl) (by rw [e1]; kernel_rfl) (by rw [e2]; exact LaidIn.none)
  exact h.of_heap (by simp [World.memory, World.forCall, Input.heap])
theorem laidWorldR_shaped (os : Os) (args : Array Value) : ((laidWorldR os).forCall (fun _ _ => 0) ⟨#[], args, []⟩).Shaped Tryz.prog :=
  World.shaped_of_ZipB (by kernel_rfl) (by kernel_rfl)
end Go.Proofs.YtpgemofkolmabaaGreatDoor
