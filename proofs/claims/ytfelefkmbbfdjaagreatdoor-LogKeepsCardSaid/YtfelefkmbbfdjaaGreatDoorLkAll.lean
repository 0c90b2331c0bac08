/- The reference's copy: Twin; append of all that a slice holds, to a slice that is none. A log, and the copies that are kept beside it. What each function of a log does, with the copies beside it in mind. LogStops: what is told, and what has been done: plain laws. LogKeeps: what is left behind a crash, and the fact at the head: plain laws. LogKeeps: what holds between two deeds; the parts of the law's text. -/
import Derived.Test.YtfelefkmbbfdjaaGreatDoorRcAll
import Derived.WalkKit
import Derived.WalkLawsBesides
import Derived.WalkSpells
import Derived.RegionTactic
import Derived.Deep.QuietTactic
import Derived.BigQuiet
import Derived.BigRegion
import Derived.Deep.RegionLaw
import Derived.Test.YtfelefkmbbfdjaaGreatDoorLsLog
import Derived.Test.YtfelefkmbbfdjaaGreatDoorLgAll2
namespace Go.Proofs.YtfelefkmbbfdjaaGreatDoor
open Go.ChangeShapes Go.WideShapes Go.ChangeAt Go.RowKit Go.Joins Go.Deep
set_option linter.unusedVariables false
/-- append of all that a slice holds, to a slice that is none -/
theorem run_append_nil {w : World} (t ty : TypeId) (e : TypeId) (i : TypeInfo) (z : Value) (size bytes : Nat) (ht : Tryz.prog.underlying t = some (.slice e)) (hi : Tryz.prog.info? e = some i) (hz : i.zero = some z)
    (hsize : i.size = size) (hby : i.bytes = bytes) (hzs : z.cells.size = size) (hsz : 0 < size)
    (A2 : Option Addr) (m c2 : Nat) (news : List Value) (hl : news.length = m * size) (hnews : 0 < m → ∃ b off, A2 = some ⟨b, off, none⟩ ∧ ∀ j u, news[j]? = some u → w.cell? ⟨b, off + j, none⟩ = some u) (h1 : ∀ u ∈ news, u.oneCell' = true)
    (h63 : m ≤ maxLen) (hbytes : m * bytes ≤ 140737488355328) :
    ∃ A' c' w', (Builtin.append_ #[t, t] ty #[.slice none 0 0, .slice A2 m c2]).run Tryz.prog w = .ok (.slice A' m c') w' ∧ w'.ownsRow w.heap.size e size (.slice A' m c') m news ∧ Below w.heap.size w w' := by
  cases A2 with
  | none =>
    have hm : m = 0 := by
      rcases Nat.eq_zero_or_pos m with h0 | h0
      · exact h0
      · obtain ⟨b, off, e, _⟩ := hnews h0; cases e
    subst hm
    have hnn : news = [] := List.eq_nil_of_length_eq_zero (by rw [hl]; simp)
    subst hnn
    exact ⟨none, 0, w, run_append_of_nil w w.heap.size t ty e i size ht hi _ 0 [] (World.ownsRow_nil w _ e size) c2, World.ownsRow_nil w _ e size, Below.refl _ _⟩
  | some ad =>
    obtain ⟨v', w', hr, h2, h3, _⟩ := run_append_own (P := Tryz.prog) w w.heap.size t ty e i z size bytes ht hi hz hsize hby hzs hsz (.slice none 0 0) 0 [] (World.ownsRow_nil w _ e size) ad m c2 news hl (fun j u hj => by
      rcases Nat.eq_zero_or_pos m with h0 | h0
      · subst h0
        have hnn : news = [] := List.eq_nil_of_length_eq_zero (by rw [hl]; simp)
        subst hnn; simp at hj
      · obtain ⟨b, off, e, hc⟩ := hnews h0
        obtain rfl := Option.some.inj e
        rw [Go.WideShapes.add_plain]
        exact hc j u hj) h1 (by rw [Nat.zero_add]; exact h63) (by rw [Nat.zero_add]; exact hbytes) (Nat.le_refl _)
    rw [Nat.zero_add, List.nil_append] at h2
    obtain ⟨A', c', rfl⟩ := own_form h2
    exact ⟨A', c', w', hr, h2, h3.os, h3.tape, h3.output, h3.size, fun b hb => h3.block b hb (by simp [Value.ownBlock])⟩
theorem step_append_nil {w : World} {ops : Array Oper} {o : Oper} {a : Act} {K : Act → World → Prop} {Q : Exit → Act → World → Prop} {E : Prop} (hgd : o.guard = none) (s x : Operand) (t : TypeId)
    (ho : o.op = .call { callee := .builtin .append, args := #[s, x], argTypes := #[t, t] })
    (e : TypeId) (z : Value) (size bytes : Nat) (ht : Tryz.prog.underlying t = some (.slice e)) (hi : (Tryz.prog.info? e).map (fun i => (i.zero, i.size, i.bytes)) = some (some z, size, bytes)) (hzs : z.cells.size = size) (hsz : 0 < size)
    (hs : a.eval s = .slice none 0 0) (A2 : Option Addr) (m c2 : Nat) (news : List Value) (hx : a.eval x = .slice A2 m c2)
    (hl : news.length = m * size) (hnews : 0 < m → ∃ b off, A2 = some ⟨b, off, none⟩ ∧ ∀ j u, news[j]? = some u → w.cell? ⟨b, off + j, none⟩ = some u) (h1 : ∀ u ∈ news, u.oneCell' = true)
    (hn : m ≤ 1000000) (hby : bytes ≤ 1000000)
    (h : ∀ A' c' w', w'.ownsRow w.heap.size e size (.slice A' m c') m news → Below w.heap.size w w' → K (a.put o.dst (.slice A' m c')) w') :
    if Region.wanted o (yielded ops a.tmps) = true then Oper.wp Tryz.prog o a w K Q else E := by
  have hw : Region.wanted o (yielded ops a.tmps) = true := by simp [Region.wanted, hgd]
  rw [if_pos hw]
  obtain ⟨i0, hi0, hz0, hz1, hz2⟩ := info_parts hi
  have hb : m * bytes ≤ 1000001 * 1000000 := Nat.mul_le_mul (by omega) hby
  obtain ⟨A', c', w', hr, h2, h3⟩ := run_append_nil t o.type e i0 z size bytes ht hi0 hz0 hz1 hz2 hzs hsz A2 m c2 news hl hnews h1 (by unfold maxLen; omega) (by omega)
  unfold Oper.wp execOp
  simp only [ho, resolve, invoke, builtin, Sem.run_bind, Sem.run_pure, Result.andThen_ok, List.map_toArray, List.map_cons, List.map_nil, hs, hx, hr]
  exact h A' c' w' h2 h3
section
variable {w : World} {base p q : Nat} {g h : Option Nat} {R : List Ru} {s : Cs}
/-- tuples that are the elder ones, in an array of its own -/
theorem omany_copy {w' : World} {A : Option Addr} {c : Nat} {L : List (List Va)} (hbs : base ≤ w.heap.size) (vs : List Value) (h2 : ∀ i, i < L.length → ∃ B C, vs[i]? = some (.slice B (gg L i).length C) ∧ Vals w B (gg L i) ∧ (gg L i).length ≤ C ∧ C ≤ maxLen ∧ Inn w base 31 B)
    (ho : w'.ownsRow w.heap.size 32 1 (.slice A L.length c) L.length vs) (hb : Below w.heap.size w w') : OMany Vals 32 31 w' base A c L := by
  refine ⟨vs, own_mono ho hbs, fun i hi => ?_⟩
  obtain ⟨B, C, e1, q, m1, m2, m3⟩ := h2 i hi
  have hst : ∀ a, B = some a → w'.heap[a.block]? = w.heap[a.block]? := fun a ha => hb.block _ (m3.lt hbs ha)
  exact ⟨B, C, e1, vals_stay _ _ _ _ hb.size hst q, m1, m2, m3.stay hst⟩
theorem rcp_fresh (j : RCp w base p q none none R Cs.zero) : ∃ RA rc, AtB w p #[.slice RA R.length rc, .pointer (some ⟨q, 0, none⟩), .slice none 0 0, .int .i64 0] 55 ∧ RIn w base RA R ∧ AtB w q #[.slice none 0 0] 74 := by
  obtain ⟨RA, rc, A, c, D, h1, h2, h3, h4, h5, h6⟩ := j.there
  obtain ⟨E, ec, k1, k2, k3⟩ := j.spc.there
  have hd : D = [] := List.eq_nil_of_length_eq_zero h5
  subst hd
  have e1 : Value.slice A 0 c = .slice none 0 0 := by
    rcases h4.2 with ⟨e, _⟩ | ⟨g, off, c', e, _⟩
    · exact e
    · rw [e] at h2; simp [Value.ownBlock] at h2
  obtain ⟨vs, o1, _⟩ := k3
  have e2 : Value.slice E 0 ec = .slice none 0 0 := by
    rcases o1.2 with ⟨e, _⟩ | ⟨g, cap, cur, e, _⟩
    · exact e
    · have k2' : (Value.slice E ([] : List (List Va)).length ec).ownBlock = none := k2
      rw [show Value.slice E ([] : List (List Va)).length ec = _ from e] at k2'
      simp [Value.ownBlock] at k2'
  refine ⟨RA, rc, ?_, h3, ?_⟩
  · rw [← e1]; exact h1
  · rw [← e2]; exact k1
theorem dn_one (D : List Dn) : ∀ u ∈ dnCells D, u.oneCell' = true := fun u hu => by
  obtain ⟨d, _, hd⟩ := List.mem_flatMap.1 hu
  simp only [dnc, List.mem_cons, List.not_mem_nil, or_false] at hd
  rcases hd with rfl | rfl | rfl <;> rfl
/-- behind the stores the twin is there -/
theorem rctwin_end {w w1 w2 w3 : World} {p' q' : Nat} {RA : Option Addr} {rc : Nat} {A5 A4 : Option Addr} {c5 c4 : Nat} {D : List Dn} {v0 : Value} (hb : base ≤ w.heap.size) (h01 : Below w.heap.size w w1) (z1 : w.heap.size ≤ p') (z2 : w.heap.size ≤ q')
    (hP : AtB w1 p' #[.slice RA R.length rc, .pointer (some ⟨q', 0, none⟩), .slice none 0 0, .int .i64 0] 55) (hQ : AtB w1 q' #[v0] 74) (hR : RIn w1 base RA R) (hr : rulE R = 0) (ho : okR R) (hok : Cok s) (hL : s.L.length ≤ 20) (hLo : ∀ l ∈ s.L, okL l ∧ tuE l = 0)
    (h12 : Below w1.heap.size w1 w2) (hO : OMany Vals 32 31 w2 base A4 c4 s.L) (hO4 : ∀ b, (Value.slice A4 s.L.length c4).ownBlock = some b → w1.heap.size ≤ b)
    (h23 : Below (w2.setCell ⟨q', 0, none⟩ (.slice A4 s.L.length c4)).heap.size (w2.setCell ⟨q', 0, none⟩ (.slice A4 s.L.length c4)) w3) (hD : Win w3 w1.heap.size 83 3 (.slice A5 D.length c5) D.length (dnCells D)) (h5 : D.length = s.n) (h6 : ∀ x, lastN D x D.length = s.F x) :
    RCp ((w3.setCell ⟨p', 2, none⟩ (.slice A5 D.length c5)).setCell ⟨p', 3, none⟩ (.int .i64 s.n)) base p' q' (Value.slice A4 s.L.length c4).ownBlock (Value.slice A5 D.length c5).ownBlock R s ∧ Below w.heap.size w ((w3.setCell ⟨p', 2, none⟩ (.slice A5 D.length c5)).setCell ⟨p', 3, none⟩ (.int .i64 s.n)) ∧ ∀ b, RCM p' q' (Value.slice A4 s.L.length c4).ownBlock (Value.slice A5 D.length c5).ownBlock b → w.heap.size ≤ b := by
  have hb1 : base ≤ w1.heap.size := Nat.le_trans hb h01.size
  have hb2 : base ≤ w2.heap.size := Nat.le_trans hb1 h12.size
  have hpq : p' ≠ q' := fun e => absurd (kin.ne hP.kin (e ▸ hQ.kin)) (by decide)
  have hP2 := hP.below h12 hP.lt
  have hQ2 := hQ.below h12 hQ.lt
  have hS := rsp_store hQ2 (Nat.le_trans hb z2) hb2 hO rfl hL hLo
  have kS := Chs.set w2 ⟨q', 0, none⟩ (.slice A4 s.L.length c4)
  have hPs : AtB (w2.setCell ⟨q', 0, none⟩ (.slice A4 s.L.length c4)) p' #[.slice RA R.length rc, .pointer (some ⟨q', 0, none⟩), .slice none 0 0, .int .i64 0] 55 := hP2.far hpq _
  have hRs : RIn (w2.setCell ⟨q', 0, none⟩ (.slice A4 s.L.length c4)) base RA R := (hR.keep hb1 h12).stay hb2 kS.size fun b hb' hx => kS.block b hb' fun e => by
    have e : b = q' := e
    subst e
    rcases hx with hx | hx
    · omega
    · exact absurd (kin.ne hx hQ2.kin) (by decide)
  generalize hw2 : w2.setCell ⟨q', 0, none⟩ (.slice A4 s.L.length c4) = ws at *
  have hbs : base ≤ ws.heap.size := Nat.le_trans hb2 kS.size
  have hS3 := hS.keep h23
  have hP3 := hPs.below h23 hPs.lt
  have hR3 := hRs.keep hbs h23
  have h04 : Below w.heap.size w w3 := bcl (h01.trans ((h12.mono h01.size).trans (kS.below (fun b e => by have e : b = q' := e; omega) (Nat.le_trans h01.size h12.size)))) h23
  have hP4 := (hP3.set 2 (.slice A5 D.length c5)).set 3 (.int .i64 s.n)
  have k4 : Chs (fun b => b = p') w3 ((w3.setCell ⟨p', 2, none⟩ (.slice A5 D.length c5)).setCell ⟨p', 3, none⟩ (.int .i64 s.n)) := (Chs.set w3 ⟨p', 2, none⟩ _).trans (Chs.set _ ⟨p', 3, none⟩ _) fun b e => .inl e
  generalize hw4 : (w3.setCell ⟨p', 2, none⟩ (.slice A5 D.length c5)).setCell ⟨p', 3, none⟩ (.int .i64 s.n) = w4 at *
  have hb3 : base ≤ w3.heap.size := Nat.le_trans hbs h23.size
  have hg : ∀ b, (Value.slice A4 s.L.length c4).ownBlock = some b → b ≠ p' := fun b hb' e => by subst e; exact absurd (kin.ne (hS3.gkin hb').2 hP3.kin) (by decide)
  refine ⟨⟨⟨RA, rc, A5, c5, D, hP4, rfl, hR3.stay hb3 k4.size fun b hb' hx => k4.block b hb' fun e => ?_, ?_, h5, h6⟩, hS3.far k4 fun b e => ?_, Nat.le_trans hb z1, hr, ho, hok⟩, h04.trans (k4.below (fun b e => by rw [e]; exact z1) h04.size), fun b hb' => ?_⟩
  · subst e
    rcases hx with hx | hx
    · omega
    · exact absurd (kin.ne hx hP3.kin) (by decide)
  · have hw : Win w3 base 83 3 (.slice A5 D.length c5) D.length (dnCells D) := by
      refine ⟨hD.1, hD.2.imp id ?_⟩
      rintro ⟨g, off, c, e1, e2, e3⟩
      exact ⟨g, off, c, e1, Nat.le_trans hb1 e2, e3⟩
    exact hw.stay fun g hg' => k4.block g (hw.block hg').2.lt fun e => by subst e; exact absurd (kin.ne (hw.block hg').2 hP3.kin) (by decide)
  · subst e
    exact ⟨Nat.le_trans hb z1, fun hk => absurd (kin.ne hk hP3.kin) (by decide), hpq, fun e => hg _ e rfl⟩
  · rcases hb' with rfl | rfl | hb' | hb'
    · exact z1
    · exact z2
    · exact Nat.le_trans h01.size (hO4 b hb')
    · exact Nat.le_trans h01.size (hD.block hb').1
set_option maxHeartbeats 3200000 in
set_option maxRecDepth 100000 in
theorem rctwin_any (hC : RCp w base p q g h R s) (hn : s.n ≤ 1000000) :
    Calls Tryz.prog 15 #[.pointer (some ⟨p, 0, none⟩)] w fun e w' => ∃ p' q' g' h', e = .returned (.pointer (some ⟨p', 0, none⟩)) ∧ RCp w' base p' q' g' h' R s ∧ Below w.heap.size w w' ∧ ∀ b, RCM p' q' g' h' b → w.heap.size ≤ b := by
  obtain ⟨RA, rc, A, c, D, h1, h2, h3, h4, h5, h6⟩ := hC.there
  obtain ⟨E, ec, k1, k2, k3⟩ := hC.spc.there
  obtain ⟨vs, hvl, how, hvs⟩ := k3.two
  have hone : ∀ u ∈ vs, u.oneCell' = true := fun u hu => by
    obtain ⟨i, hi, e⟩ := List.mem_iff_getElem.1 hu
    obtain ⟨B, C, e1, _⟩ := hvs i (by omega)
    rw [List.getElem?_eq_getElem hi, e] at e1
    injection e1 with e1
    rw [e1]; rfl
  have hn1 := fun (W : World) (hW : Below w.heap.size w W) => (show 0 < s.L.length → ∃ b off, E = some ⟨b, off, none⟩ ∧ ∀ j u, vs[j]? = some u → W.cell? ⟨b, off + j, none⟩ = some u from fun h0 => by
    obtain ⟨g1, cap, hv, hg1, hlt⟩ := how.form h0
    injection hv with hE
    refine ⟨g1, 0, hE, fun j u hj => ?_⟩
    have := how.cells (g := g1) (by rw [hE]; rfl) j u hj
    rw [Addr.add_lit] at this
    exact (hW.cell (p := ⟨g1, 0 + j, none⟩) (lt_of_cell this)).trans this)
  have hn2 := fun (W : World) (hW : Below w.heap.size w W) => (show 0 < D.length → ∃ b off, A = some ⟨b, off, none⟩ ∧ ∀ j u, (dnCells D)[j]? = some u → W.cell? ⟨b, off + j, none⟩ = some u from fun h0 => by
    obtain ⟨g1, off, c', hv, _, hc⟩ := h4.at_ h0
    injection hv with hE
    exact ⟨g1, off, hE, fun j u hj => (hW.cell (p := ⟨g1, off + j, none⟩) (lt_of_cell (hc j u hj))).trans (hc j u hj)⟩)
  have cn := fun (W : World) (hW : Below w.heap.size w W) => rcnew_any (w := W) (base := base) (Nat.le_trans hC.hb hW.size) RA rc R (h3.keep hC.hb hW) hC.rul hC.okr
  have p0 : w.cell? ⟨p, 0, none⟩ = some (.slice RA R.length rc) := h1.cell rfl
  have CN := Lib.hid cn; have HC := Lib.hid hC; have H1 := Lib.hid h1; have K1 := Lib.hid k1; have H6 := Lib.hid h6; have H5 := Lib.hid h5
  have HVL := Lib.hid hvl; have HONE := Lib.hid hone; have HN1 := Lib.hid hn1; have HN2 := Lib.hid hn2; have HVS := Lib.hid hvs
  have hD : D.length ≤ 1000000 := by omega
  have hL := hC.spc.len
  have hL6 : s.L.length ≤ 1000000 := by omega
  have hdl := dnCells_length D
  have HDL := Lib.hid hdl
  clear cn hC h1 h2 h3 h4 h5 h6 k1 k2 k3 hn hvl hone hn1 hn2 hvs how hdl
  go_enter Tryz.func15, Tryz.ntmps15
  go_wp2_with fail
  refine (CN.out _ (Below.refl _ _)).mono ?_
  rintro e w1 ⟨p', q', rfl, hC1, hb1, z1, z2⟩
  obtain ⟨RA1, rc1, i1, i2, i3⟩ := rcp_fresh hC1
  have HP := Lib.hid i1; have HQ := Lib.hid i3; have HRI := Lib.hid i2; have HC1 := Lib.hid hC1
  have u0 := i1.cell (i := 0) rfl; have u1 := i1.cell (i := 1) rfl; have u2 := i1.cell (i := 2) rfl; have u3 := i1.cell (i := 3) rfl; have v0 := i3.cell (i := 0) rfl
  have c1' := (hb1.cell (p := ⟨p, 1, none⟩) H1.out.lt).trans (H1.out.cell (i := 1) rfl)
  have c2' := (hb1.cell (p := ⟨p, 2, none⟩) H1.out.lt).trans (H1.out.cell (i := 2) rfl)
  have c3' := (hb1.cell (p := ⟨p, 3, none⟩) H1.out.lt).trans (H1.out.cell (i := 3) rfl)
  have d0' := (hb1.cell (p := ⟨q, 0, none⟩) K1.out.lt).trans (K1.out.cell (i := 0) rfl)
  have lp := i1.lt; have lq := i3.lt
  have HB1 := Lib.hid hb1
  clear i1 i2 i3 hC1 hb1
  go_upto_region 2 with fail
  go_cut [3] (fun s3 wx => s3 = .pointer (some ⟨p', 0, none⟩) ∧ ∃ A4 c4 w4, wx = w4.setCell ⟨q', 0, none⟩ (.slice A4 s.L.length c4) ∧ Hid (Below w1.heap.size w1 w4) ∧ Hid (w4.ownsRow w1.heap.size 32 1 (.slice A4 s.L.length c4) s.L.length vs))
  case first =>
    go_region_law (refine step_append_nil rfl _ _ 72 rfl 32 _ 1 24 Tryz.underlying72 infoVals rfl (by decide) rfl E s.L.length ec vs rfl (by rw [Nat.mul_one]; exact HVL.out) (HN1.out _ (by first | exact bdr HB1.out | exact HB1.out)) HONE.out hL6 (by decide) ?_; intro A4 c4 w4 ho4 hb4; have hb5 : Below w1.heap.size w1 w4 := bcl (by first | exact bdr (Below.refl _ _) | exact Below.refl _ _) hb4; have P4 := HQ.out.below hb5 lq; have y1 := (HP.out.below hb5 lp).cell (i := 1) rfl; have f4 := P4.frozen 0; have k4 := P4.cell (i := 0) rfl; have HB4 := Lib.hid hb5; have HO4 : Hid (w4.ownsRow w1.heap.size 32 1 (.slice A4 s.L.length c4) s.L.length vs) := Lib.hid ho4; clear ho4 hb4 hb5 P4)
    all_goals
      go_wp2_with fail
      go_meet
      case rel => exact ⟨rfl, A4, c4, w4, rfl, HB4, HO4⟩
  case rest =>
    obtain ⟨rfl, A4, c4, w4, hw4, HB4, HO4⟩ := hcut
    obtain ⟨ws, hw⟩ : ∃ v : World, v = wc := ⟨_, rfl⟩
    subst hw
    have hbs : Below w.heap.size w ws := by rw [hw4]; exact bset (bcl HB1.out HB4.out) z2 _
    have hpq : p' ≠ q' := fun e => absurd (kin.ne HP.out.kin (e ▸ HQ.out.kin)) (by decide)
    have PS : AtB ws p' #[.slice RA1 R.length rc1, .pointer (some ⟨q', 0, none⟩), .slice none 0 0, .int .i64 0] 55 := by rw [hw4]; exact (HP.out.below HB4.out lp).far hpq _
    have ls := PS.lt
    have HPS := Lib.hid PS; have HBS := Lib.hid hbs; have HW4 := Lib.hid hw4
    clear u0 u1 u2 u3 v0 c1' c2' c3' d0' lp lq hw4 p0
    have u2 := PS.cell (i := 2) rfl
    have c2' := (hbs.cell (p := ⟨p, 2, none⟩) H1.out.lt).trans (H1.out.cell (i := 2) rfl)
    clear PS hbs
    go_upto_region 3 with fail
    go_cut [3] (fun s3 wx => s3 = .pointer (some ⟨p', 0, none⟩) ∧ ∃ A5 c5 w5, wx = w5.setCell ⟨p', 2, none⟩ (.slice A5 D.length c5) ∧ Hid (Below ws.heap.size ws w5) ∧ Hid (w5.ownsRow ws.heap.size 83 3 (.slice A5 D.length c5) D.length (dnCells D)))
    case first =>
      go_region_law (refine step_append_nil rfl _ _ 53 rfl 83 _ 3 32 Tryz.underlying53 infoDone rfl (by decide) rfl A D.length c (dnCells D) rfl HDL.out (HN2.out _ (by first | exact bdr HBS.out | exact HBS.out)) (dn_one D) hD (by decide) ?_; intro A5 c5 w5 ho5 hb5; have hb6 : Below ws.heap.size ws w5 := bcl (by first | exact bdr (Below.refl _ _) | exact Below.refl _ _) hb5; have P5 := HPS.out.below hb6 ls; have f5 := P5.frozen 2; have k5 := P5.cell (i := 2) rfl; have HB5 := Lib.hid hb6; have HO5 : Hid (w5.ownsRow ws.heap.size 83 3 (.slice A5 D.length c5) D.length (dnCells D)) := Lib.hid ho5; clear ho5 hb5 hb6 P5)
      all_goals
        go_wp2_with fail
        go_meet
        case rel => exact ⟨rfl, A5, c5, w5, rfl, HB5, HO5⟩
    case rest =>
      obtain ⟨rfl, A5, c5, w5, hw5, HB5, HO5⟩ := hcut
      obtain ⟨wt, hw⟩ : ∃ v : World, v = wc := ⟨_, rfl⟩
      subst hw
      have hbt : Below w.heap.size w wt := by rw [hw5]; exact bset (bcl HBS.out HB5.out) z1 _
      have PT : AtB wt p' #[.slice RA1 R.length rc1, .pointer (some ⟨q', 0, none⟩), .slice A5 D.length c5, .int .i64 0] 55 := by rw [hw5]; exact (HPS.out.below HB5.out ls).set 2 _
      have u3 := PT.cell (i := 3) rfl
      have f3 := PT.frozen 3
      have c3' := (hbt.cell (p := ⟨p, 3, none⟩) H1.out.lt).trans (H1.out.cell (i := 3) rfl)
      have HW5 := Lib.hid hw5
      clear hw5 hbt PT u2 c2'
      go_wp2_with fail
      go_ret
      have h5 := H5.out
      obtain ⟨r1, r2, r3⟩ := rctwin_end (A4 := A4) (c4 := c4) (A5 := A5) (c5 := c5) HC.out.hb HB1.out z1 z2 HP.out HQ.out HRI.out HC.out.rul HC.out.okr HC.out.ok hL HC.out.spc.ok HB4.out (omany_copy (Nat.le_trans HC.out.hb HB1.out.size) vs (fun i hi => by
        obtain ⟨B, C, e1, q1, m1, m2, m3⟩ := HVS.out i hi
        have hst : ∀ a, B = some a → w1.heap[a.block]? = w.heap[a.block]? := fun a ha => HB1.out.block _ (m3.lt HC.out.hb ha)
        exact ⟨B, C, e1, vals_stay _ _ _ _ HB1.out.size hst q1, m1, m2, m3.stay hst⟩) HO4.out HB4.out) (fun b hb => (own_block_of HO4.out hb).1) (by rw [← HW4.out]; exact HB5.out) (Win.own (own_mono HO5.out (Nat.le_trans HB4.out.size (by rw [HW4.out]; exact (Chs.set w4 _ _).size))) (Nat.le_refl _)) h5 H6.out
      rw [← HW5.out] at r1 r2
      exact ⟨p', q', _, _, rfl, r1, r2, r3⟩
end
end Go.Proofs.YtfelefkmbbfdjaaGreatDoor
namespace Go.Proofs.YtfelefkmbbfdjaaGreatDoor
open Go.ChangeShapes Go.WideShapes Go.ChangeAt Go.RowKit Go.Joins Go.Deep
set_option linter.unusedVariables false

/-- nothing is both -/
def Dsj (M N : Nat → Prop) : Prop := ∀ b, M b → ¬ N b
theorem Dsj.grow {M M' N : Nat → Prop} {z : Nat} (h : Dsj M N) (hM : ∀ b, M' b → M b ∨ z ≤ b) (hN : ∀ b, N b → b < z) : Dsj M' N := fun b h1 h2 => by
  rcases hM b h1 with h3 | h3
  · exact h b h3 h2
  · have := hN b h2; omega
/-- where a log lies -/
structure Kl where
  P : Nat
  p : Nat
  q : Nat
  m : Nat
  g : Option Nat
def Kl.M (f : Kl) : Nat → Prop := LM f.P f.p f.q f.g f.m
/-- where a copy of the reference lies -/
structure Kc where
  p : Nat
  q : Nat
  g : Option Nat
  h : Option Nat
def Kc.M (c : Kc) : Nat → Prop := RCM c.p c.q c.g c.h
/-- the log, as far as the law knows it -/
structure KL (w0 w : World) (f : Kl) (R : List Ru) (D : List Ak) (jk : ByteArray) (sf : Nat) (lf : Int) (st : Bool) : Prop where
  b0 : Below w0.heap.size w0 w
  lg : Lg w w0.heap.size f.P f.p f.q f.g f.m R (cpD R D) (recs D ++ jk) sf D.length lf st
  vd : VdD R D
  len : D.length ≤ 30
  j0 : st = false → jk = ⟨#[]⟩
  j10 : ∀ x ∈ jk.data.toList, x ≠ 10
  js : jk.size ≤ 1000
  sfl : sf ≤ (recs D).size
  l0 : -1 ≤ lf
  l1 : lf ≤ 9223372036854775807
/-- the log has moved on, and nothing else -/
def Mvd (f : Kl) (w : World) (f' : Kl) (w' : World) : Prop := Chs f.M w w' ∧ (∀ x, f'.M x → f.M x ∨ w.heap.size ≤ x) ∧ f'.P = f.P
theorem recs_nojk (D : List Ak) : recs D ++ (⟨#[]⟩ : ByteArray) = recs D := bytes_eq (by simp [ByteArray.data_append])
section
variable {w0 w w' : World} {f f' : Kl} {R : List Ru} {D D' : List Ak} {jk : ByteArray} {sf : Nat} {lf : Int} {st : Bool}
theorem Mvd.refl (f : Kl) (h : Below w.heap.size w w') : Mvd f w f w' := ⟨Chs.of_below _ h, fun x h => .inl h, rfl⟩
theorem Mvd.of (h : Chs f.M w w') : Mvd f w f w' := ⟨h, fun x h => .inl h, rfl⟩
theorem KL.hb (h : KL w0 w f R D jk sf lf st) : w0.heap.size ≤ w.heap.size := h.b0.size
theorem KL.keep (h : KL w0 w f R D jk sf lf st) (k : Below w.heap.size w w') : KL w0 w' f R D jk sf lf st :=
  { h with b0 := bcl h.b0 k, lg := h.lg.keep k }
theorem cpy_nk {base p q m : Nat} {g : Option Nat} {s : Cs} (h : Cpy w base p q g m R s) {t : TypeId} (h1 : t ≠ 90) (h2 : t ≠ 113) (h3 : t ≠ 32) : ∀ b, CM p q g m b → ¬ kin w b t := fun b hb => by
  rcases hb with rfl | rfl | hb | rfl
  · exact fun k => h1 (kin.ne k h.pkin)
  · exact fun k => h2 (kin.ne k h.spc.kin)
  · exact fun k => h3 (kin.ne k (h.spc.gkin hb).2)
  · exact fun k => not_kin_of_map h.map.isMap k
theorem lg_lts {base P p q m sf mn : Nat} {g : Option Nat} {s : Cs} {b : ByteArray} {lf : Int} {st : Bool} (h : Lg w base P p q g m R s b sf mn lf st) : ∀ x, LM P p q g m x → x < w.heap.size := fun x hx => by
  rcases hx with rfl | hx
  · exact h.pkin.lt
  · exact h.cpy.lts x hx
theorem lg_nk {base P p q m sf mn : Nat} {g : Option Nat} {s : Cs} {b : ByteArray} {lf : Int} {st : Bool} (h : Lg w base P p q g m R s b sf mn lf st) {t : TypeId} (h0 : t ≠ 62) (h1 : t ≠ 90) (h2 : t ≠ 113) (h3 : t ≠ 32) : ∀ x, LM P p q g m x → ¬ kin w x t := fun x hx => by
  rcases hx with rfl | hx
  · exact fun k => h0 (kin.ne k h.pkin)
  · exact cpy_nk h.cpy h1 h2 h3 x hx
/-- a log stays where none of its blocks is changed -/
theorem lg_far {base P p q m sf mn : Nat} {g : Option Nat} {s : Cs} {b : ByteArray} {lf : Int} {st : Bool} {M : Nat → Prop} (h : Lg w base P p q g m R s b sf mn lf st) (k : Chs M w w') (hM : ∀ x, M x → base ≤ x ∧ ¬ kin w x 31 ∧ ¬ kin w x 34) (hd : Dsj M (LM P p q g m)) : Lg w' base P p q g m R s b sf mn lf st := by
  obtain ⟨A, c, h1, h2⟩ := h.there
  refine ⟨⟨A, c, h1.chs k fun e => hd P e (.inl rfl), h2.stay h.hb k.size fun x hx hk => k.block x hx fun e => ?_⟩, h.cpy.apart k hM fun x hx e => hd x hx (.inr e), h.hp⟩
  obtain ⟨q1, q2, q3⟩ := hM x e
  rcases hk with hk | hk | hk
  · omega
  · exact q2 hk
  · exact q3 hk
theorem KL.far {M : Nat → Prop} (h : KL w0 w f R D jk sf lf st) (k : Chs M w w') (hM : ∀ x, M x → w0.heap.size ≤ x ∧ ¬ kin w x 31 ∧ ¬ kin w x 34) (hd : Dsj M f.M) : KL w0 w' f R D jk sf lf st :=
  { h with b0 := h.b0.trans (k.below (fun x hx => (hM x hx).1) h.hb), lg := lg_far h.lg k hM hd }
theorem KL.mine (h : KL w0 w f R D jk sf lf st) : ∀ x, f.M x → w0.heap.size ≤ x ∧ ¬ kin w x 31 ∧ ¬ kin w x 34 := h.lg.mine
theorem KL.b0' (h : KL w0 w f R D jk sf lf st) (k : Chs f.M w w') : Below w0.heap.size w0 w' := h.b0.trans (k.below (fun x hx => (h.mine x hx).1) h.hb)
/-- the window of copies, the window of marks -/
def kcPs (C : Nat → Kc) (n : Nat) : List Value := (List.range n).map fun i => .pointer (some ⟨(C i).p, 0, none⟩)
def kcMs (D : List Ak) (n : Nat) : List Value := (List.range n).map fun i => .int .i64 (((recs (D.take i)).size : Nat) : Int)
theorem kcPs_len (C : Nat → Kc) (n : Nat) : (kcPs C n).length = n := by simp [kcPs]
theorem kcMs_len (D : List Ak) (n : Nat) : (kcMs D n).length = n := by simp [kcMs]
theorem kcPs_at {C : Nat → Kc} {n i : Nat} (h : i < n) : (kcPs C n)[i]? = some (.pointer (some ⟨(C i).p, 0, none⟩)) := by simp [kcPs, h]
theorem kcMs_at {D : List Ak} {n i : Nat} (h : i < n) : (kcMs D n)[i]? = some (.int .i64 (((recs (D.take i)).size : Nat) : Int)) := by simp [kcMs, h]
theorem kcPs_take (C : Nat → Kc) {n k : Nat} (h : k ≤ n) : (kcPs C n).take k = kcPs C k := by rw [kcPs, ← List.map_take, List.take_range, Nat.min_eq_left h]; rfl
theorem kcMs_take (D : List Ak) {n k j : Nat} (h : k + 1 ≤ n) : (kcMs D n).take (k + 1) = kcMs (D.take k) (k + 1) := by
  rw [kcMs, ← List.map_take, List.take_range, Nat.min_eq_left h, kcMs]
  refine List.map_congr_left fun i hi => ?_
  rw [List.mem_range] at hi
  rw [List.take_take, show min i k = i by omega]
theorem kcMs_snoc (D : List Ak) (a : Ak) : kcMs (D ++ [a]) (D.length + 2) = kcMs D (D.length + 1) ++ [.int .i64 (((recs (D ++ [a])).size : Nat) : Int)] := by
  unfold kcMs
  rw [List.range_succ, List.map_append]
  congr 1
  · refine List.map_congr_left fun i hi => ?_
    rw [List.mem_range] at hi
    rw [List.take_append_of_le_length (by omega)]
  · rw [List.map_singleton, show D.length + 1 = (D ++ [a]).length by simp, List.take_length]
/-- one more copy -/
def addC (C : Nat → Kc) (n : Nat) (c : Kc) : Nat → Kc := fun i => if i = n then c else C i
theorem kcPs_snoc (C : Nat → Kc) (n : Nat) (c : Kc) : kcPs (addC C n c) (n + 1) = kcPs C n ++ [.pointer (some ⟨c.p, 0, none⟩)] := by
  unfold kcPs
  rw [List.range_succ, List.map_append]
  congr 1
  · refine List.map_congr_left fun i hi => ?_
    rw [List.mem_range] at hi
    rw [addC, if_neg (by omega)]
  · rw [List.map_singleton, addC, if_pos rfl]
/-- the copies that are kept: the i-th did the first i deeds -/
structure KC (w0 w : World) (f : Kl) (C : Nat → Kc) (R : List Ru) (D : List Ak) (dA : Option Addr) (dc : Nat) (mA : Option Addr) (mc : Nat) : Prop where
  cps : ∀ i, i ≤ D.length → RCp w w0.heap.size (C i).p (C i).q (C i).g (C i).h R (cpD R (D.take i))
  dj : ∀ i, i ≤ D.length → Dsj f.M (C i).M
  dw : Win w w0.heap.size 46 1 (.slice dA (D.length + 1) dc) (D.length + 1) (kcPs C (D.length + 1))
  mw : Win w w0.heap.size 3 1 (.slice mA (D.length + 1) mc) (D.length + 1) (kcMs D (D.length + 1))
variable {C : Nat → Kc} {dA mA : Option Addr} {dc mc : Nat}
theorem KC.keep (h : KC w0 w f C R D dA dc mA mc) (k : Below w.heap.size w w') : KC w0 w' f C R D dA dc mA mc :=
  ⟨fun i hi => (h.cps i hi).keep k, h.dj, h.dw.keep k, h.mw.keep k⟩
/-- the copies stay where none of their blocks is changed -/
theorem KC.far {M : Nat → Prop} (h : KC w0 w f C R D dA dc mA mc) (k : Chs M w w') (hM : ∀ x, M x → w0.heap.size ≤ x ∧ ¬ kin w x 31 ∧ ¬ kin w x 46 ∧ ¬ kin w x 3) (hd : ∀ i, i ≤ D.length → Dsj M (C i).M) : KC w0 w' f C R D dA dc mA mc :=
  ⟨fun i hi => (h.cps i hi).far k fun b hb => ⟨(hM b hb).1, (hM b hb).2.1, hd i hi b hb⟩, h.dj,
    h.dw.stay fun g hg => k.block g (h.dw.block hg).2.lt fun e => (hM g e).2.2.1 (h.dw.block hg).2,
    h.mw.stay fun g hg => k.block g (h.mw.block hg).2.lt fun e => (hM g e).2.2.2 (h.mw.block hg).2⟩
/-- .. where the log moves on -/
theorem KC.moved (h : KC w0 w f C R D dA dc mA mc) {D2 : List Ak} (hl : KL w0 w f R D2 jk sf lf st) (k : Mvd f w f' w') : KC w0 w' f' C R D dA dc mA mc := by
  have h2 := h.far k.1 (fun x hx => ⟨(hl.mine x hx).1, (hl.mine x hx).2.1, lg_nk hl.lg (by decide) (by decide) (by decide) (by decide) x hx, lg_nk hl.lg (by decide) (by decide) (by decide) (by decide) x hx⟩) h.dj
  exact ⟨h2.cps, fun i hi => (h.dj i hi).grow k.2.1 (h.cps i hi).lts, h2.dw, h2.mw⟩
theorem rcp_moved {D2 : List Ak} {c : Kc} {s : Cs} (hl : KL w0 w f R D2 jk sf lf st) (j : RCp w w0.heap.size c.p c.q c.g c.h R s) (hd : Dsj f.M c.M) (k : Mvd f w f' w') : RCp w' w0.heap.size c.p c.q c.g c.h R s ∧ Dsj f'.M c.M :=
  ⟨j.far k.1 fun b hb => ⟨(hl.mine b hb).1, (hl.mine b hb).2.1, hd b hb⟩, hd.grow k.2.1 j.lts⟩
/-- a window cut behind -/
theorem Win.pre {base k n m c : Nat} {e : TypeId} {A : Option Addr} {xs : List Value} (h : Win w base e k (.slice A n c) n xs) (hm : m ≤ n) : Win w base e k (.slice A m c) m (xs.take (m * k)) := by
  refine ⟨by rw [List.length_take, h.1]; have := Nat.mul_le_mul_right k hm; omega, ?_⟩
  rcases h.2 with ⟨h1, h2⟩ | ⟨g, off, c', h1, h2, h3, h4, h5, h6, h7⟩
  · injection h1 with e1 e2 e3
    subst e1 e3
    obtain rfl : m = 0 := by omega
    exact .inl ⟨rfl, rfl⟩
  · injection h1 with e1 e2 e3
    subst e1 e3
    refine .inr ⟨g, off, c, rfl, h2, h3, by omega, h5, fun j u hj => ?_, h7⟩
    rw [List.getElem?_take] at hj
    split at hj
    · exact h6 j u hj
    · cases hj
theorem KC.cut (h : KC w0 w f C R D dA dc mA mc) {k : Nat} (hk : k ≤ D.length) : KC w0 w f C R (D.take k) dA dc mA mc := by
  have hl : (D.take k).length = k := by rw [List.length_take]; omega
  refine ⟨fun i hi => ?_, fun i hi => h.dj i (by omega), ?_, ?_⟩
  · rw [List.take_take, show min i k = i by omega]
    exact h.cps i (by omega)
  · have := h.dw.pre (m := k + 1) (by omega)
    rw [Nat.mul_one, kcPs_take C (by omega)] at this
    rw [hl]; exact this
  · have := h.mw.pre (m := k + 1) (by omega)
    rw [Nat.mul_one, kcMs_take (j := 0) D (by omega)] at this
    rw [hl]; exact this
/-- one more in the window of copies -/
theorem kc_done (h : KC w0 w f C R D dA dc mA mc) {D2 : List Ak} (hl : KL w0 w f R D2 jk sf lf st) {c : Kc} {s : Cs} (j : RCp w w0.heap.size c.p c.q c.g c.h R s)
    (hg : w.grownBy w' (Value.slice dA (D.length + 1) dc).ownBlock) : KL w0 w' f R D2 jk sf lf st ∧ RCp w' w0.heap.size c.p c.q c.g c.h R s ∧
      (∀ i, i ≤ D.length → RCp w' w0.heap.size (C i).p (C i).q (C i).g (C i).h R (cpD R (D.take i))) ∧ Win w' w0.heap.size 3 1 (.slice mA (D.length + 1) mc) (D.length + 1) (kcMs D (D.length + 1)) := by
  have k := Chs.grown hg
  have hM : ∀ x, (Value.slice dA (D.length + 1) dc).ownBlock = some x → w0.heap.size ≤ x ∧ kin w x 46 := fun x hx => h.dw.block hx
  have hn : ∀ {t : TypeId} x, (Value.slice dA (D.length + 1) dc).ownBlock = some x → t ≠ 46 → ¬ kin w x t := fun x hx ht hk => ht (hk.ne (hM x hx).2)
  refine ⟨hl.far k (fun x hx => ⟨(hM x hx).1, hn x hx (by decide), hn x hx (by decide)⟩) (fun x hx e => lg_nk hl.lg (by decide) (by decide) (by decide) (by decide) x e (hM x hx).2), ?_, fun i hi => ?_, ?_⟩
  · exact j.far k fun x hx => ⟨(hM x hx).1, hn x hx (by decide), fun e => j.nk (by decide) (by decide) (by decide) (by decide) x e (hM x hx).2⟩
  · exact (h.cps i hi).far k fun x hx => ⟨(hM x hx).1, hn x hx (by decide), fun e => (h.cps i hi).nk (by decide) (by decide) (by decide) (by decide) x e (hM x hx).2⟩
  · exact h.mw.stay fun g hg => k.block g (h.mw.block hg).2.lt fun e => hn g e (by decide) (h.mw.block hg).2
end
end Go.Proofs.YtfelefkmbbfdjaaGreatDoor
namespace Go.Proofs.YtfelefkmbbfdjaaGreatDoor
open Go.ChangeShapes Go.WideShapes Go.ChangeAt Go.RowKit Go.Joins Go.Deep
set_option linter.unusedVariables false

/-- what a log answers: it has stopped, or says what is to be said -/
def lkE (R : List Ru) (D : List Ak) (a : Ak) : Int := if doE R (cpD R D) a = 0 ∧ agB (cpD R D) a = false ∧ D.length = 30 then 4 else doE R (cpD R D) a
def lkS (R : List Ru) (D : List Ak) (a : Ak) : ByteArray := if doE R (cpD R D) a = 0 ∧ agB (cpD R D) a = false ∧ D.length = 30 then ⟨#[]⟩ else doS R (cpD R D) a
inductive LkOut (R : List Ru) (D : List Ak) (a : Ak) (jk : ByteArray) (E : Int) (S : ByteArray) (D' : List Ak) (jk' : ByteArray) : Prop where
  | stop : E = 6 → S = ⟨#[]⟩ → D' = D → LkOut R D a jk E S D' jk'
  | no : E = lkE R D a → S = lkS R D a → E ≠ 0 → S = ⟨#[]⟩ → D' = D → LkOut R D a jk E S D' jk'
  | again : E = 0 → lkE R D a = 0 → S = lkS R D a → doE R (cpD R D) a = 0 → agB (cpD R D) a = true → D' = D → jk' = jk → LkOut R D a jk E S D' jk'
  | did : E = 0 → lkE R D a = 0 → S = lkS R D a → doE R (cpD R D) a = 0 → agB (cpD R D) a = false → D.length < 30 → D' = D ++ [a] → jk = ⟨#[]⟩ → jk' = ⟨#[]⟩ → LkOut R D a jk E S D' jk'
section
variable {w0 w w' : World} {f f' : Kl} {R : List Ru} {D D' : List Ak} {jk : ByteArray} {sf : Nat} {lf : Int} {st : Bool}
theorem kl_up (h : KL w0 w f R D jk sf lf st) (ht : ∀ W, Below w0.heap.size w0 W → LT W) : ∀ W', Below w0.heap.size w W' → TT W' ∧ EE W' ∧ AS W' := fun W' hb => ht W' (h.b0.trans hb)
theorem nw_lm {P p q m : Nat} {g g' : Option Nat} {z : Nat} (hn : Nw g g' z) : ∀ x, LM P p q g' m x → LM P p q g m x ∨ z ≤ x := fun x hx => by
  rcases hx with rfl | rfl | rfl | hx | rfl
  · exact .inl (.inl rfl)
  · exact .inl (.inr (.inl rfl))
  · exact .inl (.inr (.inr (.inl rfl)))
  · rcases hn with h | ⟨b, h, hz⟩
    · exact .inl (.inr (.inr (.inr (.inl (h ▸ hx)))))
    · rw [hx] at h
      injection h with h
      exact .inr (by omega)
  · exact .inl (.inr (.inr (.inr (.inr rfl))))
theorem KL.live (h : KL w0 w f R D jk sf lf false) : Lg w w0.heap.size f.P f.p f.q f.g f.m R (cpD R D) (recs D) sf D.length lf false := by
  have := h.lg
  rw [h.j0 rfl, recs_nojk] at this
  exact this
theorem kl_do (h : KL w0 w f R D jk sf lf st) (ht : ∀ W, Below w0.heap.size w0 W → LT W) (a : Ak) (A : Option Addr) (c : Nat) (hm : a.t.length ≤ maxLen) (hok : okL a.t) (hw64 : I64 a.w) (hq64 : I64 a.q) (hV : Vin w w0.heap.size A a.t) :
    Calls Tryz.prog 5 #[.pointer (some ⟨f.P, 0, none⟩), akv a A c] w fun e w' => ∃ E S D' jk' lf' st' f', e = .returned (.tuple #[.string S, eV E]) ∧ LkOut R D a jk E S D' jk' ∧ KL w0 w' f' R D' jk' sf lf' st' ∧ Mvd f w f' w' := by
  cases st with
  | true =>
    refine (lgdo_stopped h.lg a A c).mono ?_
    rintro e w' ⟨he, hb⟩
    exact ⟨6, ⟨#[]⟩, D, jk, lf, true, f, he, .stop rfl rfl rfl, h.keep hb, Mvd.refl f hb⟩
  | false =>
    have hl := h.live
    have hjk := h.j0 rfl
    have hn : (cpD R D).n = D.length := h.vd.n
    have hlen := h.len
    by_cases hno : doE R (cpD R D) a ≠ 0 ∨ agB (cpD R D) a = true
    · refine (lgdo_no hl (fun W' hb => (kl_up h ht W' hb).1) (by omega) a A c hm hok hw64 hq64 hV.1 hno).mono ?_
      rintro e w' ⟨he, g', h3, h4, h5⟩
      have hw : lkE R D a = doE R (cpD R D) a ∧ lkS R D a = doS R (cpD R D) a := by
        unfold lkE lkS
        rw [if_neg, if_neg]
        · exact ⟨rfl, rfl⟩
        all_goals
          rintro ⟨e1, e2, e3⟩
          rcases hno with e | e
          · exact e e1
          · rw [e] at e2; cases e2
      refine ⟨_, _, D, jk, lf, false, { f with g := g' }, he, ?_, { h with b0 := h.b0' h4, lg := by rw [hjk, recs_nojk]; exact h3 }, h4, nw_lm h5, rfl⟩
      by_cases hE : doE R (cpD R D) a = 0
      · refine .again hE (hw.1.trans hE) hw.2.symm hE ?_ rfl rfl
        rcases hno with e | e
        · exact absurd hE e
        · exact e
      · exact .no hw.1.symm hw.2.symm hE (doS_no hE) rfl
    · have hE : doE R (cpD R D) a = 0 := Decidable.byContradiction fun e => hno (.inl e)
      have hg : agB (cpD R D) a = false := by
        cases e : agB (cpD R D) a with
        | false => rfl
        | true => exact absurd (.inr e) hno
      by_cases h30 : D.length = 30
      · have hl2 := hl
        rw [h30] at hl2
        refine (lgdo_full hl2 (kl_up h ht) h.vd h.len a A c hm hok hw64 hq64 hV hE hg).mono ?_
        rintro e w' ⟨he, p', q', m', g', h3, h4, h5⟩
        refine ⟨4, ⟨#[]⟩, D, jk, lf, false, ⟨f.P, p', q', m', g'⟩, he, .no ?_ ?_ (by decide) rfl rfl, { h with b0 := h.b0' h4, lg := by rw [hjk, recs_nojk, h30]; exact h3 }, h4, h5, rfl⟩
        · rw [lkE, if_pos ⟨hE, hg, h30⟩]
        · rw [lkS, if_pos ⟨hE, hg, h30⟩]
      · have hlt : D.length < 30 := by omega
        by_cases hlf : lf = 0
        · subst hlf
          refine (lgdo_stop hl (kl_up h ht) h.vd h.len a A c hm hok hw64 hq64 hV hE hg h30 (by omega)).mono ?_
          rintro e w' ⟨he, p', q', m', g', h3, h4, h5⟩
          have hr := rcd_of h.vd.cok (by omega) hE hg
          exact ⟨6, ⟨#[]⟩, D, halfB a, -1, true, ⟨f.P, p', q', m', g'⟩, he, .stop rfl rfl rfl, { h with b0 := h.b0' h4, lg := h3, j0 := (fun e => by cases e), j10 := half_no10 hr, js := (by have := half_size hr; omega), l0 := (by decide), l1 := (by decide) }, h4, h5, rfl⟩
        · have hds := recs_size D (h.vd.all (by omega))
          refine (lgdo_new hl (fun W' hb => (kl_up h ht W' hb).1) (by omega) a A c hm hok hw64 hq64 hV hE hg h30 (by omega) h.l0 h.l1 hlf (by omega)).mono ?_
          rintro e w' ⟨he, g', h3, h4, h5⟩
          have hw : lkE R D a = 0 ∧ lkS R D a = doS R (cpD R D) a := by
            unfold lkE lkS
            rw [if_neg (fun e => h30 e.2.2), if_neg (fun e => h30 e.2.2)]
            exact ⟨hE, rfl⟩
          have hlfn : -1 ≤ lfN lf ∧ lfN lf ≤ 9223372036854775807 := by have := h.l1; unfold lfN; omega
          refine ⟨0, _, D ++ [a], ⟨#[]⟩, lfN lf, false, { f with g := g' }, he, .did rfl hw.1 hw.2.symm hE hg hlt rfl hjk rfl, ⟨h.b0' h4, ?_, h.vd.snoc hok hE hg, by rw [List.length_append]; simp; omega, fun _ => rfl, fun x hx => by simp at hx, by decide, ?_, hlfn.1, hlfn.2⟩, h4, nw_lm h5, rfl⟩
          · rw [recs_nojk, cpD_snoc, recs_snoc, List.length_append]
            exact h3
          · have := h.sfl
            rw [recs_snoc, size_app]; omega
theorem kl_sync (h : KL w0 w f R D jk sf lf st) :
    Calls Tryz.prog 6 #[.pointer (some ⟨f.P, 0, none⟩)] w fun e w' => ∃ E sf' lf' st', e = .returned (eV E) ∧ (E = 0 ∧ sf' = (recs D ++ jk).size ∨ E = 6) ∧ KL w0 w' f R D jk sf' lf' st' ∧ Mvd f w f w' := by
  cases st with
  | true =>
    refine (lgsync_no h.lg).mono ?_
    rintro e w' ⟨he, rfl⟩
    exact ⟨6, sf, lf, true, he, .inr rfl, h, Mvd.refl f (Below.refl _ _)⟩
  | false =>
    have hl := h.live
    have hjk := h.j0 rfl
    by_cases hlf : lf = 0
    · subst hlf
      refine (lgsync_stop hl).mono ?_
      rintro e w' ⟨he, h3, h4⟩
      have h4 : Chs f.M w w' := h4.mono fun x e => .inl e
      exact ⟨6, sf, -1, true, he, .inr rfl, { h with b0 := h.b0' h4, lg := by rw [hjk, recs_nojk]; exact h3, j0 := (fun e => by cases e), l0 := (by decide), l1 := (by decide) }, Mvd.of h4⟩
    · refine (lgsync_ok hl h.l0 h.l1 hlf).mono ?_
      rintro e w' ⟨he, h3, h4⟩
      have h4 : Chs f.M w w' := h4.mono fun x e => .inl e
      have hlfn : -1 ≤ lfN lf ∧ lfN lf ≤ 9223372036854775807 := by have := h.l1; unfold lfN; omega
      exact ⟨0, (recs D).size, lfN lf, false, he, .inl ⟨rfl, by rw [hjk, recs_nojk]⟩, { h with b0 := h.b0' h4, lg := by rw [hjk, recs_nojk]; exact h3, sfl := Nat.le_refl _, l0 := hlfn.1, l1 := hlfn.2 }, Mvd.of h4⟩
theorem kl_fail (h : KL w0 w f R D jk sf lf st) (n : Int) (hn : I64 n) :
    Calls Tryz.prog 14 #[.pointer (some ⟨f.P, 0, none⟩), .int .i64 n] w fun e w' => (∃ v, e = .returned v) ∧ (∃ lf', KL w0 w' f R D jk sf lf' st) ∧ Mvd f w f w' := by
  refine (lgfail_any h.lg n).mono ?_
  rintro e w' ⟨he, h3, h4⟩
  have h4 : Chs f.M w w' := h4.mono fun x e => .inl e
  have hn' : -9223372036854775808 ≤ n ∧ n ≤ 9223372036854775807 := by unfold I64 at hn; simp [Lit.wf, IntKind.min, IntKind.max, IntKind.signed, IntKind.bits] at hn; omega
  exact ⟨he, ⟨_, { h with b0 := h.b0' h4, lg := h3, l0 := (by omega), l1 := (by omega) }⟩, Mvd.of h4⟩
theorem kl_mark (h : KL w0 w f R D jk sf lf st) (ht : ∀ W, Below w0.heap.size w0 W → LT W) :
    Calls Tryz.prog 8 #[.pointer (some ⟨f.P, 0, none⟩)] w fun e w' => e = .returned (.tuple #[.int .i64 D.length, .int .i64 (mkV (cpD R D))]) ∧ Below w.heap.size w w' := by
  have c := lgmark_any h.lg (fun W' hb => (kl_up h ht W' hb).1)
  rw [h.vd.n] at c
  exact c
theorem kl_safe (h : KL w0 w f R D jk sf lf st) : Calls Tryz.prog 10 #[.pointer (some ⟨f.P, 0, none⟩)] w fun e w' => e = .returned (.int .i64 sf) ∧ w = w' := lgsafe_any h.lg
theorem kl_bytes (h : KL w0 w f R D jk sf lf st) : Calls Tryz.prog 9 #[.pointer (some ⟨f.P, 0, none⟩)] w fun e w' => e = .returned (.int .i64 ((recs D ++ jk).size : Nat)) ∧ w = w' := lgbytes_any h.lg
theorem kl_crash (h : KL w0 w f R D jk sf lf st) (ht : ∀ W, Below w0.heap.size w0 W → LT W) (keep : Int) :
    Calls Tryz.prog 7 #[.pointer (some ⟨f.P, 0, none⟩), .int .i64 keep] w fun e w' => (∃ v, e = .returned v) ∧ ∃ k f', CutAt D (hiN sf (recs D ++ jk) keep) k ∧ KL w0 w' f' R (D.take k) ⟨#[]⟩ (recs (D.take k)).size (-1) false ∧ Mvd f w f' w' := by
  have hlen := h.len
  refine (lgcrash h.lg (kl_up h ht) h.vd h.len h.j10 h.js (by have := h.sfl; rw [size_app]; omega) keep).mono ?_
  rintro e w' ⟨he, k, p', q', m', g', hk, h3, h4, h5⟩
  have h4 : Chs f.M w w' := h4.mono fun x e => .inl e
  have hl : (D.take k).length = k := by rw [List.length_take]; have := hk.1; omega
  refine ⟨he, k, ⟨f.P, p', q', m', g'⟩, hk, ⟨h.b0' h4, by rw [recs_nojk, hl]; exact h3, h.vd.take k, by have := hk.1; omega, fun _ => rfl, fun x hx => by simp at hx, by decide, Nat.le_refl _, by decide, by decide⟩, h4, fun x hx => ?_, rfl⟩
  rcases hx with hx | hx
  · exact .inl (.inl hx)
  · exact .inr (h5 x hx)
end
end Go.Proofs.YtfelefkmbbfdjaaGreatDoor
namespace Go.Proofs.YtfelefkmbbfdjaaGreatDoor.logStops
open Go.ChangeShapes Go.WideShapes Go.ChangeAt Go.RowKit Go.Joins Go.Deep
set_option linter.unusedVariables false

def star : List Va := [⟨2, 0, ⟨#[]⟩⟩]
def R1 : List Ru := [⟨0, -1, star, true⟩]
def vn (n : Int) : Va := ⟨0, n, ⟨#[]⟩⟩
def an (w q n : Int) : Ak := ⟨w, q, 0, [vn n]⟩
def bad (q : Int) : Ak := ⟨1, q, 0, []⟩
theorem r1 : rulE R1 = 0 := by rfl
theorem let1 (n : Int) : letR R1 1 0 [vn n] = true := by rfl
theorem let2 (n : Int) : letR R1 2 0 [vn n] = true := by rfl
theorem va_in {n : Int} (h : -1000000 ≤ n ∧ n ≤ 1000000) : vaE (vn n) = 0 := by
  unfold vaE vn
  rw [if_neg (by simp; omega), if_neg (by simp), if_neg]
  simp [okS, ByteArray.size]
theorem tu_in {n : Int} (h : -1000000 ≤ n ∧ n ≤ 1000000) : tuE [vn n] = 0 := by
  have h1 : liE [vn n] = vaE (vn n) := rfl
  unfold tuE
  rw [h1, va_in h, if_neg (fun h => h rfl), if_neg]
  rw [Bool.not_eq_true]
  exact anyB_false.2 fun i hi => by
    obtain rfl : i = 0 := by simpa using hi
    show (0 : Int) ≠ 2
    decide
theorem qc_in {w q n : Int} (hw : w = 1 ∨ w = 2) (h : -1000000 ≤ n ∧ n ≤ 1000000) : qcE (an w q n) = 0 := by
  rcases hw with rfl | rfl
  · exact (show qcE (an 1 q n) = tuE [vn n] from rfl).trans (tu_in h)
  · exact (show qcE (an 2 q n) = tuE [vn n] from rfl).trans (tu_in h)
theorem qc_bad (q : Int) : qcE (bad q) = 5 := rfl
theorem bad_do (R : List Ru) (s : Cs) (q : Int) : doE R s (bad q) = 5 := by rw [doE_bad (by rw [qc_bad]; decide), qc_bad]
theorem bad_s (R : List Ru) (s : Cs) (q : Int) : doS R s (bad q) = ⟨#[]⟩ := doS_no (by rw [bad_do]; decide)
/-- a deed that is next -/
theorem deed {s : Cs} {w q n : Int} (hw : w = 1 ∨ w = 2) (hn : -1000000 ≤ n ∧ n ≤ 1000000) (hq : q = (s.F w).1 + 1) : agB s (an w q n) = false ∧ doE R1 s (an w q n) = 0 := by
  have ha : agB s (an w q n) = false := by
    unfold agB
    rw [show (an w q n).q = q from rfl, show (an w q n).w = w from rfl, decide_eq_false (by omega), Bool.false_and]
  refine ⟨ha, (doE_new (qc_in hw hn) ha hq).trans ?_⟩
  rw [nwE, if_pos (show (an w q n).d = 0 from rfl)]
  rcases hw with rfl | rfl
  · exact if_pos (let1 n)
  · exact if_pos (let2 n)
theorem deed_s {s : Cs} {w q n : Int} (hw : w = 1 ∨ w = 2) (hn : -1000000 ≤ n ∧ n ≤ 1000000) (hq : q = (s.F w).1 + 1) (hl : s.L.length ≠ 20) : doS R1 s (an w q n) = txOk := by
  obtain ⟨h1, h2⟩ := deed hw hn hq
  rw [doS_new h2 h1, nwS, if_pos (show (an w q n).d = 0 from rfl), if_neg hl]
theorem okS' : okL star := fun i hi => by
  obtain rfl : i = 0 := by simpa [star] using hi
  decide
theorem okV (n : Int) : okL [vn n] := fun i hi => by
  obtain rfl : i = 0 := by simpa using hi
  show (⟨#[]⟩ : ByteArray).size ≤ maxLen
  decide
theorem okB : okL [] := fun i hi => by simp at hi
theorem okR1 : okR R1 := fun i hi => by
  obtain rfl : i = 0 := by simpa [R1] using hi
  exact ⟨okS', by show I64 _; unfold I64; decide, by show I64 _; unfold I64; decide⟩
/-! ### so many deeds -/
def Dn (n : Nat) : List Ak := (List.range n).map fun (i : Nat) => an 1 ((i : Int) + 1) i
theorem Dn_succ (n : Nat) : Dn (n + 1) = Dn n ++ [an 1 ((n : Int) + 1) n] := by simp [Dn, List.range_succ]
theorem Dn_len (n : Nat) : (Dn n).length = n := by simp [Dn]
theorem Dn_take {n k : Nat} (h : k ≤ n) : (Dn n).take k = Dn k := by rw [Dn, ← List.map_take, List.take_range, Nat.min_eq_left h]; rfl
def Fn (n : Nat) : Int → Int × ByteArray := fun y => if y = 1 ∧ 0 < n then ((n : Int), txOk) else (0, ⟨#[]⟩)
def St (n : Nat) : Cs := ⟨(List.range n).map fun (i : Nat) => [vn i], Fn n, n⟩
theorem st_len (n : Nat) : (St n).L.length = n := by simp [St]
theorem st_f1 (n : Nat) : ((St n).F 1).1 = n := by
  show (Fn n 1).1 = n
  unfold Fn
  by_cases h : 0 < n
  · rw [if_pos ⟨rfl, h⟩]
  · rw [if_neg (fun e => h e.2)]
    show (0 : Int) = n
    omega
theorem st_f2 (n : Nat) : ((St n).F 2).1 = 0 := by
  show (Fn n 2).1 = 0
  unfold Fn
  rw [if_neg (fun e => absurd e.1 (by decide))]
theorem st_deed {n : Nat} (h : n < 20) : agB (St n) (an 1 ((n : Int) + 1) n) = false ∧ doE R1 (St n) (an 1 ((n : Int) + 1) n) = 0 := deed (.inl rfl) ⟨by omega, by omega⟩ (by rw [st_f1])
theorem st_next {n : Nat} (h : n < 20) : doC R1 (St n) (an 1 ((n : Int) + 1) n) = St (n + 1) := by
  obtain ⟨h1, h2⟩ := st_deed h
  rw [doC_new h2 h1]
  have hs : nwS (St n) (an 1 ((n : Int) + 1) n) = txOk := by
    rw [nwS, if_pos (show (an 1 ((n : Int) + 1) n).d = 0 from rfl), if_neg (by rw [st_len]; omega)]
  have hl : nwL (St n) (an 1 ((n : Int) + 1) n) = (St (n + 1)).L := by
    rw [nwL, if_pos (show (an 1 ((n : Int) + 1) n).d = 0 from rfl)]
    unfold putL
    rw [if_pos]
    · show (List.range n).map (fun (i : Nat) => [vn i]) ++ [[vn n]] = (List.range (n + 1)).map fun (i : Nat) => [vn i]
      rw [List.range_succ, List.map_append]; rfl
    · unfold putE
      rw [if_neg, if_neg (by rw [st_len]; omega)]
      exact fun e => e (tu_in ⟨by omega, by omega⟩)
  rw [hs, hl]
  have hf : (fun y => if y = (an 1 ((n : Int) + 1) n).w then ((an 1 ((n : Int) + 1) n).q, txOk) else (St n).F y) = Fn (n + 1) := by
    funext y
    show (if y = 1 then (((n : Int) + 1), txOk) else Fn n y) = Fn (n + 1) y
    by_cases e : y = 1
    · rw [if_pos e, Fn, if_pos ⟨e, Nat.succ_pos n⟩]; rfl
    · rw [if_neg e, Fn, Fn, if_neg (fun h => e h.1), if_neg (fun h => e h.1)]
  rw [hf]; rfl
theorem cp_Dn : ∀ n : Nat, n ≤ 20 → cpD R1 (Dn n) = St n
  | 0, _ => by
    have h : Fn 0 = fun _ => (0, ⟨#[]⟩) := by
      funext y; unfold Fn; rw [if_neg (fun e => absurd e.2 (by decide))]
    show Cs.zero = ⟨[], Fn 0, 0⟩
    rw [h]; rfl
  | n + 1, h => by rw [Dn_succ, cpD_snoc, cp_Dn n (by omega), st_next (by omega)]
theorem vd_Dn : ∀ n : Nat, n ≤ 20 → VdD R1 (Dn n)
  | 0, _ => VdD.nil
  | n + 1, h => by
    rw [Dn_succ]
    have := st_deed (n := n) (by omega)
    rw [← cp_Dn n (by omega)] at this
    exact (vd_Dn n (by omega)).snoc (okV _) this.2 this.1
end Go.Proofs.YtfelefkmbbfdjaaGreatDoor.logStops
namespace Go.Proofs.YtfelefkmbbfdjaaGreatDoor.logKeeps
open Go.ChangeShapes Go.WideShapes Go.ChangeAt Go.RowKit Go.Joins Go.Deep
set_option linter.unusedVariables false

/-- the last of the first i marks that is not above hi -/
def lftN (D : List Ak) (hi : Nat) : Nat → Nat
  | 0 => 0
  | i + 1 => if (recs (D.take i)).size ≤ hi then i else lftN D hi i
theorem lftN_lt (D : List Ak) (hi : Nat) : ∀ i : Nat, lftN D hi i ≤ i
  | 0 => Nat.le_refl _
  | i + 1 => by
    unfold lftN
    split
    · omega
    · have := lftN_lt D hi i; omega
theorem lft_cut {D : List Ak} {hi k : Nat} (h : CutAt D hi k) : ∀ i, k < i → i ≤ D.length + 1 → lftN D hi i = k
  | 0, h1, _ => by omega
  | i + 1, h1, h2 => by
    unfold lftN
    rcases Nat.lt_or_ge k i with h3 | h3
    · rw [if_neg (by have := h.2.2 i h3 (by omega); omega)]
      exact lft_cut h i h3 (by omega)
    · obtain rfl : i = k := by omega
      rw [if_pos h.2.1]
theorem left_eq {D : List Ak} {hi k : Nat} (h : CutAt D hi k) : lftN D hi (D.length + 1) = k := lft_cut h _ (by have := h.1; omega) (Nat.le_refl _)
theorem hi_no {sf : Nat} {b : ByteArray} {keep : Int} (h : keep ≤ 0) : hiN sf b keep = sf := by
  unfold hiN; omega
theorem hi_mid {sf : Nat} {b : ByteArray} {keep : Int} (h : 0 < keep) (h2 : keep < (b.size : Int) - sf) : ((hiN sf b keep : Nat) : Int) = (sf : Int) + keep := by
  unfold hiN; omega
theorem hi_all {sf : Nat} {b : ByteArray} {keep : Int} (h : 0 < keep) (h2 : ¬ keep < (b.size : Int) - sf) (hs : sf ≤ b.size) : hiN sf b keep = b.size := by
  unfold hiN; omega
theorem rec_two (a : Ak) : 2 ≤ (recB a).size := by
  have := recB_four a
  have e2 : (recB a).size = (rcB a).size + 1 := by rw [recB, size_app]; rfl
  have e : (rcB a).data.toList.length = (rcB a).size := Array.length_toList
  omega
/-! ### the fact at the head -/
def a1 : Ak := logStops.an 1 1 4
def a2 : Ak := logStops.an 1 2 5
theorem a1_ok : agB (cpD logStops.R1 []) a1 = false ∧ doE logStops.R1 (cpD logStops.R1 []) a1 = 0 := logStops.deed (.inl rfl) (by decide) rfl
theorem a1_f : ((cpD logStops.R1 [a1]).F 1).1 = 1 := by
  show ((doC logStops.R1 (cpD logStops.R1 []) a1).F 1).1 = 1
  rw [doC_new a1_ok.2 a1_ok.1]
  rfl
theorem a2_ok : agB (cpD logStops.R1 [a1]) a2 = false ∧ doE logStops.R1 (cpD logStops.R1 [a1]) a2 = 0 := logStops.deed (.inl rfl) (by decide) (by rw [a1_f]; rfl)
theorem vd1 : VdD logStops.R1 [a1] := VdD.nil.snoc (logStops.okV _) a1_ok.2 a1_ok.1
theorem vd2 : VdD logStops.R1 ([a1] ++ [a2]) := vd1.snoc (logStops.okV _) a2_ok.2 a2_ok.1
theorem fact_cut {k : Nat} (h : CutAt ([a1] ++ [a2]) (hiN (recs [a1]).size (recs ([a1] ++ [a2])) 0) k) : k = 1 := by
  rw [hi_no (Int.le_refl _)] at h
  obtain ⟨h1, h2, h3⟩ := h
  have hs : (recs ([a1] ++ [a2])).size = (recs [a1]).size + (recB a2).size := by rw [recs_snoc, size_app]
  have h4 := rec_two a2
  simp at h1
  have hk : k = 0 ∨ k = 1 ∨ k = 2 := by omega
  rcases hk with rfl | rfl | rfl
  · have := h3 1 (by omega) (by simp)
    rw [show ([a1] ++ [a2]).take 1 = [a1] from rfl] at this
    omega
  · rfl
  · rw [show ([a1] ++ [a2]).take 2 = [a1] ++ [a2] from rfl] at h2
    omega
end Go.Proofs.YtfelefkmbbfdjaaGreatDoor.logKeeps
namespace Go.Proofs.YtfelefkmbbfdjaaGreatDoor.logKeeps
open Go.ChangeShapes Go.WideShapes Go.ChangeAt Go.RowKit Go.Joins Go.Deep
set_option linter.unusedVariables false

/-- the block of a number in a text -/
def findBlk (n : Nat) : Code → Option Code
  | .block m c => if m == n then some (.block m c) else findBlk n c
  | .loop c => findBlk n c
  | .scope c => findBlk n c
  | .seq a b => match findBlk n a with
    | some c => some c
    | none => findBlk n b
  | .cond _ a b => match findBlk n a with
    | some c => some c
    | none => findBlk n b
  | _ => none
/-- does a text begin with a region of a number? -/
def begins (n : Nat) : Code → Bool
  | .region m _ _ => m == n
  | .seq a _ => begins n a
  | _ => false
/-- the text from a region of a number on -/
def findReg (n : Nat) : Code → Option Code
  | .seq a b => if begins n a then some (.seq a b) else match findReg n a with
    | some c => some c
    | none => findReg n b
  | .block _ c => findReg n c
  | .loop c => findReg n c
  | .scope c => findReg n c
  | .cond _ a b => match findReg n a with
    | some c => some c
    | none => findReg n b
  | _ => none
noncomputable def frm (n : Nat) : Code := ((Tryz.f3.body.bind (findReg n)).getD .skip)
noncomputable def blk (n : Nat) : Code := ((Tryz.f3.body.bind (findBlk n)).getD .skip)
/-- what holds between two deeds -/
def KK (w0 : World) (P : Nat) (R : List Ru) (n : Nat) (dA : Option Addr) (dc : Nat) (mA : Option Addr) (mc : Nat) (W : World) : Prop :=
  ∃ f C D jk sf lf st, f.P = P ∧ D.length = n ∧ KL w0 W f R D jk sf lf st ∧ KC w0 W f C R D dA dc mA mc
theorem same_eE (n m : Int) (W : World) (h : HG W) : Calls Tryz.prog 12 #[errV n, .int .i64 m] W fun e w' => e = .returned (.bool (n == m)) ∧ Below W.heap.size W w' :=
  (same_errE n m W W (DG.refl h)).mono fun e w' ⟨h1, h2⟩ => ⟨h1, h2.2⟩
theorem same_nE (m : Int) (W : World) : Calls Tryz.prog 12 #[.nilIface, .int .i64 m] W fun e w' => e = .returned (.bool (0 == m)) ∧ Below W.heap.size W w' :=
  (same_nilE m W).mono fun e w' ⟨h1, h2⟩ => ⟨h1, h2 ▸ Below.refl _ _⟩
section
variable {w0 w w' : World} {f f' : Kl} {C : Nat → Kc} {R : List Ru} {D : List Ak} {jk : ByteArray} {sf : Nat} {lf : Int} {st : Bool} {dA mA : Option Addr} {dc mc : Nat}
theorem rcp_many {base p q : Nat} {g h : Option Nat} {s : Cs} (j : RCp w base p q g h R s) : w.cell? ⟨p, 3, none⟩ = some (.int .i64 s.n) ∧ p < w.heap.size := by
  obtain ⟨RA, rc, A, c, D, h1, _⟩ := j.there
  exact ⟨h1.cell rfl, h1.lt⟩
theorem kc_last (h : KC w0 w f C R D dA dc mA mc) : ∃ g off, dA = some ⟨g, off, none⟩ ∧ g < w.heap.size ∧ D.length + 1 ≤ dc ∧ dc ≤ maxLen ∧ ∀ i, i ≤ D.length → w.cell? ⟨g, off + i, none⟩ = some (.pointer (some ⟨(C i).p, 0, none⟩)) := by
  obtain ⟨g, off, c, e, h1, h2⟩ := h.dw.at_ (Nat.succ_pos _)
  obtain ⟨A2, c2, e2, _, h3⟩ := h.dw.form
  injection e2 with e3 e4 e5
  injection e with e6 e7 e8
  subst e6 e8
  exact ⟨g, off, rfl, (h.dw.block rfl).2.lt, h1, by rw [e5]; exact h3, fun i hi => h2 i _ (kcPs_at (by omega))⟩
theorem kc_mark (h : KC w0 w f C R D dA dc mA mc) : ∃ g off, mA = some ⟨g, off, none⟩ ∧ g < w.heap.size ∧ D.length + 1 ≤ mc ∧ mc ≤ maxLen ∧ ∀ i, i ≤ D.length → w.cell? ⟨g, off + i, none⟩ = some (.int .i64 (((recs (D.take i)).size : Nat) : Int)) := by
  obtain ⟨g, off, c, e, h1, h2⟩ := h.mw.at_ (Nat.succ_pos _)
  obtain ⟨A2, c2, e2, _, h3⟩ := h.mw.form
  injection e2 with e3 e4 e5
  injection e with e6 e7 e8
  subst e6 e8
  exact ⟨g, off, rfl, (h.mw.block rfl).2.lt, h1, by rw [e5]; exact h3, fun i hi => h2 i _ (kcMs_at (by omega))⟩
/-- behind the copy's append, ahead of the mark's -/
structure KD (w0 w : World) (f : Kl) (C : Nat → Kc) (R : List Ru) (D : List Ak) (a : Ak) (dA : Option Addr) (dc : Nat) (mA : Option Addr) (mc : Nat) : Prop where
  cps : ∀ i, i ≤ D.length + 1 → RCp w w0.heap.size (C i).p (C i).q (C i).g (C i).h R (cpD R ((D ++ [a]).take i))
  dj : ∀ i, i ≤ D.length + 1 → Dsj f.M (C i).M
  dw : Win w w0.heap.size 46 1 (.slice dA (D.length + 2) dc) (D.length + 2) (kcPs C (D.length + 2))
  mw : Win w w0.heap.size 3 1 (.slice mA (D.length + 1) mc) (D.length + 1) (kcMs D (D.length + 1))
theorem KD.keep {a : Ak} (h : KD w0 w f C R D a dA dc mA mc) (k : Below w.heap.size w w') : KD w0 w' f C R D a dA dc mA mc :=
  ⟨fun i hi => (h.cps i hi).keep k, h.dj, h.dw.keep k, h.mw.keep k⟩
theorem kd_of (h : KC w0 w f C R D dA dc mA mc) {a : Ak} {D2 : List Ak} (hl : KL w0 w f R D2 jk sf lf st) {c : Kc} (j : RCp w w0.heap.size c.p c.q c.g c.h R (cpD R (D ++ [a]))) (hd : Dsj f.M c.M)
    (hg : w.grownBy w' (Value.slice dA (D.length + 1) dc).ownBlock) {dA' : Option Addr} {dc' : Nat} (hw : Win w' w0.heap.size 46 1 (.slice dA' (D.length + 1 + 1) dc') (D.length + 1 + 1) (kcPs C (D.length + 1) ++ [.pointer (some ⟨c.p, 0, none⟩)])) :
    KL w0 w' f R D2 jk sf lf st ∧ KD w0 w' f (addC C (D.length + 1) c) R D a dA' dc' mA mc := by
  obtain ⟨h1, h2, h3, h4⟩ := kc_done h hl j hg
  refine ⟨h1, fun i hi => ?_, fun i hi => ?_, by rw [kcPs_snoc]; exact hw, h4⟩
  · by_cases e : i = D.length + 1
    · subst e
      rw [show (D ++ [a]).take (D.length + 1) = D ++ [a] from List.take_of_length_le (by simp)]
      rw [show addC C (D.length + 1) c (D.length + 1) = c from if_pos rfl]
      exact h2
    · rw [show addC C (D.length + 1) c i = C i from if_neg e, List.take_append_of_le_length (by omega)]
      exact h3 i (by omega)
  · by_cases e : i = D.length + 1
    · subst e
      rw [show addC C (D.length + 1) c (D.length + 1) = c from if_pos rfl]
      exact hd
    · rw [show addC C (D.length + 1) c i = C i from if_neg e]
      exact h.dj i (by omega)
theorem kc_of {a : Ak} {D2 : List Ak} (h : KD w0 w f C R D a dA dc mA mc) (hl : KL w0 w f R D2 jk sf lf st)
    (hg : w.grownBy w' (Value.slice mA (D.length + 1) mc).ownBlock) {mA' : Option Addr} {mc' : Nat} (hw : Win w' w0.heap.size 3 1 (.slice mA' (D.length + 1 + 1) mc') (D.length + 1 + 1) (kcMs D (D.length + 1) ++ [.int .i64 (((recs (D ++ [a])).size : Nat) : Int)])) :
    KL w0 w' f R D2 jk sf lf st ∧ KC w0 w' f C R (D ++ [a]) dA dc mA' mc' := by
  have k := Chs.grown hg
  have hM : ∀ x, (Value.slice mA (D.length + 1) mc).ownBlock = some x → w0.heap.size ≤ x ∧ kin w x 3 := fun x hx => h.mw.block hx
  have hn : ∀ {t : TypeId} x, (Value.slice mA (D.length + 1) mc).ownBlock = some x → t ≠ 3 → ¬ kin w x t := fun x hx ht hk => ht (hk.ne (hM x hx).2)
  have hlen : (D ++ [a]).length = D.length + 1 := by simp
  refine ⟨hl.far k (fun x hx => ⟨(hM x hx).1, hn x hx (by decide), hn x hx (by decide)⟩) (fun x hx e => lg_nk hl.lg (by decide) (by decide) (by decide) (by decide) x e (hM x hx).2), fun i hi => ?_, fun i hi => h.dj i (by omega), ?_, ?_⟩
  · exact (h.cps i (by omega)).far k fun x hx => ⟨(hM x hx).1, hn x hx (by decide), fun e => (h.cps i (by omega)).nk (by decide) (by decide) (by decide) (by decide) x e (hM x hx).2⟩
  · rw [hlen]
    exact h.dw.stay fun g hg => k.block g (h.dw.block hg).2.lt fun e => hn g e (by decide) (h.dw.block hg).2
  · rw [hlen, kcMs_snoc]
    exact hw
theorem kl_bytes' (h : KL w0 w f R D jk sf lf st) {N : Nat} (e : (recs D ++ jk).size = N) : Calls Tryz.prog 9 #[.pointer (some ⟨f.P, 0, none⟩)] w fun e w' => e = .returned (.int .i64 N) ∧ w = w' := by
  subst e; exact kl_bytes h
theorem kl_size (h : KL w0 w f R D jk sf lf st) : (recs D ++ jk).size ≤ 1000000 := by
  have h1 := recs_size D (h.vd.all (by have := h.len; omega))
  have := h.js; have := h.len
  rw [size_app]; omega
theorem kc_cpn (h : KC w0 w f C R D dA dc mA mc) : RCp w w0.heap.size (C D.length).p (C D.length).q (C D.length).g (C D.length).h R (cpD R D) := by
  have := h.cps D.length (Nat.le_refl _)
  rwa [List.take_length] at this
theorem kc_mark_any (hl : KL w0 w f R D jk sf lf st) (h : KC w0 w f C R D dA dc mA mc) :
    Calls Tryz.prog 17 #[.pointer (some ⟨(C D.length).p, 0, none⟩)] w fun e w' => e = .returned (.tuple #[.int .i64 D.length, .int .i64 (mkV (cpD R D))]) ∧ Below w.heap.size w w' := by
  have c := rcmark_any (kc_cpn h)
  rw [hl.vd.n] at c
  exact c
/-- the two marks at a deed's end -/
theorem kc_tail (ht : ∀ W, Below w0.heap.size w0 W → LT W) (hl : KL w0 w f R D jk sf lf st) (h : KC w0 w f C R D dA dc mA mc) {n : Nat} (e : D.length = n) : ∃ gt ot pp V, dA = some ⟨gt, ot, none⟩ ∧ gt < w.heap.size ∧ n + 1 ≤ dc ∧ dc ≤ 9223372036854775807 ∧ n ≤ 30 ∧ w.cell? ⟨gt, ot + n, none⟩ = some (.pointer (some ⟨pp, 0, none⟩)) ∧
    Hid (Calls Tryz.prog 8 #[.pointer (some ⟨f.P, 0, none⟩)] w fun e w' => e = .returned (.tuple #[.int .i64 n, .int .i64 V]) ∧ Below w.heap.size w w') ∧
    Hid (∀ W', Below w.heap.size w W' → Calls Tryz.prog 17 #[.pointer (some ⟨pp, 0, none⟩)] W' fun e w' => e = .returned (.tuple #[.int .i64 n, .int .i64 V]) ∧ Below W'.heap.size W' w') := by
  subst e
  obtain ⟨gt, ot, hd, hg, h1, h2, h3⟩ := kc_last h
  exact ⟨gt, ot, (C D.length).p, mkV (cpD R D), hd, hg, h1, h2, hl.len, h3 _ (Nat.le_refl _), Lib.hid (kl_mark hl ht), Lib.hid fun W' hW => kc_mark_any (hl.keep hW) (h.keep hW)⟩
theorem infoPRC : (Tryz.prog.info? 46).map (fun i => (i.zero, i.size, i.bytes)) = some (some (.pointer none), 1, 8) := by kernel_rfl
theorem infoI64 : (Tryz.prog.info? 3).map (fun i => (i.zero, i.size, i.bytes)) = some (some (.int .i64 0), 1, 8) := by kernel_rfl
/-- is it told again? -/
def agn (R : List Ru) (D : List Ak) (a : Ak) : Bool := decide (doE R (cpD R D) a = 0) && agB (cpD R D) a
/-- is it new, and the log full? -/
def ful (R : List Ru) (D : List Ak) (a : Ak) : Bool := decide (doE R (cpD R D) a = 0 ∧ agB (cpD R D) a = false ∧ D.length = 30)
theorem doC_same {R : List Ru} {s : Cs} {a : Ak} (h : doE R s a ≠ 0 ∨ agB s a = true) : (doC R s a).n = s.n := by rw [doC, if_pos h]
theorem lk_ful {a : Ak} (h : ful R D a = true) : lkE R D a = 4 ∧ lkS R D a = ⟨#[]⟩ := ⟨if_pos (of_decide_eq_true h), if_pos (of_decide_eq_true h)⟩
theorem lk_not {a : Ak} (h : ful R D a = false) : lkE R D a = doE R (cpD R D) a ∧ lkS R D a = doS R (cpD R D) a := ⟨if_neg (of_decide_eq_false h), if_neg (of_decide_eq_false h)⟩
/-- the copy that did one more, beside what is kept -/
theorem next_of {base p' q' : Nat} {g' h' g2 h2 : Option Nat} {w1 w2 w3 : World} {s s' : Cs} (hb2 : Below w1.heap.size w1 w2) (hnew : ∀ b, RCM p' q' g' h' b → w1.heap.size ≤ b) (hch : Chs (RCM p' q' g' h') w2 w3)
    (hg : Nwb g' g2 w2.heap.size) (hh : Nwb h' h2 w2.heap.size) : Below w1.heap.size w1 w3 ∧ ∀ b, RCM p' q' g2 h2 b → w1.heap.size ≤ b := by
  refine ⟨hb2.trans (hch.below hnew hb2.size), fun b hb => ?_⟩
  rcases hb with rfl | rfl | hb | hb
  · exact hnew _ (.inl rfl)
  · exact hnew _ (.inr (.inl rfl))
  · rcases hg b hb with h | h
    · exact hnew _ (.inr (.inr (.inl h)))
    · exact Nat.le_trans hb2.size h
  · rcases hh b hb with h | h
    · exact hnew _ (.inr (.inr (.inr h)))
    · exact Nat.le_trans hb2.size h
/-- the twin's blocks are none of the log's -/
theorem new_dsj {M : Nat → Prop} {c : Kc} (hl : ∀ x, M x → x < w.heap.size) (hn : ∀ x, c.M x → w.heap.size ≤ x) : Dsj M c.M := fun x h1 h2 => by
  have := hl x h1; have := hn x h2; omega
end
end Go.Proofs.YtfelefkmbbfdjaaGreatDoor.logKeeps
