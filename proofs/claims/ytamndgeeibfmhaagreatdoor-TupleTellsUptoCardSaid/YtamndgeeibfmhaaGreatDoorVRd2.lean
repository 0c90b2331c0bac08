/- value.Parse: what it returns. -/
import Derived.Test.YtamndgeeibfmhaaGreatDoorVRd
namespace Go.Proofs.YtamndgeeibfmhaaGreatDoor
open Go.RowKit Go.Joins
set_option linter.unusedVariables false

theorem text_cases {s : ByteArray} : s = ⟨#[42]⟩ ∨ (s ≠ ⟨#[42]⟩ ∧ ∃ h : 0 < s.size, s[0] = 58) ∨ (s ≠ ⟨#[42]⟩ ∧ ∀ h : 0 < s.size, s[0] ≠ 58) := by
  by_cases h : s = ⟨#[42]⟩
  · exact .inl h
  · by_cases h2 : ∃ h : 0 < s.size, s[0] = 58
    · exact .inr (.inl ⟨h, h2⟩)
    · exact .inr (.inr ⟨h, fun h3 e => h2 ⟨h3, e⟩⟩)
theorem rdV_numA {s : ByteArray} (h1 : s ≠ ⟨#[42]⟩) (h2 : ∀ h : 0 < s.size, s[0] ≠ 58) : rdV s = (rdA s.data.toList).map fun n => ⟨0, n, ⟨#[]⟩⟩ := by
  rw [rd_eq]
  refine rdV_num h1 ?_
  by_cases h : 0 < s.size
  · exact .inr ⟨h, fun e => h2 h ((byte_eq (by decide)).1 e)⟩
  · exact .inl (by omega)
theorem vread_some (s : ByteArray) (hs : s.size ≤ 140737488351232) (v : Va) (h : rdV s = some v) (w : World) (ht : TT w) :
    Calls Tryz.prog 37 #[.string s] w fun e w' => e = .returned (.tuple #[.agg #[.int .i64 v.k, .int .i64 v.n, .string v.s], .bool true]) ∧ Below w.heap.size w w' := by
  rcases @text_cases s with e | ⟨e, h0, hc⟩ | ⟨e, hc⟩
  · subst e
    rw [rdV, if_pos rfl] at h
    simp only [Option.some.injEq] at h
    subst h
    exact vread_star w
  · rw [rdV_text e h0 (by rw [hc]; rfl)] at h
    simp only [Option.some.injEq] at h
    subst h
    exact vread_text s hs h0 e hc w
  · rw [rdV_numA e hc] at h
    cases ha : Lib.atoiAll s.data.toList with
    | ok n =>
      have hn := vread_num s hs e hc n ha w ht
      by_cases hx : Lib.itoa n = s.data.toList ∧ (Lib.trimPrefix s.data.toList [45]).length ≤ 7
      · rw [rdA, ha] at h
        simp only [if_pos hx, Option.map, Option.some.injEq] at h
        subst h
        rw [decide_eq_true hx] at hn
        exact hn
      · rw [rdA, ha] at h
        simp only [if_neg hx, Option.map] at h
        cases h
    | range => rw [rdA, ha] at h; cases h
    | _ => rw [rdA, ha] at h; cases h
/-- a value that is none: whatever number stands in it -/
def NoVal (w : World) (e : Ending) (w' : World) : Prop := ∃ m : Int, e = .returned (.tuple #[.agg #[.int .i64 0, .int .i64 m, .string ⟨#[]⟩], .bool false]) ∧ Below w.heap.size w w'
theorem vread_none (s : ByteArray) (hs : s.size ≤ 140737488351232) (h : rdV s = none) (w : World) (ht : TT w) (he : EE w) : Calls Tryz.prog 37 #[.string s] w (NoVal w) := by
  rcases @text_cases s with e | ⟨e, h0, hc⟩ | ⟨e, hc⟩
  · subst e
    rw [rdV, if_pos rfl] at h
    cases h
  · rw [rdV_text e h0 (by rw [hc]; rfl)] at h
    cases h
  · rw [rdV_numA e hc] at h
    cases ha : Lib.atoiAll s.data.toList with
    | ok n =>
      have hn := vread_num s hs e hc n ha w ht
      by_cases hx : Lib.itoa n = s.data.toList ∧ (Lib.trimPrefix s.data.toList [45]).length ≤ 7
      · rw [rdA, ha] at h
        simp only [if_pos hx, Option.map] at h
        cases h
      · rw [decide_eq_false hx] at hn
        exact hn.mono fun e w' ⟨h1, h2⟩ => ⟨n, h1, h2⟩
    | range => exact (vread_bad s hs e hc (fun v => by rw [ha]; intro h; cases h) w he).mono fun e w' ⟨⟨m, h1⟩, h2⟩ => ⟨m, h1, h2⟩
    | _ => exact (vread_bad s hs e hc (fun v => by rw [ha]; intro h; cases h) w he).mono fun e w' ⟨⟨m, h1⟩, h2⟩ => ⟨m, h1, h2⟩
theorem rdV_size {s : ByteArray} {v : Va} (h : rdV s = some v) (hs : s.size ≤ 140737488351232) : v.s.size ≤ maxLen := by
  rcases @text_cases s with e | ⟨e, h0, hc⟩ | ⟨e, hc⟩
  · subst e
    rw [rdV, if_pos rfl] at h
    simp only [Option.some.injEq] at h
    subst h
    decide
  · rw [rdV_text e h0 (by rw [hc]; rfl)] at h
    simp only [Option.some.injEq] at h
    subst h
    show (s.extract 1 s.size).size ≤ maxLen
    rw [ByteArray.size_extract]; unfold maxLen; omega
  · rw [rdV_numA e hc] at h
    cases hr : rdA s.data.toList with
    | none => rw [hr] at h; cases h
    | some n =>
      rw [hr] at h
      simp only [Option.map, Option.some.injEq] at h
      subst h
      exact Nat.zero_le _
set_option maxHeartbeats 1600000 in
set_option maxRecDepth 100000 in
theorem vparse_any (s : ByteArray) (hs : s.size ≤ 140737488351232) (w : World) (ht : TT w) (he : EE w) :
    Calls Tryz.prog 27 #[.string s] w fun e w' => e = .returned (.tuple #[.agg #[.int .i64 (rdR s).k, .int .i64 (rdR s).n, .string (rdR s).s], eV (rdE s)]) ∧ Below w.heap.size w w' := by
  have hb0 := bal1 w (.cells #[.int .i64 0, .int .i64 0, .string ⟨#[]⟩] 41)
  have ht0 : TT (w.alloc (.cells #[.int .i64 0, .int .i64 0, .string ⟨#[]⟩] 41)) := tab_stays (g := 6) (by kernel_rfl) ht hb0 (Nat.le_refl _)
  have he0 : EE (w.alloc (.cells #[.int .i64 0, .int .i64 0, .string ⟨#[]⟩] 41)) := he.below hb0 (Nat.le_refl _)
  cases hv : rdV s with
  | none =>
    obtain ⟨r1, r2⟩ := rd_none hv
    rw [r1, r2]
    have c1 := vread_none s hs hv _ ht0 he0
    have C1 := Lib.hid c1
    clear c1 hv r1 r2 ht0 he0 ht he hb0
    go_enter Tryz.func27, Tryz.ntmps27
    go_wp2_with fail
    refine C1.out.mono ?_
    rintro e w1 ⟨m, rfl, hb1⟩
    have hz := (AtB.new w #[.int .i64 0, .int .i64 0, .string ⟨#[]⟩] 41).below hb1 (by simp)
    have p0 := hz.cell (i := 0) rfl; have p1 := hz.cell (i := 1) rfl; have p2 := hz.cell (i := 2) rfl
    have f0 := hz.frozen 0; have f1 := hz.frozen 1; have f2 := hz.frozen 2
    have HB := Lib.hid (bcl (bal1 w _) hb1)
    have hzl := hz.lt
    have HZ := Lib.hid hz
    clear hb1 hz
    go_wp2_with fail
    have hq := (((HZ.out.set 0 (.int .i64 0)).set 1 (.int .i64 0)).set 2 (.string ⟨#[]⟩)).alloc (.cells #[.int .i64 0, .int .i64 m, .string ⟨#[]⟩] 41)
    have q0 := hq.cell (i := 0) (v := .int .i64 0) rfl; have q1 := hq.cell (i := 1) (v := .int .i64 0) rfl; have q2 := hq.cell (i := 2) (v := .string ⟨#[]⟩) rfl
    exact bodyPost_ret (v := .tuple #[.agg #[.int .i64 0, .int .i64 0, .string ⟨#[]⟩], errV 2]) (by simp [results, Tryz.results27, go_sem, q0, q1, q2]) rfl ⟨rfl, bal (set3 HB.out (Nat.le_refl _) _ _ _) _⟩
  | some v =>
    obtain ⟨r1, r2⟩ := rd_some hv
    have c1 := vread_some s hs v hv _ ht0
    have c2 := fun W => vcheck_any v.k v.n v.s (rdV_size hv hs) W
    rw [show (Va.mk v.k v.n v.s) = v from rfl] at c2
    by_cases h0 : vaE v = 0
    · rw [h0] at r1 c2
      rw [if_pos h0] at r2
      rw [r1, r2, eV_zero]
      rw [eV_zero] at c2
      obtain ⟨k, n, tx⟩ := v
      have C1 := Lib.hid c1; have C2 := Lib.hid c2
      clear c1 c2 hv r1 r2 ht0 he0 ht he hb0 h0
      go_enter Tryz.func27, Tryz.ntmps27
      go_wp2_with fail
      refine C1.out.mono ?_
      rintro e w1 ⟨rfl, hb1⟩
      have hz := (AtB.new w #[.int .i64 0, .int .i64 0, .string ⟨#[]⟩] 41).below hb1 (by simp)
      have HZ := Lib.hid hz
      have HB := Lib.hid (bcl (bal1 w _) hb1)
      clear hb1 hz
      go_wp2_with fail
      refine (C2.out _).mono ?_
      rintro e w2 ⟨rfl, hb2⟩
      have hz := (HZ.out.alloc _).below hb2 (HZ.out.alloc _).lt
      have hx := (AtB.new w1 #[.int .i64 k, .int .i64 n, .string tx] 41).below hb2 (by simp)
      have p0 := hz.cell (i := 0) rfl; have p1 := hz.cell (i := 1) rfl; have p2 := hz.cell (i := 2) rfl
      have f0 := hz.frozen 0; have f1 := hz.frozen 1; have f2 := hz.frozen 2
      have x0 := hx.cell (i := 0) rfl; have x1 := hx.cell (i := 1) rfl; have x2 := hx.cell (i := 2) rfl
      have HB2 := Lib.hid (bcl (bal HB.out _) hb2)
      have hzl := hz.lt
      clear hb2 hz hx
      go_wp2_with fail
      exact bodyPost_ret (v := .tuple #[.agg #[.int .i64 k, .int .i64 n, .string tx], .nilIface]) (by simp [results, Tryz.results27, go_sem, p0, p1, p2]) rfl ⟨rfl, by first | exact HB2.out | exact set3 HB2.out (Nat.le_refl _) _ _ _⟩
    · rw [if_neg h0] at r2
      rw [r1, r2, eV_of h0]
      rw [eV_of h0] at c2
      obtain ⟨k, n, tx⟩ := v
      generalize vaE ⟨k, n, tx⟩ = E at *
      have C1 := Lib.hid c1; have C2 := Lib.hid c2
      clear c1 c2 hv r1 r2 ht0 he0 ht he hb0 h0
      go_enter Tryz.func27, Tryz.ntmps27
      go_wp2_with fail
      refine C1.out.mono ?_
      rintro e w1 ⟨rfl, hb1⟩
      have hz := (AtB.new w #[.int .i64 0, .int .i64 0, .string ⟨#[]⟩] 41).below hb1 (by simp)
      have HZ := Lib.hid hz
      have HB := Lib.hid (bcl (bal1 w _) hb1)
      clear hb1 hz
      go_wp2_with fail
      refine (C2.out _).mono ?_
      rintro e w2 ⟨rfl, hb2⟩
      have hz := (HZ.out.alloc _).below hb2 (HZ.out.alloc _).lt
      have p0 := hz.cell (i := 0) rfl; have p1 := hz.cell (i := 1) rfl; have p2 := hz.cell (i := 2) rfl
      have f0 := hz.frozen 0; have f1 := hz.frozen 1; have f2 := hz.frozen 2
      have HB2 := Lib.hid (bcl (bal HB.out _) hb2)
      have hzl := hz.lt
      clear hb2 hz
      go_wp2_with fail
      exact bodyPost_ret (v := .tuple #[.agg #[.int .i64 0, .int .i64 0, .string ⟨#[]⟩], errV E]) (by simp [results, Tryz.results27, go_sem, p0, p1, p2]) rfl ⟨rfl, by first | exact HB2.out | exact set3 HB2.out (Nat.le_refl _) _ _ _⟩
end Go.Proofs.YtamndgeeibfmhaaGreatDoor
