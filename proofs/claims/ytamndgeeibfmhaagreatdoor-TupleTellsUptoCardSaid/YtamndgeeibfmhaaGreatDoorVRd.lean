/- Texts as values: value.Read and Parse: what each returns. -/
import Derived.Test.YtamndgeeibfmhaaGreatDoorRRd
import Derived.Test.YtamndgeeibfmhaaGreatDoorWord
import Derived.Test.YtamndgeeibfmhaaGreatDoorChs
import Derived.Test.YtamndgeeibfmhaaGreatDoorShelf
namespace Go.Proofs.YtamndgeeibfmhaaGreatDoor
open Go.RowKit Go.Joins
set_option linter.unusedVariables false

/-- strconv's two errors are laid -/
def EE (w : World) : Prop := (∃ t p, w.cell? ⟨4, 0, none⟩ = some (.iface t p)) ∧ ∃ t p, w.cell? ⟨5, 0, none⟩ = some (.iface t p)
theorem EE.below {w w' : World} {B : Nat} (h : EE w) (hb : Below B w w') (hB : w.heap.size ≤ B) : EE w' := by
  obtain ⟨⟨t, p, h1⟩, ⟨t2, p2, h2⟩⟩ := h
  exact ⟨⟨t, p, (hb.cell (p := ⟨4, 0, none⟩) (Nat.lt_of_lt_of_le (lt_of_cell h1) hB)).trans h1⟩, ⟨t2, p2, (hb.cell (p := ⟨5, 0, none⟩) (Nat.lt_of_lt_of_le (lt_of_cell h2) hB)).trans h2⟩⟩
theorem atoi_ok (s : ByteArray) (hs : s.size ≤ 140737488351232) (v : Int) (h : Lib.atoiAll s.data.toList = .ok v) (w : World) :
    Calls Tryz.prog 52 #[.string s] w fun e w' => e = .returned (.tuple #[.int .i64 v, .nilIface]) ∧ Below w.heap.size w w' :=
  (Tryz.strconv_Atoi_ok s (by omega) v h w).mono fun e w' ⟨h1, h2⟩ => ⟨h1, by
    rcases h2 with h2 | ⟨t, h2⟩
    · rw [h2]; exact Below.refl _ _
    · rw [h2]; exact Lib.bytesWorld_below _ _ _⟩
/-- the error that strconv.Atoi gives: its type, and where it lies -/
def NotNum (w : World) (e : Ending) (w' : World) : Prop := ∃ (m : Int) (T : TypeId) (N : Nat), e = .returned (.tuple #[.int .i64 m, .iface T (.pointer (some ⟨N, 0, none⟩))]) ∧ Below w.heap.size w w'
theorem atoi_no (s : ByteArray) (hs : s.size ≤ 140737488351232) (h : ∀ v, Lib.atoiAll s.data.toList ≠ .ok v) (w : World) (he : EE w) : Calls Tryz.prog 52 #[.string s] w (NotNum w) := by
  obtain ⟨⟨t, p, h1⟩, ⟨t2, p2, h2⟩⟩ := he
  cases ha : Lib.atoiAll s.data.toList with
  | ok v => exact absurd ha (h v)
  | range => exact (Tryz.strconv_Atoi_range s (by omega) ha _ w h2 (.inr ⟨t2, p2, rfl⟩)).mono fun e w' ⟨N, q1, _, _, q2⟩ => ⟨_, _, N, q1, q2⟩
  | _ => exact (Tryz.strconv_Atoi_syntax s (by omega) ha _ w h1 (.inr ⟨t, p, rfl⟩)).mono fun e w' ⟨N, q1, _, _, q2⟩ => ⟨_, _, N, q1, q2⟩
theorem pre_yes {s : ByteArray} {c : UInt8} (h : 0 < s.size) (hc : s[0] = c) : Lib.hasPrefix s.data.toList [c] = true := by
  have := head_of h
  cases hl : s.data.toList with
  | nil => rw [hl] at this; cases this
  | cons x r =>
    rw [hl] at this
    simp only [List.head?_cons, Option.some.injEq] at this
    rw [this, hc]
    simp [Lib.hasPrefix, List.isPrefixOf]
theorem pre_no {s : ByteArray} {c : UInt8} (h : ∀ h : 0 < s.size, s[0] ≠ c) : Lib.hasPrefix s.data.toList [c] = false := by
  cases hl : s.data.toList with
  | nil => rfl
  | cons x r =>
    have hp : 0 < s.size := by
      show 0 < s.data.size
      rw [← Array.length_toList, hl]; simp
    have := head_of hp
    rw [hl] at this
    simp only [List.head?_cons, Option.some.injEq] at this
    have h2 := h hp
    rw [← this] at h2
    have h3 : (c == x) = false := by rw [beq_eq_false_iff_ne]; exact fun e => h2 e.symm
    simp [Lib.hasPrefix, List.isPrefixOf, h3]
theorem cutp_yes (s : ByteArray) (hs : s.size ≤ 140737488351232) (h : 0 < s.size) (hc : s[0] = 58) (w : World) :
    Calls Tryz.prog 51 #[.string s, .string ⟨#[58]⟩] w fun e w' => e = .returned (.tuple #[.string (s.extract 1 s.size), .bool true]) ∧ w = w' := by
  have c1 := fun W => Tryz.stringslite_HasPrefix s ⟨#[58]⟩ W
  have hp := pre_yes h hc
  rw [show (ByteArray.mk #[58]).data.toList = [58] from rfl, hp] at c1
  have C1 := Lib.hid c1
  have h1 : (1 : Int) ≤ (s.size : Int) := by omega
  clear c1 hp hc
  go_enter Tryz.func51, Tryz.ntmps51
  go_wp2_with (first | (go_at_call 74; refine (C1.out _).mono ?_; rintro e w' ⟨rfl, rfl⟩) | go_in)
  go_ret2
  exact ⟨rfl, rfl⟩
theorem cutp_no (s : ByteArray) (hc : ∀ h : 0 < s.size, s[0] ≠ 58) (w : World) :
    Calls Tryz.prog 51 #[.string s, .string ⟨#[58]⟩] w fun e w' => e = .returned (.tuple #[.string s, .bool false]) ∧ w = w' := by
  have c1 := fun W => Tryz.stringslite_HasPrefix s ⟨#[58]⟩ W
  have hp := pre_no hc
  rw [show (ByteArray.mk #[58]).data.toList = [58] from rfl, hp] at c1
  have C1 := Lib.hid c1
  clear c1 hp hc
  go_enter Tryz.func51, Tryz.ntmps51
  go_wp2_with (first | (go_at_call 74; refine (C1.out _).mono ?_; rintro e w' ⟨rfl, rfl⟩) | go_in)
  go_ret2
  exact ⟨rfl, rfl⟩
theorem trimp_any (s : ByteArray) (w : World) :
    Calls Tryz.prog 53 #[.string s, .string ⟨#[45]⟩] w fun e w' => e = .returned (.string ⟨(Lib.trimPrefix s.data.toList [45]).toArray⟩) ∧ w = w' :=
  (Tryz.strings_TrimPrefix s ⟨#[45]⟩ w).mono fun e w' ⟨h1, h2⟩ => ⟨h1, h2.symm⟩
section
variable {w w1 : World} {b : Nat}
/-- the block of a result that is nought yet -/
abbrev Z0 (w : World) (b : Nat) : Prop := AtB w b #[.int .i64 0, .int .i64 0, .string ⟨#[]⟩] 41
end
theorem set3 {w0 w : World} {b : Nat} (h : Below w0.heap.size w0 w) (hb : w0.heap.size ≤ b) (x y z : Value) : Below w0.heap.size w0 (((w.setCell ⟨b, 0, none⟩ x).setCell ⟨b, 1, none⟩ y).setCell ⟨b, 2, none⟩ z) := ((h.setCell hb _).setCell hb _).setCell hb _
set_option maxHeartbeats 1600000 in
set_option maxRecDepth 100000 in
theorem vread_star (w : World) : Calls Tryz.prog 37 #[.string ⟨#[42]⟩] w fun e w' => e = .returned (.tuple #[.agg #[.int .i64 2, .int .i64 0, .string ⟨#[]⟩], .bool true]) ∧ Below w.heap.size w w' := by
  go_enter Tryz.func37, Tryz.ntmps37
  go_wp2_with fail
  exact bodyPost_ret (v := .tuple #[.agg #[.int .i64 2, .int .i64 0, .string ⟨#[]⟩], .bool true]) (by simp [results, Tryz.results37, go_sem]) rfl ⟨rfl, (by repeat (first | exact Below.refl _ _ | assumption | refine bal ?_ _ | refine bdn ?_ _ | refine bdr ?_ | refine bcl ?_ (by assumption)))⟩
set_option maxHeartbeats 1600000 in
set_option maxRecDepth 100000 in
theorem vread_text (s : ByteArray) (hs : s.size ≤ 140737488351232) (h : 0 < s.size) (h42 : s ≠ ⟨#[42]⟩) (hc : s[0] = 58) (w : World) :
    Calls Tryz.prog 37 #[.string s] w fun e w' => e = .returned (.tuple #[.agg #[.int .i64 1, .int .i64 0, .string (s.extract 1 s.size)], .bool true]) ∧ Below w.heap.size w w' := by
  have t1 := star_other h42
  have c1 := fun W => cutp_yes s hs h hc W
  have C1 := Lib.hid c1
  clear c1 hc h42
  go_enter Tryz.func37, Tryz.ntmps37
  go_wp2_with (go_at_call 51; refine (C1.out _).mono ?_; rintro e w' ⟨rfl, rfl⟩)
  exact bodyPost_ret (v := .tuple #[.agg #[.int .i64 1, .int .i64 0, .string (s.extract 1 s.size)], .bool true]) (by simp [results, Tryz.results37, go_sem]) rfl ⟨rfl, (by repeat (first | exact Below.refl _ _ | assumption | refine bal ?_ _ | refine bdn ?_ _ | refine bdr ?_ | refine bcl ?_ (by assumption)))⟩
set_option maxHeartbeats 1600000 in
set_option maxRecDepth 100000 in
theorem vread_bad (s : ByteArray) (hs : s.size ≤ 140737488351232) (h42 : s ≠ ⟨#[42]⟩) (hc : ∀ h : 0 < s.size, s[0] ≠ 58) (hn : ∀ v, Lib.atoiAll s.data.toList ≠ .ok v) (w : World) (he : EE w) :
    Calls Tryz.prog 37 #[.string s] w fun e w' => (∃ m : Int, e = .returned (.tuple #[.agg #[.int .i64 0, .int .i64 m, .string ⟨#[]⟩], .bool false])) ∧ Below w.heap.size w w' := by
  have t1 := star_other h42
  have c1 := fun W => cutp_no s hc W
  have c2 := atoi_no s hs hn (w.alloc (.cells #[.int .i64 0, .int .i64 0, .string ⟨#[]⟩] 41)) (he.below (bal1 w _) (Nat.le_refl _))
  have C1 := Lib.hid c1; have C2 := Lib.hid c2
  clear c1 c2 hc h42 hn he
  go_enter Tryz.func37, Tryz.ntmps37
  go_wp2_with (first | (go_at_call 51; refine (C1.out _).mono ?_; rintro e w' ⟨rfl, rfl⟩) | (go_at_call 52; refine C2.out.mono ?_; rintro e w1 ⟨m, T, N, rfl, hb1⟩; have hz := (AtB.new w #[.int .i64 0, .int .i64 0, .string ⟨#[]⟩] 41).below hb1 (by simp); have p0 := hz.cell (i := 0) rfl; have p1 := hz.cell (i := 1) rfl; have p2 := hz.cell (i := 2) rfl; have f0 := hz.frozen 0; have f1 := hz.frozen 1; have f2 := hz.frozen 2; have HB := Lib.hid (bcl (bal1 w _) hb1); have hzl := hz.lt; clear hb1 hz))
  exact bodyPost_ret (v := .tuple #[.agg #[.int .i64 0, .int .i64 m, .string ⟨#[]⟩], .bool false]) (by simp [results, Tryz.results37, go_sem, p0, p1, p2]) rfl ⟨⟨m, rfl⟩, by first | exact HB.out | exact set3 HB.out (Nat.le_refl _) _ _ _⟩
set_option maxHeartbeats 1600000 in
set_option maxRecDepth 100000 in
theorem vread_num (s : ByteArray) (hs : s.size ≤ 140737488351232) (h42 : s ≠ ⟨#[42]⟩) (hc : ∀ h : 0 < s.size, s[0] ≠ 58) (n : Int) (hn : Lib.atoiAll s.data.toList = .ok n) (w : World) (ht : TT w) :
    Calls Tryz.prog 37 #[.string s] w fun e w' => e = .returned (.tuple #[.agg #[.int .i64 0, .int .i64 n, .string ⟨#[]⟩], .bool (decide (Lib.itoa n = s.data.toList ∧ (Lib.trimPrefix s.data.toList [45]).length ≤ 7))]) ∧ Below w.heap.size w w' := by
  have t1 := star_other h42
  have c1 := fun W => cutp_no s hc W
  have c2 := atoi_ok s hs n hn (w.alloc (.cells #[.int .i64 0, .int .i64 0, .string ⟨#[]⟩] 41))
  obtain ⟨n0, n1⟩ := Lib.atoiAll_bounds hn
  have c3 := fun (W : World) (hW : Below w.heap.size w W) => itoa_any n n0 n1 W (tab_stays (g := 6) (by kernel_rfl) ht hW (Nat.le_refl _))
  have c4 := fun W => trimp_any s W
  obtain ⟨tx, htx⟩ : ∃ tx : ByteArray, tx = ⟨(Lib.itoa n).toArray⟩ := ⟨_, rfl⟩
  obtain ⟨tp, htp⟩ : ∃ tp : ByteArray, tp = ⟨(Lib.trimPrefix s.data.toList [45]).toArray⟩ := ⟨_, rfl⟩
  have e1 : Lib.itoa n = s.data.toList ↔ tx = s := by
    rw [htx]
    exact ⟨fun h => bytes_eq (by rw [← h]), fun h => by rw [← h]⟩
  have e2 : (Lib.trimPrefix s.data.toList [45]).length = tp.size := by rw [htp]; simp [ByteArray.size]
  rw [← htx] at c3
  rw [← htp] at c4
  have hd : decide (Lib.itoa n = s.data.toList ∧ (Lib.trimPrefix s.data.toList [45]).length ≤ 7) = decide (tx = s ∧ tp.size ≤ 7) := decide_eq_decide.2 (by rw [e1, e2])
  rw [hd]
  have C1 := Lib.hid c1; have C2 := Lib.hid c2; have C3 := Lib.hid c3; have C4 := Lib.hid c4
  clear c1 c2 c3 c4 hc h42 hn ht hd e1 e2 htx htp n0 n1
  by_cases hx : tx = s
  · subst hx
    have t2 := str_same tx
    by_cases h7 : tp.size ≤ 7
    · rw [decide_eq_true (⟨rfl, h7⟩ : tx = tx ∧ tp.size ≤ 7)]
      have d7 : (tp.size : Int) ≤ 7 := by omega
      clear h7
      go_enter Tryz.func37, Tryz.ntmps37
      go_wp2_with (first | (go_at_call 51; refine (C1.out _).mono ?_; rintro e w' ⟨rfl, rfl⟩) | (go_at_call 52; refine C2.out.mono ?_; rintro e w1 ⟨rfl, hb1⟩; have HB1 := Lib.hid (bcl (bal1 w _) hb1); have HZ1 := Lib.hid ((AtB.new w #[.int .i64 0, .int .i64 0, .string ⟨#[]⟩] 41).below hb1 (by simp)); clear hb1) | (go_at_call 44; refine (C3.out _ HB1.out).mono ?_; rintro e w2 ⟨rfl, hb2⟩; have hz := HZ1.out.below hb2 HZ1.out.lt; have p0 := hz.cell (i := 0) rfl; have p1 := hz.cell (i := 1) rfl; have p2 := hz.cell (i := 2) rfl; have f0 := hz.frozen 0; have f1 := hz.frozen 1; have f2 := hz.frozen 2; have HB := Lib.hid (bcl HB1.out hb2); have hzl := hz.lt; clear hb2 hz) | (go_at_call 53; refine (C4.out _).mono ?_; rintro e w' ⟨rfl, rfl⟩))
      exact bodyPost_ret (v := .tuple #[.agg #[.int .i64 0, .int .i64 n, .string ⟨#[]⟩], .bool true]) (by simp [results, Tryz.results37, go_sem, p0, p1, p2]) rfl ⟨rfl, by first | exact HB.out | exact set3 HB.out (Nat.le_refl _) _ _ _⟩
    · rw [decide_eq_false (fun h => h7 h.2 : ¬ (tx = tx ∧ tp.size ≤ 7))]
      have d7 : decide ((tp.size : Int) ≤ 7) = false := by simp; omega
      clear h7
      go_enter Tryz.func37, Tryz.ntmps37
      go_wp2_with (first | (go_at_call 51; refine (C1.out _).mono ?_; rintro e w' ⟨rfl, rfl⟩) | (go_at_call 52; refine C2.out.mono ?_; rintro e w1 ⟨rfl, hb1⟩; have HB1 := Lib.hid (bcl (bal1 w _) hb1); have HZ1 := Lib.hid ((AtB.new w #[.int .i64 0, .int .i64 0, .string ⟨#[]⟩] 41).below hb1 (by simp)); clear hb1) | (go_at_call 44; refine (C3.out _ HB1.out).mono ?_; rintro e w2 ⟨rfl, hb2⟩; have hz := HZ1.out.below hb2 HZ1.out.lt; have p0 := hz.cell (i := 0) rfl; have p1 := hz.cell (i := 1) rfl; have p2 := hz.cell (i := 2) rfl; have f0 := hz.frozen 0; have f1 := hz.frozen 1; have f2 := hz.frozen 2; have HB := Lib.hid (bcl HB1.out hb2); have hzl := hz.lt; clear hb2 hz) | (go_at_call 53; refine (C4.out _).mono ?_; rintro e w' ⟨rfl, rfl⟩))
      exact bodyPost_ret (v := .tuple #[.agg #[.int .i64 0, .int .i64 n, .string ⟨#[]⟩], .bool false]) (by simp [results, Tryz.results37, go_sem, p0, p1, p2]) rfl ⟨rfl, by first | exact HB.out | exact set3 HB.out (Nat.le_refl _) _ _ _⟩
  · rw [decide_eq_false (fun h => hx h.1 : ¬ (tx = s ∧ tp.size ≤ 7))]
    have t2 := str_other hx
    clear hx
    go_enter Tryz.func37, Tryz.ntmps37
    go_wp2_with (first | (go_at_call 51; refine (C1.out _).mono ?_; rintro e w' ⟨rfl, rfl⟩) | (go_at_call 52; refine C2.out.mono ?_; rintro e w1 ⟨rfl, hb1⟩; have HB1 := Lib.hid (bcl (bal1 w _) hb1); have HZ1 := Lib.hid ((AtB.new w #[.int .i64 0, .int .i64 0, .string ⟨#[]⟩] 41).below hb1 (by simp)); clear hb1) | (go_at_call 44; refine (C3.out _ HB1.out).mono ?_; rintro e w2 ⟨rfl, hb2⟩; have hz := HZ1.out.below hb2 HZ1.out.lt; have p0 := hz.cell (i := 0) rfl; have p1 := hz.cell (i := 1) rfl; have p2 := hz.cell (i := 2) rfl; have f0 := hz.frozen 0; have f1 := hz.frozen 1; have f2 := hz.frozen 2; have HB := Lib.hid (bcl HB1.out hb2); have hzl := hz.lt; clear hb2 hz))
    exact bodyPost_ret (v := .tuple #[.agg #[.int .i64 0, .int .i64 n, .string ⟨#[]⟩], .bool false]) (by simp [results, Tryz.results37, go_sem, p0, p1, p2]) rfl ⟨rfl, by first | exact HB.out | exact set3 HB.out (Nat.le_refl _) _ _ _⟩
end Go.Proofs.YtamndgeeibfmhaaGreatDoor
