/- A vault in memory; package vault: New, at, Part, True, Put. -/
import Derived.Test.YtamndgeeibfmhaaDoorProof
import Derived.Test.YtamndgeeibfmhaaDoorShare
import Derived.Test.YtamndgeeibfmhaaDoorNest
import Derived.Test.YtamndgeeibfmhaaDoorChs
import Derived.Test.YtamndgeeibfmhaaDoorVMap
import Derived.Test.YtamndgeeibfmhaaDoorShFind
import Derived.Deep.RegionLaw
import Derived.RegionTactic
import Derived.Outline
namespace Go.Proofs.YtamndgeeibfmhaaDoor
open Go.RowKit Go.ChangeShapes Go.WideShapes Go.Deep Go.Maps Go.WideMaps
set_option linter.unusedVariables false

/-- a text as a map's key -/
def keyS (s : ByteArray) : Lit := .string s.data.toList
theorem keyS_inj {s t : ByteArray} (h : keyS s = keyS t) : s = t := bytes_eq (by unfold keyS at h; injection h)
theorem keyS_lit (s : ByteArray) : WideAt.IsKeyLit (keyS s) := by simp [keyS, WideAt.IsKeyLit]
theorem keyS_of {s : ByteArray} (h : s.size ≤ maxLen) : keyOf Tryd.prog 9 (.string s) = some (keyS s) := keyOf_string_mk Tryd.underlying9 h
theorem lawS : Keyed Tryd.prog 9 := string_keyed Tryd.underlying9
def kz : Value := .agg #[.slice none 0 0, .slice none 0 0]
theorem zeroKept (w : World) : (zeroValue 95).run Tryd.prog w = .ok kz w := by kernel_rfl
/-- what is kept of a name: the shares of q, and what it commits to -/
def Kin (X : Nat → Prop) (w : World) (base many : Nat) (q : List Int) (v : Value) : Prop :=
  ∃ A c B d, v = .agg #[.slice A many c, .slice B q.length d] ∧ Shares w A (dealL q many) ∧ (many ≤ c ∧ c ≤ maxLen) ∧ Inn w base 64 A ∧ Ints w B (cmt q) ∧ (q.length ≤ d ∧ d ≤ maxLen) ∧ Inn w base 3 B ∧ ∀ a, B = some a → ¬ X a.block
theorem cmt_length (q : List Int) : (cmt q).length = q.length := by simp [cmt]
theorem Kin.chs {X M : Nat → Prop} {w w' : World} {base many : Nat} {q : List Int} {v : Value} (h : Kin X w base many q v) (hb : base ≤ w.heap.size) (k : Chs M w w') (hM : ∀ b, M b → base ≤ b ∧ ¬ kin w b 64 ∧ (¬ kin w b 3 ∨ X b)) : Kin X w' base many q v := by
  obtain ⟨A, c, B, d, e, h1, h2, h3, h4, h5, h6, h7⟩ := h
  have s1 : ∀ a, A = some a → w'.heap[a.block]? = w.heap[a.block]? := fun a ha => k.block _ (h3.lt hb ha) fun hm => by
    obtain ⟨m1, m2, _⟩ := hM _ hm
    rcases h3 a ha with h | h
    · omega
    · exact m2 h
  have s2 : ∀ a, B = some a → w'.heap[a.block]? = w.heap[a.block]? := fun a ha => k.block _ (h6.lt hb ha) fun hm => by
    obtain ⟨m1, _, m2⟩ := hM _ hm
    rcases m2 with m2 | m2
    · rcases h6 a ha with h | h
      · omega
      · exact m2 h
    · exact h7 a ha m2
  exact ⟨A, c, B, d, e, shares_stay _ _ _ _ k.size s1 h1, h2, h3.stay s1, ints_stay _ _ _ _ k.size s2 h4, h5, h6.stay s2, h7⟩
/-- a vault at p: K tells what is kept of each name, in the map M -/
structure VltX (X : Nat → Prop) (w : World) (base p M n many need : Nat) (K : ByteArray → Option (List Int)) : Prop where
  there : AtB w p #[.int .i64 many, .int .i64 need, .map (some M)] 90
  map : ∃ hs f, VMap w 9 M n n kz hs f ∧ ∀ s : ByteArray, (K s = none → hs (keyS s) = false ∧ f (keyS s) = kz) ∧ ∀ q, K s = some q → hs (keyS s) = true ∧ Kin X w base many q (f (keyS s))
  hp : base ≤ p
  hM : base ≤ M
  hb : base ≤ w.heap.size
  ok : ∀ s q, K s = some q → q.length = need ∧ allIn q q.length = true
  mn : 1 ≤ need ∧ need ≤ many ∧ many ≤ 7
  n20 : n ≤ 20
abbrev Vlt (w : World) (base p M n many need : Nat) (K : ByteArray → Option (List Int)) : Prop := VltX (fun _ => False) w base p M n many need K
section
variable {X : Nat → Prop} {w w' : World} {base p M n many need : Nat} {K : ByteArray → Option (List Int)}
theorem VltX.lt (h : VltX X w base p M n many need K) : p < w.heap.size ∧ M < w.heap.size := by
  obtain ⟨hs, f, h1, _⟩ := h.map; exact ⟨h.there.lt, h1.lt⟩
theorem VltX.isMap (h : VltX X w base p M n many need K) : ∃ es clock, w.heap[M]? = some (.map es clock) := by obtain ⟨hs, f, h1, _⟩ := h.map; exact h1.isMap
theorem VltX.chs {Q : Nat → Prop} (h : VltX X w base p M n many need K) (k : Chs Q w w') (hQ : ∀ b, Q b → base ≤ b ∧ ¬ kin w b 64 ∧ (¬ kin w b 3 ∨ X b) ∧ b ≠ p ∧ b ≠ M) : VltX X w' base p M n many need K := by
  obtain ⟨hs, f, h1, h2⟩ := h.map
  refine ⟨h.there.chs k fun e => (hQ _ e).2.2.2.1 rfl, ⟨hs, f, h1.stay (k.block M h1.lt fun e => (hQ _ e).2.2.2.2 rfl), fun s => ⟨(h2 s).1, fun q hq => ⟨((h2 s).2 q hq).1, ((h2 s).2 q hq).2.chs h.hb k fun b hb => ⟨(hQ b hb).1, (hQ b hb).2.1, (hQ b hb).2.2.1⟩⟩⟩⟩, h.hp, h.hM, Nat.le_trans h.hb k.size, h.ok, h.mn, h.n20⟩
theorem VltX.keep (h : VltX X w base p M n many need K) (hb : Below w.heap.size w w') : VltX X w' base p M n many need K :=
  h.chs (Chs.of_below (fun _ => False) hb) fun _ h => h.elim
end
theorem vtnew_no (many need : Int) (h : ¬ (1 ≤ many ∧ many ≤ 7 ∧ 1 ≤ need ∧ need ≤ many)) (w : World) :
    Calls Tryd.prog 21 #[.int .i64 many, .int .i64 need] w fun e w' => e = .returned (.tuple #[.pointer none, errV 1]) ∧ w = w' := by
  have cm := fun W => many_any many W
  cases hm : manB many with
  | false =>
    rw [hm] at cm
    have CM := Lib.hid cm; clear cm hm h
    go_enter Tryd.func21, Tryd.ntmps21
    go_wp2_with (go_at_call 47; refine (CM.out _).mono ?_; rintro e w' ⟨rfl, rfl⟩)
    go_ret2
    exact ⟨rfl, rfl⟩
  | true =>
    obtain ⟨m1, m2⟩ := manB_true.1 hm
    rw [hm] at cm
    have CM := Lib.hid cm; clear cm hm
    have hx : decide (need < 1) = true ∨ (decide (need < 1) = false ∧ decide (many < need) = true) := by
      simp only [decide_eq_true_eq, decide_eq_false_iff_not]; omega
    clear h
    rcases hx with x1 | ⟨x1, x2⟩
    all_goals
      go_enter Tryd.func21, Tryd.ntmps21
      go_wp2_with (go_at_call 47; refine (CM.out _).mono ?_; rintro e w' ⟨rfl, rfl⟩)
      go_ret2
      exact ⟨rfl, rfl⟩
theorem vtnew_okX {X : Nat → Prop} (many need : Nat) (h1 : 1 ≤ need) (h2 : need ≤ many) (h3 : many ≤ 7) (w : World) {base : Nat} (hb : base ≤ w.heap.size) :
    Calls Tryd.prog 21 #[.int .i64 many, .int .i64 need] w fun e w' => ∃ p M, e = .returned (.tuple #[.pointer (some ⟨p, 0, none⟩), .nilIface]) ∧ VltX X w' base p M 0 many need (fun _ => none) ∧ Below w.heap.size w w' := by
  have cm := fun W => many_any many W
  rw [manB_true.2 ⟨by omega, by omega⟩] at cm
  have CM := Lib.hid cm; clear cm
  have hmm := @run_makeMap Tryd.prog
  have hm0 := VMap.made w 9 kz
  have HM := Lib.hid hm0; clear hm0
  go_enter Tryd.func21, Tryd.ntmps21
  go_wp2_with (go_at_call 47; refine (CM.out _).mono ?_; rintro e w' ⟨rfl, rfl⟩)
  go_ret2
  refine ⟨_, w.heap.size, rfl, ⟨?_, ⟨_, _, HM.out.keep (bal1 _ _), fun s => ⟨fun _ => ⟨rfl, rfl⟩, fun q hq => nomatch hq⟩⟩, by omega, hb, ?_, fun s q hq => (nomatch hq), ⟨h1, h2, h3⟩, by omega⟩, bal (bal1 _ _) _⟩
  · have := AtB.new (w.alloc (.map #[] 0)) #[.int .i64 many, .int .i64 need, .map (some w.heap.size)] 90
    simpa using this
  · simp; omega
theorem vtnew_ok (many need : Nat) (h1 : 1 ≤ need) (h2 : need ≤ many) (h3 : many ≤ 7) (w : World) {base : Nat} (hb : base ≤ w.heap.size) :
    Calls Tryd.prog 21 #[.int .i64 many, .int .i64 need] w fun e w' => ∃ p M, e = .returned (.tuple #[.pointer (some ⟨p, 0, none⟩), .nilIface]) ∧ Vlt w' base p M 0 many need (fun _ => none) ∧ Below w.heap.size w w' := vtnew_okX many need h1 h2 h3 w hb
/-- other blocks are to be told apart -/
theorem VltX.reX {X X' : Nat → Prop} {w : World} {base p M n many need : Nat} {K : ByteArray → Option (List Int)} (h : VltX X w base p M n many need K) (hX : ∀ b, X' b → X b ∨ w.heap.size ≤ b) : VltX X' w base p M n many need K := by
  obtain ⟨hs, f, h1, h2⟩ := h.map
  refine ⟨h.there, ⟨hs, f, h1, fun s => ⟨(h2 s).1, fun q hq => ⟨((h2 s).2 q hq).1, ?_⟩⟩⟩, h.hp, h.hM, h.hb, h.ok, h.mn, h.n20⟩
  obtain ⟨A, c, B, d, e, k1, k2, k3, k4, k5, k6, k7⟩ := ((h2 s).2 q hq).2
  refine ⟨A, c, B, d, e, k1, k2, k3, k4, k5, k6, fun a ha hx => ?_⟩
  rcases hX _ hx with hx | hx
  · exact k7 a ha hx
  · have := k6.lt h.hb ha; omega
/-- is it a place? -/
def atB (many : Nat) (n : Int) : Bool := decide (1 ≤ n) && decide (n ≤ many)
theorem atB_true {many : Nat} {n : Int} : atB many n = true ↔ 1 ≤ n ∧ n ≤ many := by simp [atB]
theorem vtat_any (n : Int) (p many : Nat) (w : World) (hc : w.cell? ⟨p, 0, none⟩ = some (.int .i64 many)) :
    Calls Tryd.prog 56 #[.pointer (some ⟨p, 0, none⟩), .int .i64 n] w fun e w' => e = .returned (.bool (atB many n)) ∧ w = w' := by
  by_cases h1 : 1 ≤ n
  · by_cases h2 : n ≤ many
    · have hv : atB many n = true := atB_true.2 ⟨h1, h2⟩
      rw [hv]
      clear hv
      go_enter Tryd.func56, Tryd.ntmps56
      go_wp2
      go_ret
      exact ⟨rfl, rfl⟩
    · have hv : atB many n = false := by rw [← Bool.not_eq_true, atB_true]; omega
      rw [hv]
      clear hv
      go_enter Tryd.func56, Tryd.ntmps56
      go_wp2
      go_ret
      exact ⟨rfl, rfl⟩
  · have hv : atB many n = false := by rw [← Bool.not_eq_true, atB_true]; omega
    rw [hv]
    clear hv
    go_enter Tryd.func56, Tryd.ntmps56
    go_wp2
    go_ret
    exact ⟨rfl, rfl⟩
section
variable {X : Nat → Prop} {w : World} {base p M n many need : Nat} {K : ByteArray → Option (List Int)}
set_option maxHeartbeats 800000 in
theorem vtpart_none (hV : VltX X w base p M n many need K) (s : ByteArray) (hs : s.size ≤ maxLen) (x : Int) (h : K s = none) :
    Calls Tryd.prog 30 #[.pointer (some ⟨p, 0, none⟩), .string s, .int .i64 x] w fun e w' => e = .returned (.tuple #[.agg #[.int .i64 0, .int .i64 0], errV 5]) ∧ Below w.heap.size w w' := by
  obtain ⟨hsf, f, h1, h2⟩ := hV.map
  obtain ⟨e1, e2⟩ := (h2 s).1 h
  have hpz := hV.there.lt
  have k2 := (bcell (bal1 w (.cells #[.int .i64 0, .int .i64 0] 64)) p 2 hpz).trans (hV.there.cell (i := 2) rfl)
  have HM := Lib.hid (h1.keep (bal1 w (.cells #[.int .i64 0, .int .i64 0] 64))); have H1 := Lib.hid e1; have H2 := Lib.hid e2; have HS := Lib.hid (keyS_of hs)
  have hkz : kz = .agg #[.slice none 0 0, .slice none 0 0] := rfl
  have HKZ := Lib.hid hkz
  clear h1 h2 e1 e2 hs h hV hkz
  go_enter Tryd.func30, Tryd.ntmps30
  go_wp2_with (at_lookup; refine wpList_lookup_ok_v rfl _ _ 88 rfl 9 95 lawS Tryd.underlying88 M n n _ hsf f (zeroKept _) rfl HM.out _ _ rfl HS.out ?_; rw [H1.out, H2.out, HKZ.out])
  exact bodyPost_ret (v := .tuple #[.agg #[.int .i64 0, .int .i64 0], errV 5]) (by simp [results, Tryd.results30, go_sem]) rfl ⟨rfl, (by repeat (first | exact Below.refl _ _ | assumption | refine bal ?_ _ | refine bdn ?_ _ | refine bdr ?_ | refine bcl ?_ (by assumption)))⟩
set_option maxHeartbeats 1600000 in
theorem vtpart_range (hV : VltX X w base p M n many need K) (s : ByteArray) (hs : s.size ≤ maxLen) (x : Int) (q : List Int) (h : K s = some q) (hx : atB many x = false) :
    Calls Tryd.prog 30 #[.pointer (some ⟨p, 0, none⟩), .string s, .int .i64 x] w fun e w' => e = .returned (.tuple #[.agg #[.int .i64 0, .int .i64 0], errV 1]) ∧ Below w.heap.size w w' := by
  obtain ⟨hsf, f, h1, h2⟩ := hV.map
  obtain ⟨e1, A, c, B, d, e2, _⟩ := (h2 s).2 q h
  have hpz := hV.there.lt
  have k2 := (bcell (bal1 w (.cells #[.int .i64 0, .int .i64 0] 64)) p 2 hpz).trans (hV.there.cell (i := 2) rfl)
  have k0 := hV.there.cell (i := 0) rfl
  have ca := fun (W : World) (hW : Below w.heap.size w W) => vtat_any x p many W ((hW.cell (p := ⟨p, 0, none⟩) hpz).trans k0)
  rw [hx] at ca
  have CA := Lib.hid ca
  have HM := Lib.hid (h1.keep (bal1 w (.cells #[.int .i64 0, .int .i64 0] 64))); have H1 := Lib.hid e1; have H2 := Lib.hid e2; have HS := Lib.hid (keyS_of hs)
  clear h1 h2 e1 e2 hs h hV ca hx k0
  go_enter Tryd.func30, Tryd.ntmps30
  go_wp2_with (first | (at_lookup; refine wpList_lookup_ok_v rfl _ _ 88 rfl 9 95 lawS Tryd.underlying88 M n n _ hsf f (zeroKept _) rfl HM.out _ _ rfl HS.out ?_; rw [H1.out, H2.out]) | (go_at_call 56; refine (CA.out _ (bal (bal1 _ _) _)).mono ?_; rintro e w' ⟨rfl, rfl⟩))
  exact bodyPost_ret (v := .tuple #[.agg #[.int .i64 0, .int .i64 0], errV 1]) (by simp [results, Tryd.results30, go_sem]) rfl ⟨rfl, (by repeat (first | exact Below.refl _ _ | assumption | refine bal ?_ _ | refine bdn ?_ _ | refine bdr ?_ | refine bcl ?_ (by assumption)))⟩
set_option maxHeartbeats 1600000 in
theorem vtpart_ok (hV : VltX X w base p M n many need K) (s : ByteArray) (hs : s.size ≤ maxLen) (i : Nat) (hi : i < many) (q : List Int) (h : K s = some q) :
    Calls Tryd.prog 30 #[.pointer (some ⟨p, 0, none⟩), .string s, .int .i64 ((i : Int) + 1)] w fun e w' => e = .returned (.tuple #[.agg #[.int .i64 ((i : Int) + 1), .int .i64 (PM.hor q ((i : Int) + 1))], .nilIface]) ∧ Below w.heap.size w w' := by
  obtain ⟨hsf, f, h1, h2⟩ := hV.map
  obtain ⟨e1, A, c, B, d, e2, hsh, hsc, _⟩ := (h2 s).2 q h
  obtain ⟨b, off, rfl, hbl, c0, c1⟩ := hsh.at_ (i := i) (by rw [dealL_length]; exact hi)
  rw [deal_ga _ _ _ hi, show ((i + 1 : Nat) : Int) = (i : Int) + 1 from rfl] at c0
  rw [deal_gb _ _ _ hi, show ((i + 1 : Nat) : Int) = (i : Int) + 1 from rfl] at c1
  have hpz := hV.there.lt
  have hmn := hV.mn
  have k2 := (bcell (bal1 w (.cells #[.int .i64 0, .int .i64 0] 64)) p 2 hpz).trans (hV.there.cell (i := 2) rfl)
  have k0 := hV.there.cell (i := 0) rfl
  have ca := fun (W : World) (hW : Below w.heap.size w W) => vtat_any ((i : Int) + 1) p many W ((hW.cell (p := ⟨p, 0, none⟩) hpz).trans k0)
  rw [show atB many ((i : Int) + 1) = true from atB_true.2 ⟨by omega, by omega⟩] at ca
  have CA := Lib.hid ca
  have HM := Lib.hid (h1.keep (bal1 w (.cells #[.int .i64 0, .int .i64 0] 64))); have H1 := Lib.hid e1; have H2 := Lib.hid e2; have HS := Lib.hid (keyS_of hs)
  generalize PM.hor q ((i : Int) + 1) = v at *
  have i0 : (0 : Int) ≤ (i : Int) := by omega
  have i1 : (i : Int) < (many : Int) := by omega
  have i2 : (i : Int) ≤ 7 := by omega
  have hne : b ≠ w.heap.size := Nat.ne_of_lt hbl
  have hne1 : b ≠ w.heap.size + 1 := by omega
  clear h1 h2 e1 e2 hs h hV ca k0 hsh hsc hmn
  go_enter Tryd.func30, Tryd.ntmps30
  go_wp2_with (first | (at_lookup; refine wpList_lookup_ok_v rfl _ _ 88 rfl 9 95 lawS Tryd.underlying88 M n n _ hsf f (zeroKept _) rfl HM.out _ _ rfl HS.out ?_; rw [H1.out, H2.out]) | (go_at_call 56; refine (CA.out _ (bal (bal1 _ _) _)).mono ?_; rintro e w' ⟨rfl, rfl⟩))
  exact bodyPost_ret (v := .tuple #[.agg #[.int .i64 ((i : Int) + 1), .int .i64 v], .nilIface]) (by simp [results, Tryd.results30, go_sem]) rfl ⟨rfl, (by repeat (first | exact Below.refl _ _ | assumption | refine bal ?_ _ | refine bdn ?_ _ | refine bdr ?_ | refine bcl ?_ (by assumption)))⟩
set_option maxHeartbeats 800000 in
theorem vttrue_none (hV : VltX X w base p M n many need K) (s : ByteArray) (hs : s.size ≤ maxLen) (x y : Int) (h : K s = none) :
    Calls Tryd.prog 31 #[.pointer (some ⟨p, 0, none⟩), .string s, .agg #[.int .i64 x, .int .i64 y]] w fun e w' => e = .returned (.tuple #[.bool false, errV 5]) ∧ Below w.heap.size w w' := by
  obtain ⟨hsf, f, h1, h2⟩ := hV.map
  obtain ⟨e1, e2⟩ := (h2 s).1 h
  have hpz := hV.there.lt
  have k2 := (bcell (bal1 w (.cells #[.int .i64 x, .int .i64 y] 64)) p 2 hpz).trans (hV.there.cell (i := 2) rfl)
  have HM := Lib.hid (h1.keep (bal1 w (.cells #[.int .i64 x, .int .i64 y] 64))); have H1 := Lib.hid e1; have H2 := Lib.hid e2; have HS := Lib.hid (keyS_of hs)
  have hkz : kz = .agg #[.slice none 0 0, .slice none 0 0] := rfl
  have HKZ := Lib.hid hkz
  clear h1 h2 e1 e2 hs h hV hkz
  go_enter Tryd.func31, Tryd.ntmps31
  go_wp2_with (at_lookup; refine wpList_lookup_ok_v rfl _ _ 88 rfl 9 95 lawS Tryd.underlying88 M n n _ hsf f (zeroKept _) rfl HM.out _ _ rfl HS.out ?_; rw [H1.out, H2.out, HKZ.out])
  go_ret2
  exact ⟨rfl, (by repeat (first | exact Below.refl _ _ | assumption | refine bal ?_ _ | refine bdn ?_ _ | refine bdr ?_ | refine bcl ?_ (by assumption)))⟩
/-- the check of a share of a name that is there -/
theorem cmt_all (q : List Int) : cmB (cmt q) (cmt q).length = true := cmt_good q _ (Nat.le_refl _)
theorem chk_cmt {q : List Int} {x y : Int} (h0 : 0 < q.length) (h7 : q.length ≤ 7) : chkE (cmt q) x y = if (inB x && inB y) = false then 1 else 0 := by
  rw [chkE, if_neg (by rw [cmt_length]; omega), if_neg (by rw [cmt_length]; omega), if_neg (by rw [cmt_all]; decide)]
set_option maxHeartbeats 1600000 in
theorem vttrue_any (hV : VltX X w base p M n many need K) (s : ByteArray) (hs : s.size ≤ maxLen) (x y : Int) (q : List Int) (h : K s = some q) :
    Calls Tryd.prog 31 #[.pointer (some ⟨p, 0, none⟩), .string s, .agg #[.int .i64 x, .int .i64 y]] w fun e w' => e = .returned (.tuple (if (inB x && inB y) = true then #[.bool (y == PM.hor q x), .nilIface] else #[.bool false, errV 1])) ∧ Below w.heap.size w w' := by
  obtain ⟨hsf, f, h1, h2⟩ := hV.map
  obtain ⟨e1, A, c, B, d, e2, _, _, _, hci, _⟩ := (h2 s).2 q h
  have hpz := hV.there.lt
  have hq := hV.ok s q h
  have hmn := hV.mn
  have hcl := cmt_length q
  have k2 := (bcell (bal1 w (.cells #[.int .i64 x, .int .i64 y] 64)) p 2 hpz).trans (hV.there.cell (i := 2) rfl)
  have HM := Lib.hid (h1.keep (bal1 w (.cells #[.int .i64 x, .int .i64 y] 64))); have H1 := Lib.hid e1; have H2 := Lib.hid e2; have HS := Lib.hid (keyS_of hs)
  have hck := chk_cmt (x := x) (y := y) (show 0 < q.length by omega) (by omega)
  by_cases hin : (inB x && inB y) = true
  · rw [if_neg (by rw [hin]; decide)] at hck
    rw [if_pos hin]
    have hin2 := hin
    rw [Bool.and_eq_true] at hin2
    have htr := truB_cmt q hq.2 x y (inB_true.1 hin2.2).1 (inB_true.1 hin2.2).2
    rw [← htr]
    have cc := fun (W : World) (hW : Ints W B (cmt q)) => check_ok B d (cmt q) x y hck W hW
    rw [hcl] at cc
    generalize truB (cmt q) x y = tb at *
    have CC := Lib.hid cc; have HI := Lib.hid hci
    clear cc h1 h2 e1 e2 hs h hV hck hin hin2 htr hq hmn hcl hci
    go_enter Tryd.func31, Tryd.ntmps31
    go_wp2_with (first | (at_lookup; refine wpList_lookup_ok_v rfl _ _ 88 rfl 9 95 lawS Tryd.underlying88 M n n _ hsf f (zeroKept _) rfl HM.out _ _ rfl HS.out ?_; rw [H1.out, H2.out]) | (go_at_call 61; refine (CC.out _ (HI.out.below (bal (bal1 _ _) _) (Nat.le_refl _))).mono ?_; rintro e w1 ⟨rfl, hb1⟩))
    go_ret2
    exact ⟨rfl, bcl (bal (bal1 _ _) _) hb1⟩
  · have hin' : (inB x && inB y) = false := by simpa using hin
    rw [if_pos hin'] at hck
    rw [if_neg hin]
    have cc := fun (W : World) (hW : Ints W B (cmt q)) => check_no B d (cmt q) x y (by rw [hck]; decide) W hW
    rw [hck, hcl] at cc
    have CC := Lib.hid cc; have HI := Lib.hid hci
    clear cc h1 h2 e1 e2 hs h hV hck hin hin' hq hmn hcl hci
    go_enter Tryd.func31, Tryd.ntmps31
    go_wp2_with (first | (at_lookup; refine wpList_lookup_ok_v rfl _ _ 88 rfl 9 95 lawS Tryd.underlying88 M n n _ hsf f (zeroKept _) rfl HM.out _ _ rfl HS.out ?_; rw [H1.out, H2.out]) | (go_at_call 61; refine (CC.out _ (HI.out.below (bal (bal1 _ _) _) (Nat.le_refl _))).mono ?_; rintro e w1 ⟨rfl, hb1⟩))
    go_ret2
    exact ⟨rfl, bcl (bal (bal1 _ _) _) hb1⟩
end
end Go.Proofs.YtamndgeeibfmhaaDoor
