/- A log by itself: what each of its functions does with it. -/
import Derived.Test.YtfelefkmbbfdjaaGreatDoorLgAll2
import Derived.Test.YtfelefkmbbfdjaaGreatDoorDoorX
namespace Go.Proofs.YtfelefkmbbfdjaaGreatDoor
open Go.ChangeShapes Go.WideShapes Go.ChangeAt Go.RowKit Go.Joins Go.Deep
set_option linter.unusedVariables false

/-- a log that goes on: its deeds, what is safe, the steps that are left -/
def Live (w0 : World) (P : Nat) (R : List Ru) (D : List Ak) (sf : Nat) (lf : Int) (W : World) : Prop := Below w0.heap.size w0 W ∧ ∃ p q m g, Lg W w0.heap.size P p q g m R (cpD R D) (recs D) sf D.length lf false
/-- .. that has stopped: and half a record behind -/
def Dead (w0 : World) (P : Nat) (R : List Ru) (D : List Ak) (jk : ByteArray) (sf : Nat) (lf : Int) (W : World) : Prop := Below w0.heap.size w0 W ∧ ∃ p q m g, Lg W w0.heap.size P p q g m R (cpD R D) (recs D ++ jk) sf D.length lf true
section
variable {w0 W : World} {P sf : Nat} {R : List Ru} {D : List Ak} {lf : Int} {jk : ByteArray}
theorem Live.below (h : Live w0 P R D sf lf W) {w' : World} (hb : Below W.heap.size W w') : Live w0 P R D sf lf w' := by
  obtain ⟨h1, p, q, m, g, h2⟩ := h
  exact ⟨bcl h1 hb, p, q, m, g, h2.keep hb⟩
theorem Dead.below (h : Dead w0 P R D jk sf lf W) {w' : World} (hb : Below W.heap.size W w') : Dead w0 P R D jk sf lf w' := by
  obtain ⟨h1, p, q, m, g, h2⟩ := h
  exact ⟨bcl h1 hb, p, q, m, g, h2.keep hb⟩
theorem lg_below {w0 W w' : World} {P p q m : Nat} {g : Option Nat} {s : Cs} {b : ByteArray} {mn : Nat} {st : Bool} (h0 : Below w0.heap.size w0 W) (h : Lg W w0.heap.size P p q g m R s b sf mn lf st) (hc : Chs (LM P p q g m) W w') : Below w0.heap.size w0 w' :=
  h0.trans (hc.below (fun b hb => (h.mine b hb).1) h0.size)
theorem lt_up (ht : ∀ W, Below w0.heap.size w0 W → LT W) (h : Below w0.heap.size w0 W) : ∀ W', Below w0.heap.size W W' → TT W' ∧ EE W' ∧ AS W' := fun W' hb => ht W' (h.trans hb)
theorem live_no (h : Live w0 P R D sf lf W) (ht : ∀ W, Below w0.heap.size w0 W → LT W) (hD : VdD R D) (hl : D.length ≤ 30) (a : Ak) (A : Option Addr) (c : Nat) (hm : a.t.length ≤ maxLen) (hok : okL a.t) (hw64 : I64 a.w) (hq64 : I64 a.q) (hA : Vals W A a.t) (hno : doE R (cpD R D) a ≠ 0 ∨ agB (cpD R D) a = true) :
    Calls Tryz.prog 5 #[.pointer (some ⟨P, 0, none⟩), akv a A c] W fun e w' => e = .returned (.tuple #[.string (doS R (cpD R D) a), eV (doE R (cpD R D) a)]) ∧ Live w0 P R D sf lf w' := by
  obtain ⟨h1, p, q, m, g, h2⟩ := h
  refine (lgdo_no h2 (fun W' hb => (lt_up ht h1 W' hb).1) (by rw [hD.n]; omega) a A c hm hok hw64 hq64 hA hno).mono ?_
  rintro e w' ⟨he, g', h3, h4, _⟩
  exact ⟨he, lg_below h1 h2 h4, p, q, m, g', h3⟩
theorem live_new (h : Live w0 P R D sf lf W) (ht : ∀ W, Below w0.heap.size w0 W → LT W) (hD : VdD R D) (hl : D.length < 30) (a : Ak) (A : Option Addr) (c : Nat) (hm : a.t.length ≤ maxLen) (hok : okL a.t) (hw64 : I64 a.w) (hq64 : I64 a.q) (hV : Vin W w0.heap.size A a.t) (hE : doE R (cpD R D) a = 0) (hg : agB (cpD R D) a = false)
    (hl0 : -1 ≤ lf) (hl1 : lf ≤ 9223372036854775807) (hlf : lf ≠ 0) :
    Calls Tryz.prog 5 #[.pointer (some ⟨P, 0, none⟩), akv a A c] W fun e w' => e = .returned (.tuple #[.string (doS R (cpD R D) a), .nilIface]) ∧ Live w0 P R (D ++ [a]) sf (lfN lf) w' := by
  obtain ⟨h1, p, q, m, g, h2⟩ := h
  have hds := recs_size D (hD.all (by omega))
  refine (lgdo_new h2 (fun W' hb => (lt_up ht h1 W' hb).1) (by rw [hD.n]; omega) a A c hm hok hw64 hq64 hV hE hg (by omega) (by omega) hl0 hl1 hlf (by omega)).mono ?_
  rintro e w' ⟨he, g', h3, h4, _⟩
  refine ⟨he, lg_below h1 h2 h4, p, q, m, g', ?_⟩
  rw [cpD_snoc, recs_snoc, List.length_append]; exact h3
theorem live_full (h : Live w0 P R D sf lf W) (ht : ∀ W, Below w0.heap.size w0 W → LT W) (hD : VdD R D) (hl : D.length = 30) (a : Ak) (A : Option Addr) (c : Nat) (hm : a.t.length ≤ maxLen) (hok : okL a.t) (hw64 : I64 a.w) (hq64 : I64 a.q) (hV : Vin W w0.heap.size A a.t) (hE : doE R (cpD R D) a = 0) (hg : agB (cpD R D) a = false) :
    Calls Tryz.prog 5 #[.pointer (some ⟨P, 0, none⟩), akv a A c] W fun e w' => e = .returned (.tuple #[.string ⟨#[]⟩, errV 4]) ∧ Live w0 P R D sf lf w' := by
  obtain ⟨h1, p, q, m, g, h2⟩ := h
  rw [hl] at h2
  refine (lgdo_full h2 (lt_up ht h1) hD (by omega) a A c hm hok hw64 hq64 hV hE hg).mono ?_
  rintro e w' ⟨he, p', q', m', g', h3, h4, _⟩
  exact ⟨he, lg_below h1 h2 h4, p', q', m', g', by rw [hl]; exact h3⟩
theorem live_stop (h : Live w0 P R D sf 0 W) (ht : ∀ W, Below w0.heap.size w0 W → LT W) (hD : VdD R D) (hl : D.length < 30) (a : Ak) (A : Option Addr) (c : Nat) (hm : a.t.length ≤ maxLen) (hok : okL a.t) (hw64 : I64 a.w) (hq64 : I64 a.q) (hV : Vin W w0.heap.size A a.t) (hE : doE R (cpD R D) a = 0) (hg : agB (cpD R D) a = false) :
    Calls Tryz.prog 5 #[.pointer (some ⟨P, 0, none⟩), akv a A c] W fun e w' => e = .returned (.tuple #[.string ⟨#[]⟩, errV 6]) ∧ Dead w0 P R D (halfB a) sf (-1) w' := by
  obtain ⟨h1, p, q, m, g, h2⟩ := h
  refine (lgdo_stop h2 (lt_up ht h1) hD (by omega) a A c hm hok hw64 hq64 hV hE hg (by omega) (by omega)).mono ?_
  rintro e w' ⟨he, p', q', m', g', h3, h4, _⟩
  exact ⟨he, lg_below h1 h2 h4, p', q', m', g', h3⟩
theorem dead_do (h : Dead w0 P R D jk sf lf W) (a : Ak) (A : Option Addr) (c : Nat) :
    Calls Tryz.prog 5 #[.pointer (some ⟨P, 0, none⟩), akv a A c] W fun e w' => e = .returned (.tuple #[.string ⟨#[]⟩, errV 6]) ∧ Dead w0 P R D jk sf lf w' := by
  obtain ⟨h1, p, q, m, g, h2⟩ := h
  refine (lgdo_stopped h2 a A c).mono ?_
  rintro e w' ⟨he, hb⟩
  exact ⟨he, bcl h1 hb, p, q, m, g, h2.keep hb⟩
theorem lg_own {w0 W w' : World} {P p q m : Nat} {g : Option Nat} {s : Cs} {b : ByteArray} {mn : Nat} {st : Bool} (h0 : Below w0.heap.size w0 W) (h : Lg W w0.heap.size P p q g m R s b sf mn lf st) (hc : Chs (fun x => x = P) W w') : Below w0.heap.size w0 w' :=
  lg_below h0 h (hc.mono fun x e => .inl e)
theorem live_sync (h : Live w0 P R D sf lf W) (hl0 : -1 ≤ lf) (hl1 : lf ≤ 9223372036854775807) (hlf : lf ≠ 0) :
    Calls Tryz.prog 6 #[.pointer (some ⟨P, 0, none⟩)] W fun e w' => e = .returned .nilIface ∧ Live w0 P R D (recs D).size (lfN lf) w' := by
  obtain ⟨h1, p, q, m, g, h2⟩ := h
  refine (lgsync_ok h2 hl0 hl1 hlf).mono ?_
  rintro e w' ⟨he, h3, h4⟩
  exact ⟨he, lg_own h1 h2 h4, p, q, m, g, h3⟩
theorem live_sync_stop (h : Live w0 P R D sf 0 W) :
    Calls Tryz.prog 6 #[.pointer (some ⟨P, 0, none⟩)] W fun e w' => e = .returned (errV 6) ∧ Dead w0 P R D ⟨#[]⟩ sf (-1) w' := by
  obtain ⟨h1, p, q, m, g, h2⟩ := h
  refine (lgsync_stop h2).mono ?_
  rintro e w' ⟨he, h3, h4⟩
  refine ⟨he, lg_own h1 h2 h4, p, q, m, g, ?_⟩
  rw [show recs D ++ (⟨#[]⟩ : ByteArray) = recs D from bytes_eq (by simp [ByteArray.data_append])]
  exact h3
theorem dead_sync (h : Dead w0 P R D jk sf lf W) :
    Calls Tryz.prog 6 #[.pointer (some ⟨P, 0, none⟩)] W fun e w' => e = .returned (errV 6) ∧ W = w' := by
  obtain ⟨h1, p, q, m, g, h2⟩ := h
  exact lgsync_no h2
theorem live_fail (h : Live w0 P R D sf lf W) (n : Int) :
    Calls Tryz.prog 14 #[.pointer (some ⟨P, 0, none⟩), .int .i64 n] W fun e w' => (∃ v, e = .returned v) ∧ Live w0 P R D sf (max (-1) n) w' := by
  obtain ⟨h1, p, q, m, g, h2⟩ := h
  refine (lgfail_any h2 n).mono ?_
  rintro e w' ⟨he, h3, h4⟩
  exact ⟨he, lg_own h1 h2 h4, p, q, m, g, h3⟩
theorem live_mark (h : Live w0 P R D sf lf W) (ht : ∀ W, Below w0.heap.size w0 W → LT W) (hD : VdD R D) :
    Calls Tryz.prog 8 #[.pointer (some ⟨P, 0, none⟩)] W fun e w' => e = .returned (.tuple #[.int .i64 D.length, .int .i64 (mkV (cpD R D))]) ∧ Live w0 P R D sf lf w' := by
  have h0 := h
  obtain ⟨h1, p, q, m, g, h2⟩ := h
  have c := lgmark_any h2 (fun W' hb => (lt_up ht h1 W' hb).1)
  rw [hD.n] at c
  exact c.mono fun e w' ⟨he, hb⟩ => ⟨he, h0.below hb⟩
theorem live_safe (h : Live w0 P R D sf lf W) : Calls Tryz.prog 10 #[.pointer (some ⟨P, 0, none⟩)] W fun e w' => e = .returned (.int .i64 sf) ∧ W = w' := by
  obtain ⟨h1, p, q, m, g, h2⟩ := h
  exact lgsafe_any h2
theorem live_bytes (h : Live w0 P R D sf lf W) : Calls Tryz.prog 9 #[.pointer (some ⟨P, 0, none⟩)] W fun e w' => e = .returned (.int .i64 (recs D).size) ∧ W = w' := by
  obtain ⟨h1, p, q, m, g, h2⟩ := h
  exact lgbytes_any h2
theorem crash_gen {w0 W : World} {P p q m : Nat} {g : Option Nat} {st : Bool} {mn : Nat} (h1 : Below w0.heap.size w0 W) (h2 : Lg W w0.heap.size P p q g m R (cpD R D) (recs D ++ jk) sf mn lf st) (ht : ∀ W, Below w0.heap.size w0 W → LT W) (hD : VdD R D) (hl : D.length ≤ 30) (hj : ∀ x ∈ jk.data.toList, x ≠ 10) (hjs : jk.size ≤ 1000) (hsf : sf ≤ (recs D ++ jk).size) (keep : Int) :
    Calls Tryz.prog 7 #[.pointer (some ⟨P, 0, none⟩), .int .i64 keep] W fun e w' => (∃ v, e = .returned v) ∧ ∃ k, CutAt D (hiN sf (recs D ++ jk) keep) k ∧ Live w0 P R (D.take k) (recs (D.take k)).size (-1) w' := by
  refine (lgcrash h2 (lt_up ht h1) hD hl hj hjs hsf keep).mono ?_
  rintro e w' ⟨he, k, p', q', m', g', hk, h3, h4, _⟩
  refine ⟨he, k, hk, lg_own h1 h2 h4, p', q', m', g', ?_⟩
  rw [show (D.take k).length = k by rw [List.length_take]; have := hk.1; omega]
  exact h3
theorem dead_crash (h : Dead w0 P R D jk sf lf W) (ht : ∀ W, Below w0.heap.size w0 W → LT W) (hD : VdD R D) (hl : D.length ≤ 30) (hj : ∀ x ∈ jk.data.toList, x ≠ 10) (hjs : jk.size ≤ 1000) (hsf : sf ≤ (recs D ++ jk).size) (keep : Int) :
    Calls Tryz.prog 7 #[.pointer (some ⟨P, 0, none⟩), .int .i64 keep] W fun e w' => (∃ v, e = .returned v) ∧ ∃ k, CutAt D (hiN sf (recs D ++ jk) keep) k ∧ Live w0 P R (D.take k) (recs (D.take k)).size (-1) w' := by
  obtain ⟨h1, p, q, m, g, h2⟩ := h
  exact crash_gen h1 h2 ht hD hl hj hjs hsf keep
theorem live_crash (h : Live w0 P R D sf lf W) (ht : ∀ W, Below w0.heap.size w0 W → LT W) (hD : VdD R D) (hl : D.length ≤ 30) (hsf : sf ≤ (recs D).size) (keep : Int) :
    Calls Tryz.prog 7 #[.pointer (some ⟨P, 0, none⟩), .int .i64 keep] W fun e w' => (∃ v, e = .returned v) ∧ ∃ k, CutAt D (hiN sf (recs D) keep) k ∧ Live w0 P R (D.take k) (recs (D.take k)).size (-1) w' := by
  obtain ⟨h1, p, q, m, g, h2⟩ := h
  have e : recs D ++ (⟨#[]⟩ : ByteArray) = recs D := bytes_eq (by simp [ByteArray.data_append])
  have h3 := crash_gen (jk := ⟨#[]⟩) h1 (by rw [e]; exact h2) ht hD hl (fun x hx => by simp at hx) (by decide) (by rw [e]; exact hsf) keep
  rw [e] at h3
  exact h3
/-- half a record has no end of a line -/
theorem half_no10 {a : Ak} (h : Rcd a) : ∀ x ∈ (halfB a).data.toList, x ≠ 10 := fun x hx => by
  rw [halfB, ext_to, rec_app, List.take_append_of_le_length (by
    have := recB_four a
    have e : (rcB a).data.toList.length = (rcB a).size := Array.length_toList
    have e2 : (recB a).size = (rcB a).size + 1 := by rw [recB, size_app]; rfl
    omega)] at hx
  exact rc_no10 h x (List.mem_of_mem_take hx)
theorem half_size {a : Ak} (h : Rcd a) : (halfB a).size ≤ 445 := by
  have := recB_size h
  show ((recB a).extract 0 ((recB a).size / 2)).size ≤ 445
  rw [ByteArray.size_extract]; omega
end
end Go.Proofs.YtfelefkmbbfdjaaGreatDoor
