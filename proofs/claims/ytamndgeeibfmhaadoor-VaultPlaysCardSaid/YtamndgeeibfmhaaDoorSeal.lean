/- The functions of package seal: Seal and Open: what each returns. -/
import Derived.Test.YtamndgeeibfmhaaDoorShare
import Derived.Test.YtamndgeeibfmhaaDoorNest
import Derived.Test.YtamndgeeibfmhaaDoorBMem
import Derived.Deep.RegionHeld3
import Derived.Laws.IdiomStrings
import Derived.RegionTactic
namespace Go.Proofs.YtamndgeeibfmhaaDoor
open Go.RowKit Go.ChangeShapes Go.WideShapes Go.Deep
set_option linter.unusedVariables false

/-- the shares of each byte -/
def sealL (t : ByteArray) (rest : List (List Int)) (n : Nat) (k : Nat) : List (List Sh) := (List.range k).map fun i => dealL (gB t i :: gg rest i) n
theorem sealL_succ (t : ByteArray) (rest : List (List Int)) (n k : Nat) : sealL t rest n (k + 1) = sealL t rest n k ++ [dealL (gB t k :: gg rest k) n] := by simp [sealL, List.range_succ]
theorem sealL_length (t : ByteArray) (rest : List (List Int)) (n k : Nat) : (sealL t rest n k).length = k := by simp [sealL]

abbrev OSharess (w : World) (base : Nat) (A : Option Addr) (c : Nat) (L : List (List Sh)) : Prop := OMany Shares 58 64 w base A c L
theorem infoShs : (Tryd.prog.info? 58).map (fun i => (i.zero, i.size, i.bytes)) = some (some (.slice none 0 0), 1, 24) := by kernel_rfl
theorem many_ints_below {w w' : World} {A : Option Addr} {l : List (List Int)} (h : Many Ints w A l) (hb : Below w.heap.size w w') : Many Ints w' A l := Many.below (Q := Ints) (fun w w' A l h hb => Ints.below h hb (Nat.le_refl _)) h hb
theorem many_shares_below {w w' : World} {A : Option Addr} {l : List (List Sh)} (h : Many Shares w A l) (hb : Below w.heap.size w w') : Many Shares w' A l := Many.below (Q := Shares) (fun w w' A l h hb => Shares.below h hb (Nat.le_refl _)) h hb
theorem Many.at_ {α : Type} {Q : World → Option Addr → List α → Prop} {w : World} {A : Option Addr} {l : List (List α)} (h : Many Q w A l) {i : Nat} (hi : i < l.length) :
    ∃ b off B C, A = some ⟨b, off, none⟩ ∧ b < w.heap.size ∧ w.cell? ⟨b, off + i, none⟩ = some (.slice B (gg l i).length C) ∧ Q w B (gg l i) ∧ (gg l i).length ≤ C ∧ C ≤ maxLen := by
  obtain ⟨B, C, h1, h2⟩ := h
  obtain ⟨b, off, e, hb, hc⟩ := h1.at1 hi
  exact ⟨b, off, B i, C i, e, hb, hc, h2 i hi⟩

/-! ### Open -/
def OBytes (w : World) (base : Nat) (A : Option Addr) (c : Nat) (l : List UInt8) : Prop := w.ownsRow base 5 1 (.slice A l.length c) l.length (l.map fun b => .int .u8 (b.toNat : Int))
theorem infoBy : (Tryd.prog.info? 5).map (fun i => (i.zero, i.size, i.bytes)) = some (some (.int .u8 0), 1, 1) := by kernel_rfl
section
variable {w w' : World} {base c : Nat} {A : Option Addr} {l : List UInt8}
theorem OBytes.nil : OBytes w base none 0 [] := ⟨rfl, .inl ⟨rfl, rfl⟩⟩
theorem OBytes.cap (h : OBytes w base A c l) : l.length ≤ c ∧ c ≤ maxLen := own_cap h
theorem OBytes.keep (h : OBytes w base A c l) (hb : Below w.heap.size w w') : OBytes w' base A c l := own_keep h hb
set_option maxRecDepth 100000 in
theorem OBytes.conv (h : OBytes w base A c l) : (convert 111 9 (.slice A l.length c)).run Tryd.prog w = .ok (.string ⟨l.toArray⟩) w := by
  rcases h.2 with ⟨h2, h3⟩ | ⟨g, cap, cur, h3, _, h5, h6, _⟩
  · injection h2 with h2 h4 h5
    subst h2; subst h5
    have : l = [] := List.eq_nil_of_length_eq_zero h3
    subst this
    rw [List.length_nil, run_convert_bytes_string w _ _ 5 none 0 0 Tryd.underlying111 Tryd.underlying5 Tryd.underlying9]
    simp [Conv.bytesToString, Sem.run_pure]
    rfl
  · injection h3 with h3 _ h4
    subst h3
    refine run_convert_bytes_back w _ _ 5 ⟨g, 0, none⟩ c l Tryd.underlying111 Tryd.underlying5 Tryd.underlying9 fun j hj => ?_
    exact h.cells (g := g) rfl j _ (by simp [hj])
end
theorem wpList_append_byte {w : World} {ops : Array Oper} {rest : List Oper} {o : Oper} {a : Act} {Q : Exit → Act → World → Prop} (hgd : o.guard = none) (s x : Operand)
    (ho : o.op = .call { callee := .builtin .append, args := #[s, x], argTypes := #[111, 111] }) (base : Nat) (A : Option Addr) (c : Nat) (l : List UInt8) (hs : a.eval s = .slice A l.length c) (hown : OBytes w base A c l)
    (g : Nat) (p : UInt8) (hx : a.eval x = .slice (some ⟨g, 0, none⟩) 1 1) (h0 : w.cell? ⟨g, 0, none⟩ = some (.int .u8 (p.toNat : Int))) (hn : l.length ≤ 1000000) (hbase : base ≤ w.heap.size)
    (h : ∀ A' c' w', OBytes w' base A' c' (l ++ [p]) → Below base w w' → wpList Tryd.prog ops Q rest (a.put o.dst (.slice A' (l.length + 1) c')) w') : wpList Tryd.prog ops Q (o :: rest) a w := by
  refine wpList_append_one hgd s x _ ho base 5 _ 1 1 Tryd.underlying111 infoBy rfl (by decide) (by decide) A c l.length _ hs hown g [.int .u8 (p.toNat : Int)] hx rfl ?_ (by simp [Value.oneCell']) hn hbase ?_
  · intro j u hj
    match j, hj with
    | 0, hj => simp at hj; subst hj; exact h0
  · intro A' c' w' h2 h3
    refine h A' c' w' ?_ (own_below h3 hown hbase)
    unfold OBytes; rw [List.length_append, List.map_append]; exact h2

def oV (l : List (List Sh)) (need : Int) (i : Nat) : Int := thrL ((gg l i).take need.toNat) 0
def oE (l : List (List Sh)) (need : Int) (i : Nat) : Int := if joE (gg l i) need ≠ 0 then joE (gg l i) need else if 255 < oV l need i then 3 else 0
def oB (l : List (List Sh)) (need : Int) (i : Nat) : UInt8 := UInt8.ofNat (oV l need i).toNat
def openL (l : List (List Sh)) (need : Int) (k : Nat) : List UInt8 := (List.range k).map (oB l need)
theorem openL_succ (l : List (List Sh)) (need : Int) (k : Nat) : openL l need (k + 1) = openL l need k ++ [oB l need k] := by simp [openL, List.range_succ]
theorem openL_length (l : List (List Sh)) (need : Int) (k : Nat) : (openL l need k).length = k := by simp [openL]
theorem oV_range (l : List (List Sh)) (need : Int) (i : Nat) : 0 ≤ oV l need i ∧ oV l need i < 257 := PM.thr_range _ _ _ _ _
theorem oB_wrap {l : List (List Sh)} {need : Int} {i : Nat} (h : oV l need i ≤ 255) : oV l need i = ((oB l need i).toNat : Int) := by
  have h0 := (oV_range l need i).1
  unfold oB
  rw [UInt8.toNat_ofNat', Nat.mod_eq_of_lt (by omega)]
  omega
theorem joE_zero {l : List Sh} {need : Int} (h : joE l need = 0) : manB need = true ∧ poiE l = 0 ∧ need ≤ l.length := by
  unfold joE at h
  split at h
  · cases h
  · split at h
    · exact absurd h ‹_›
    · split at h
      · cases h
      · rename_i h1 h2 h3
        exact ⟨by simpa using h1, by simpa using h2, by omega⟩
end Go.Proofs.YtamndgeeibfmhaaDoor
