/- The functions of package vote: Copies, Lie, Faults, Win, Most: what each returns. -/
import Derived.Test.YtpgemofkolmabaaGreatDoorChecked
import Derived.Test.YtpgemofkolmabaaGreatDoorMem
import Derived.Test.YtpgemofkolmabaaGreatDoorMod
import Derived.WalkKit
import Derived.Lib.Hide
import Derived.WalkLawsBesides
import Derived.WalkSpells
import Derived.Maps.OwnOps
import Derived.Maps.Views
import Derived.StringKeys
namespace Go.Proofs.YtpgemofkolmabaaGreatDoor
open Go.RowKit Go.Maps Go.WideMaps

/-- may there be so many? -/
def copB (n : Int) : Bool := decide (1 ≤ n) && decide (n ≤ 7)
theorem copB_true {n : Int} : copB n = true ↔ 1 ≤ n ∧ n ≤ 7 := by simp [copB]

theorem copies_any (n : Int) (w : World) : Calls Tryz.prog 71 #[.int .i64 n] w fun e w' => e = .returned (.bool (copB n)) ∧ w = w' := by
  by_cases h0 : 1 ≤ n
  · by_cases h1 : n ≤ 7
    · have hr : copB n = true := copB_true.2 ⟨h0, h1⟩
      rw [hr]
      clear hr
      go_enter Tryz.func71, Tryz.ntmps71
      go_wp2
      go_ret
      exact ⟨rfl, rfl⟩
    · have hr : copB n = false := by rw [← Bool.not_eq_true, copB_true]; omega
      rw [hr]
      clear hr
      go_enter Tryz.func71, Tryz.ntmps71
      go_wp2
      go_ret
      exact ⟨rfl, rfl⟩
  · have hr : copB n = false := by rw [← Bool.not_eq_true, copB_true]; omega
    rw [hr]
    clear hr
    go_enter Tryz.func71, Tryz.ntmps71
    go_wp2
    go_ret
    exact ⟨rfl, rfl⟩

theorem lie_any (n : Int) (w : World) (h : 1 ≤ n) (h' : n ≤ 7) : Calls Tryz.prog 112 #[.int .i64 n] w fun e w' => e = .returned (.int .i64 ((n - 1) / 3)) ∧ w = w' := by
  go_enter Tryz.func112, Tryz.ntmps112
  go_wp2
  go_ret
  exact ⟨rfl, rfl⟩
/-! ### a map from texts to counts that the call makes -/
theorem lawS : Keyed Tryz.prog 9 := string_keyed Tryz.underlying9
theorem zeroI (w : World) : (zeroValue 3).run Tryz.prog w = .ok (.int .i64 0) w := by kernel_rfl
/-- block B is a map of texts to the numbers m; at most n stores -/
def Cnt (w : World) (B n : Nat) (m : ByteArray → Nat) : Prop :=
  ∃ D : DataW Unit, w.ownsMap Tryz.prog 9 (plainElem Tryz.prog 3) B n D ∧ IsMap D ∧ ∀ s : ByteArray, D.atKey (.string s.data.toList) (.lit (.int .i64 0)) = .lit (.int .i64 (m s))
theorem Cnt.made (w : World) : Cnt (w.alloc (.map #[] 0)) w.heap.size 0 (fun _ => 0) :=
  ⟨.map [], World.ownsMap_made _ _ _ _, ⟨[], rfl⟩, fun _ => rfl⟩
theorem Cnt.lt {w : World} {B n : Nat} {m : ByteArray → Nat} (h : Cnt w B n m) : B < w.heap.size := by
  obtain ⟨D, h, _⟩ := h; exact h.lt
theorem wpList_lookup_cnt {w : World} {ops : Array Oper} {rest : List Oper} {o : Oper} {a : Act} {Q : Exit → Act → World → Prop}
    (hg : o.guard = none) (mo x : Operand) (hop : o.op = Op.lookup 171 mo x false) (B n : Nat) (m : ByteArray → Nat) (hm : a.eval mo = .map (some B)) (hc : Cnt w B n m)
    (s : ByteArray) (hx : a.eval x = .string s) (hs : s.size ≤ maxLen) (hK : wpList Tryz.prog ops Q rest (a.put o.dst (.int .i64 (m s))) w) : wpList Tryz.prog ops Q (o :: rest) a w := by
  obtain ⟨D, hown, hD, hat⟩ := hc
  refine wpList_lookup_own_int _ hg mo x _ hop 9 3 .i64 lawS Tryz.underlying171 Tryz.underlying3 (zeroI _) B n D hm hown _ _ hx (keyOf_string_mk Tryz.underlying9 hs) ?_
  intro c h1 _
  rw [hat] at h1
  injection h1 with h1
  injection h1 with _ h1
  rw [← h1]; exact hK
theorem wpList_update_cnt {w : World} {ops : Array Oper} {rest : List Oper} {o : Oper} {a : Act} {Q : Exit → Act → World → Prop}
    (hg : o.guard = none) (mo x v : Operand) (hop : o.op = Op.mapUpdate 171 mo x v) (B n : Nat) (m : ByteArray → Nat) (hm : a.eval mo = .map (some B)) (hc : Cnt w B n m) (hn : n < maxLen)
    (s : ByteArray) (hx : a.eval x = .string s) (hs : s.size ≤ maxLen) (k : Nat) (hv : a.eval v = .int .i64 k) (hk : k ≤ 1000000)
    (hK : ∀ w', Cnt w' B (n + 1) (fun t => if t = s then k else m t) → w.grownBy w' (some B) → wpList Tryz.prog ops Q rest (a.put o.dst undef) w') : wpList Tryz.prog ops Q (o :: rest) a w := by
  obtain ⟨D, hown, hD, hat⟩ := hc
  refine wpList_mapUpdate_own _ hg mo x v _ hop 9 3 lawS Tryz.underlying171 _ B n D hm hown hn _ _ _ hx hv (keyOf_string_mk Tryz.underlying9 hs) _ [] (plainElem_int Tryz.underlying3 (WalkArith.wf_i64 (by omega))) ?_
  intro w' ho hg'
  refine hK w' ⟨_, ho, ?_, fun t => ?_⟩ hg'
  · exact hD.put _ _
  · show _ = DataW.lit (.int .i64 ((if t = s then k else m t : Nat) : Int))
    by_cases e : t = s
    · subst e
      rw [if_pos rfl]
      exact atKey_put_same hD (by simp [WideAt.IsKeyLit]) _ _
    · rw [if_neg e, atKey_put_other (fun h => e (bytes_eq (by injection h)))]
      exact hat t

/-- how many of the first k are s -/
def cn (ss : List ByteArray) : Nat → ByteArray → Nat
  | 0, _ => 0
  | k + 1, s => if s = gs ss k then cn ss k (gs ss k) + 1 else cn ss k s
theorem cn_le (ss : List ByteArray) (k : Nat) : ∀ s, cn ss k s ≤ k := by
  induction k with
  | zero => intro s; simp [cn]
  | succ k ih => intro s; simp only [cn]; have := ih s; have := ih (gs ss k); split <;> omega
/-- which one wins, of the first k -/
def wn (ss : List ByteArray) (need : Int) : Nat → Option Nat
  | 0 => none
  | k + 1 => match wn ss need k with
    | some i => some i
    | none => if (cn ss (k + 1) (gs ss k) : Int) = need then some k else none
def winV (ss : List ByteArray) (need : Int) : Value := match wn ss need ss.length with
  | some i => .tuple #[.string (gs ss i), .nilIface]
  | none => .tuple #[.string ⟨#[]⟩, errV 5]
theorem wn_some {ss : List ByteArray} {need : Int} {k i : Nat} (h : wn ss need k = some i) {n : Nat} (hn : k ≤ n) : wn ss need n = some i := by
  induction n with
  | zero => obtain rfl : k = 0 := by omega
            exact h
  | succ n ih =>
    by_cases e : k = n + 1
    · subst e; exact h
    · simp only [wn, ih (by omega)]
theorem winV_some {ss : List ByteArray} {need : Int} {k i : Nat} (h : wn ss need k = some i) (hn : k ≤ ss.length) : winV ss need = .tuple #[.string (gs ss i), .nilIface] := by
  simp only [winV, wn_some h hn]
theorem winV_none {ss : List ByteArray} {need : Int} (h : wn ss need ss.length = none) : winV ss need = .tuple #[.string ⟨#[]⟩, errV 5] := by
  simp only [winV, h]

theorem win_range (A : Option Addr) (cap : Nat) (ss : List ByteArray) (need : Int) (w : World) (hn : copB need = false) :
    Calls Tryz.prog 76 #[.slice A ss.length cap, .int .i64 need] w fun e w' => e = .returned (.tuple #[.string ⟨#[]⟩, errV 1]) ∧ w = w' := by
  go_enter Tryz.func76, Tryz.ntmps76
  go_wp2_with (first | (go_at_call 71; refine (copies_any _ _).mono ?_; rintro e w' ⟨rfl, rfl⟩))
  go_ret2
  exact ⟨rfl, rfl⟩
theorem win_full (A : Option Addr) (cap : Nat) (ss : List ByteArray) (need : Int) (w : World) (hn : copB need = true) (hl : 7 < ss.length) :
    Calls Tryz.prog 76 #[.slice A ss.length cap, .int .i64 need] w fun e w' => e = .returned (.tuple #[.string ⟨#[]⟩, errV 4]) ∧ w = w' := by
  go_enter Tryz.func76, Tryz.ntmps76
  go_wp2_with (first | (go_at_call 71; refine (copies_any _ _).mono ?_; rintro e w' ⟨rfl, rfl⟩))
  go_ret2
  exact ⟨rfl, rfl⟩

set_option maxHeartbeats 800000 in
set_option maxRecDepth 100000 in
theorem win_any (A : Option Addr) (cap : Nat) (ss : List ByteArray) (need : Int) (w : World) (hn : copB need = true) (hl : ss.length ≤ 7) (hA : Strs w A ss) (hs : ∀ i, i < ss.length → (gs ss i).size ≤ maxLen) :
    Calls Tryz.prog 76 #[.slice A ss.length cap, .int .i64 need] w fun e w' => e = .returned (winV ss need) ∧ Below w.heap.size w w' := by
  have hmm := @run_makeMap Tryz.prog
  have HS := Lib.hid hs; clear hs
  go_enter Tryz.func76, Tryz.ntmps76
  go_wp2_with (first | (go_at_call 71; refine (copies_any _ _).mono ?_; rintro e w' ⟨rfl, rfl⟩))
  go_loopw [22] (fun i wr => ∃ k : Nat, k ≤ ss.length ∧ i = .int .i64 k ∧ Cnt wr w.heap.size k (cn ss k) ∧ Hid (wn ss need k = none) ∧ Below w.heap.size w wr)
    (fun i _ => ss.length - (intOf i).toNat)
  case atStart => exact ⟨0, Nat.zero_le _, rfl, Cnt.made w, rfl, (Below.refl _ _).alloc (Nat.le_refl _) _⟩
  case round =>
    obtain ⟨k, hk, rfl, hc, hw, hb⟩ := hrel
    by_cases hlt : k < ss.length
    · obtain ⟨b, off, rfl, hbl, hcell⟩ := (hA.below hb (Nat.le_refl _)).at_ hlt
      have hsz := HS.out k hlt
      have hle := cn_le ss k (gs ss k)
      go_wp2_with (first
        | (at_lookup; refine wpList_lookup_cnt rfl _ _ rfl w.heap.size k _ rfl hc (gs ss k) rfl hsz ?_)
        | (at_mapUpdate; refine wpList_update_cnt rfl _ _ _ rfl w.heap.size k _ rfl hc (by unfold maxLen; omega) (gs ss k) rfl hsz (cn ss k (gs ss k) + 1) rfl (by omega) ?_; intro w1 hc1 hg1)
        | (at_lookup; refine wpList_lookup_cnt rfl _ _ rfl w.heap.size (k + 1) _ rfl hc1 (gs ss k) rfl hsz ?_))
      · have he : ((cn ss k (gs ss k) : Int) + 1 == need) = true := by assumption
        have hv : winV ss need = .tuple #[.string (gs ss k), .nilIface] := by
          refine winV_some (k := k + 1) ?_ (by omega)
          simp only [wn, hw.out]
          rw [if_pos]
          simp only [cn, if_true]
          have := eq_of_beq he
          rw [← this]; rfl
        rw [hv]
        go_ret2
        exact ⟨rfl, hb.grown hg1 hb.size (fun j hj => by cases hj; exact Nat.le_refl _)⟩
      · have he : ((cn ss k (gs ss k) : Int) + 1 == need) = false := by assumption
        have hw2 : wn ss need (k + 1) = none := by
          simp only [wn, hw.out]
          rw [if_neg]
          simp only [cn, if_true]
          have := ne_of_beq_false he
          exact fun h => this (by rw [← h]; rfl)
        have HW := Lib.hid hw2; clear hw2 he
        go_roundw
        case rel => exact ⟨k + 1, by omega, by go_num, hc1, HW, hb.grown hg1 hb.size (fun j hj => by cases hj; exact Nat.le_refl _)⟩
        case measure => simp [intOf]; omega
    · obtain rfl : k = ss.length := by omega
      have hv := winV_none hw.out
      have HV := Lib.hid hv; clear hv hc
      go_wp2
      rw [HV.out]
      go_ret2
      exact ⟨rfl, hb⟩

/-- how many say the same at most, of the first k -/
def mo (ss : List ByteArray) : Nat → Nat
  | 0 => 0
  | k + 1 => max (mo ss k) (cn ss k (gs ss k) + 1)
theorem mo_le (ss : List ByteArray) (k : Nat) : mo ss k ≤ k := by
  induction k with
  | zero => simp [mo]
  | succ k ih => simp only [mo]; have := cn_le ss k (gs ss k); omega
end Go.Proofs.YtpgemofkolmabaaGreatDoor
