/- Maps that the program makes, at whatever elements: what they have at each key. -/
import Derived.Test.YtfelefkmbbfdjaaGreatDoorBase
import Derived.Test.YtfelefkmbbfdjaaGreatDoorMem
import Derived.Maps.OwnOps
import Derived.Maps.OwnSet
import Derived.Maps.Views
import Derived.StringKeys
namespace Go.Proofs.YtfelefkmbbfdjaaGreatDoor
open Go.RowKit Go.Maps Go.WideMaps
set_option linter.unusedVariables false

def heldR (v : Value) : Option (DataW Value × List MemPlace) := some (.held v, [])
/-- block B is a map with keys of type k: hs tells which keys it has, f what it gives at each (z where there is none); n: how many stores there were at most, m: how many keys -/
def VMap (w : World) (k : TypeId) (B n m : Nat) (z : Value) (hs : Lit → Bool) (f : Lit → Value) : Prop :=
  ∃ D : DataW Value, w.ownsMap Tryz.prog k heldR B n D ∧ Tidy D ∧ Maps.size D = m ∧ (∀ l, D.atKey l (.held z) = .held (f l)) ∧ ∀ l, Maps.has D l = hs l
section
variable {w w' : World} {k : TypeId} {B n m : Nat} {z : Value} {hs : Lit → Bool} {f : Lit → Value}
theorem VMap.made (w : World) (k : TypeId) (z : Value) : VMap (w.alloc (.map #[] 0)) k w.heap.size 0 0 z (fun _ => false) (fun _ => z) :=
  ⟨.map [], World.ownsMap_made _ _ _ _, tidy_empty, rfl, fun _ => rfl, fun _ => rfl⟩
theorem VMap.lt (h : VMap w k B n m z hs f) : B < w.heap.size := by obtain ⟨D, h, _⟩ := h; exact h.lt
theorem VMap.isMap (h : VMap w k B n m z hs f) : ∃ es clock, w.heap[B]? = some (.map es clock) := by
  obtain ⟨D, ⟨es, clock, h, _⟩, _⟩ := h; exact ⟨es, clock, h⟩
theorem VMap.stay (h : VMap w k B n m z hs f) (hb : w'.heap[B]? = w.heap[B]?) : VMap w' k B n m z hs f := by
  obtain ⟨D, ⟨es, clock, h1, h2⟩, h3⟩ := h
  exact ⟨D, ⟨es, clock, hb.trans h1, h2⟩, h3⟩
theorem VMap.keep (h : VMap w k B n m z hs f) (hb : Below w.heap.size w w') : VMap w' k B n m z hs f := h.stay (hb.block B h.lt)
theorem VMap.congr {hs' : Lit → Bool} {f' : Lit → Value} (h : VMap w k B n m z hs f) (h1 : ∀ l, hs l = hs' l) (h2 : ∀ l, f l = f' l) : VMap w k B n m z hs' f' := by
  obtain ⟨D, a, b, c, d, e⟩ := h
  exact ⟨D, a, b, c, fun l => by rw [d, h2], fun l => by rw [e, h1]⟩
end
theorem not_kin_of_map {w : World} {b : Nat} {e : TypeId} (h : ∃ es clock, w.heap[b]? = some (.map es clock)) (k : ∃ cur, w.heap[b]? = some (.cells cur e)) : False := by
  obtain ⟨_, _, h⟩ := h
  obtain ⟨_, k⟩ := k
  rw [h] at k; cases k
/-- 'm[k]' -/
theorem wpList_lookup_v {w : World} {ops : Array Oper} {rest : List Oper} {o : Oper} {a : Act} {Q : Exit → Act → World → Prop}
    (hg : o.guard = none) (mo x : Operand) (t : TypeId) (hop : o.op = Op.lookup t mo x false) (k e : TypeId) (K : Keyed Tryz.prog k) (ht : Tryz.prog.underlying t = some (.map k e)) (B n m : Nat) (z : Value) (hs : Lit → Bool) (f : Lit → Value)
    (hz : (zeroValue e).run Tryz.prog w = .ok z w) (hm : a.eval mo = .map (some B)) (hc : VMap w k B n m z hs f) (key : Value) (kl : Lit) (hx : a.eval x = key) (hkey : keyOf Tryz.prog k key = some kl)
    (hK : wpList Tryz.prog ops Q rest (a.put o.dst (f kl)) w) : wpList Tryz.prog ops Q (o :: rest) a w := by
  obtain ⟨D, hown, hD, _, hat, _⟩ := hc
  obtain ⟨v, ps, hrun, hv⟩ := hown.lookup (R := heldR) K ht hz (show heldR z = some (.held z, []) from rfl) hkey
  have : v = f kl := by
    simp only [heldR, Option.some.injEq, Prod.mk.injEq] at hv
    rw [hat] at hv
    injection hv.1
  subst this
  refine wpList_plain hg fun K' hK' => ?_
  unfold Oper.wp
  simp [execOp, hop, hm, hx, hrun, Result.andThen]
  exact hK' _ _ hK
theorem run_lookup_v {w : World} (t : TypeId) (k e : TypeId) (K : Keyed Tryz.prog k) (ht : Tryz.prog.underlying t = some (.map k e)) (B n m : Nat) (z : Value) (hs : Lit → Bool) (f : Lit → Value)
    (hz : (zeroValue e).run Tryz.prog w = .ok z w) (hc : VMap w k B n m z hs f) (key : Value) (kl : Lit) (hkey : keyOf Tryz.prog k key = some kl) : (Instr.lookup t (.map (some B)) key false).run Tryz.prog w = .ok (f kl) w := by
  obtain ⟨D, hown, hD, _, hat, _⟩ := hc
  obtain ⟨v, ps, hrun, hv⟩ := hown.lookup (R := heldR) K ht hz (show heldR z = some (.held z, []) from rfl) hkey
  have : v = f kl := by
    simp only [heldR, Option.some.injEq, Prod.mk.injEq] at hv
    rw [hat] at hv
    injection hv.1
  subst this
  exact hrun
/-- 'v, ok := m[k]' -/
theorem wpList_lookup_ok_v {w : World} {ops : Array Oper} {rest : List Oper} {o : Oper} {a : Act} {Q : Exit → Act → World → Prop}
    (hg : o.guard = none) (mo x : Operand) (t : TypeId) (hop : o.op = Op.lookup t mo x true) (k e : TypeId) (K : Keyed Tryz.prog k) (ht : Tryz.prog.underlying t = some (.map k e)) (B n m : Nat) (z : Value) (hs : Lit → Bool) (f : Lit → Value)
    (hz : (zeroValue e).run Tryz.prog w = .ok z w) (hm : a.eval mo = .map (some B)) (hc : VMap w k B n m z hs f) (key : Value) (kl : Lit) (hx : a.eval x = key) (hkey : keyOf Tryz.prog k key = some kl)
    (hK : wpList Tryz.prog ops Q rest (a.put o.dst (.tuple #[f kl, .bool (hs kl)])) w) : wpList Tryz.prog ops Q (o :: rest) a w := by
  obtain ⟨D, hown, hD, _, hat, hh⟩ := hc
  refine wpList_lookup_own_ok w hg mo x t hop k e K ht heldR hz (.held z) [] rfl B n D hm hown key kl hx hkey fun v ps hv => ?_
  have : v = f kl := by
    simp only [heldR, Option.some.injEq, Prod.mk.injEq] at hv
    rw [hat] at hv
    injection hv.1
  subst this
  rw [hh]
  exact hK
open Classical in
theorem VMap.put {w' : World} {k : TypeId} {B n' m : Nat} {z : Value} {hs : Lit → Bool} {f : Lit → Value} {D : DataW Value} {kl : Lit} {val : Value} (hk : WideAt.IsKeyLit kl) (hD : Tidy D) (hm : Maps.size D = m) (hat : ∀ l, D.atKey l (.held z) = .held (f l)) (hh : ∀ l, Maps.has D l = hs l)
    (ho : w'.ownsMap Tryz.prog k heldR B n' (D.put kl (.held val))) : VMap w' k B n' (if hs kl then m else m + 1) z (fun l => decide (l = kl) || hs l) (fun l => if l = kl then val else f l) := by
  refine ⟨_, ho, hD.put hk _, ?_, fun l => ?_, fun l => ?_⟩
  · rw [Maps.size_put hD, hh, hm]
  · show _ = DataW.held (if l = kl then val else f l)
    by_cases e : l = kl
    · subst e; rw [if_pos rfl, atKey_put_same hD.isMap hk]
    · rw [if_neg e, atKey_put_other e]; exact hat l
  · by_cases e : l = kl
    · subst e; rw [has_put_same hD.isMap hk]; simp
    · rw [has_put_other e, hh]; simp [e]
open Classical in
/-- 'm[k] = v' -/
theorem wpList_update_v {w : World} {ops : Array Oper} {rest : List Oper} {o : Oper} {a : Act} {Q : Exit → Act → World → Prop}
    (hg : o.guard = none) (mo x v : Operand) (t : TypeId) (hop : o.op = Op.mapUpdate t mo x v) (k e : TypeId) (K : Keyed Tryz.prog k) (ht : Tryz.prog.underlying t = some (.map k e)) (B n m : Nat) (z : Value) (hs : Lit → Bool) (f : Lit → Value)
    (hm : a.eval mo = .map (some B)) (hc : VMap w k B n m z hs f) (hn : n < maxLen) (key : Value) (kl : Lit) (hx : a.eval x = key) (hkey : keyOf Tryz.prog k key = some kl) (hk : WideAt.IsKeyLit kl) (val : Value) (hv : a.eval v = val)
    (hK : ∀ w', VMap w' k B (n + 1) (if hs kl then m else m + 1) z (fun l => decide (l = kl) || hs l) (fun l => if l = kl then val else f l) → w.grownBy w' (some B) → wpList Tryz.prog ops Q rest (a.put o.dst undef) w') : wpList Tryz.prog ops Q (o :: rest) a w := by
  obtain ⟨D, hown, hD, hsz, hat, hh⟩ := hc
  refine wpList_mapUpdate_own _ hg mo x v _ hop k e K ht heldR B n D hm hown hn key val kl hx hv hkey (.held val) [] rfl fun w' ho hg' => ?_
  exact hK w' (VMap.put hk hD hsz hat hh ho) hg'
open Classical in
theorem run_update_v {w : World} (t : TypeId) (k e : TypeId) (K : Keyed Tryz.prog k) (ht : Tryz.prog.underlying t = some (.map k e)) (B n m : Nat) (z : Value) (hs : Lit → Bool) (f : Lit → Value)
    (hc : VMap w k B n m z hs f) (hn : n < maxLen) (key : Value) (kl : Lit) (hkey : keyOf Tryz.prog k key = some kl) (hk : WideAt.IsKeyLit kl) (val : Value) :
    ∃ w', (Instr.mapUpdate t (.map (some B)) key val).run Tryz.prog w = .ok () w' ∧ VMap w' k B (n + 1) (if hs kl then m else m + 1) z (fun l => decide (l = kl) || hs l) (fun l => if l = kl then val else f l) ∧ w.grownBy w' (some B) := by
  obtain ⟨D, hown, hD, hsz, hat, hh⟩ := hc
  obtain ⟨w', hr, ho, hg'⟩ := hown.update (R := heldR) K ht hn (key := key) (val := val) (d := .held val) (ps := []) hkey rfl
  exact ⟨w', hr, VMap.put hk hD hsz hat hh ho, hg'⟩
/-- 'len(m)' -/
theorem wpList_len_v {w : World} {ops : Array Oper} {rest : List Oper} {o : Oper} {a : Act} {Q : Exit → Act → World → Prop} (hg : o.guard = none) (mo : Operand) (t : TypeId) (hop : o.op = Op.call { callee := Callee.builtin Builtin.len, args := #[mo], argTypes := #[t] })
    (k e : TypeId) (ht : Tryz.prog.underlying t = some (.map k e)) (B n m : Nat) (z : Value) (hs : Lit → Bool) (f : Lit → Value) (hm : a.eval mo = .map (some B)) (hc : VMap w k B n m z hs f)
    (hK : wpList Tryz.prog ops Q rest (a.put o.dst (.int .i64 m)) w) : wpList Tryz.prog ops Q (o :: rest) a w := by
  obtain ⟨D, hown, hD, hsz, hat, hh⟩ := hc
  refine wpList_len_own w hg mo t hop k e ht heldR B n D hm hown ?_
  rw [hsz]; exact hK
/-- at a step of a region that draws its order -/
theorem step_lookup_v {w : World} {ops : Array Oper} {o : Oper} {a : Act} {K : Act → World → Prop} {Q : Exit → Act → World → Prop} {E : Prop}
    (hg : o.guard = none) (mo x : Operand) (t : TypeId) (hop : o.op = Op.lookup t mo x false) (k e : TypeId) (KK : Keyed Tryz.prog k) (ht : Tryz.prog.underlying t = some (.map k e)) (B n m : Nat) (z : Value) (hs : Lit → Bool) (f : Lit → Value)
    (hz : (zeroValue e).run Tryz.prog w = .ok z w) (hm : a.eval mo = .map (some B)) (hc : VMap w k B n m z hs f) (key : Value) (kl : Lit) (hx : a.eval x = key) (hkey : keyOf Tryz.prog k key = some kl)
    (hK : K (a.put o.dst (f kl)) w) : if Region.wanted o (yielded ops a.tmps) = true then Oper.wp Tryz.prog o a w K Q else E := by
  have hw : Region.wanted o (yielded ops a.tmps) = true := by simp [Region.wanted, hg]
  rw [if_pos hw]
  have hrun := run_lookup_v t k e KK ht B n m z hs f hz hc key kl hkey
  unfold Oper.wp
  simp [execOp, hop, hm, hx, hrun, Result.andThen]
  exact hK
open Classical in
theorem step_update_v {w : World} {ops : Array Oper} {o : Oper} {a : Act} {K : Act → World → Prop} {Q : Exit → Act → World → Prop} {E : Prop}
    (hg : o.guard = none) (mo x v : Operand) (t : TypeId) (hop : o.op = Op.mapUpdate t mo x v) (k e : TypeId) (KK : Keyed Tryz.prog k) (ht : Tryz.prog.underlying t = some (.map k e)) (B n m : Nat) (z : Value) (hs : Lit → Bool) (f : Lit → Value)
    (hm : a.eval mo = .map (some B)) (hc : VMap w k B n m z hs f) (hn : n < maxLen) (key : Value) (kl : Lit) (hx : a.eval x = key) (hkey : keyOf Tryz.prog k key = some kl) (hk : WideAt.IsKeyLit kl) (val : Value) (hv : a.eval v = val)
    (hK : ∀ w', VMap w' k B (n + 1) (if hs kl then m else m + 1) z (fun l => decide (l = kl) || hs l) (fun l => if l = kl then val else f l) → w.grownBy w' (some B) → K (a.put o.dst undef) w') : if Region.wanted o (yielded ops a.tmps) = true then Oper.wp Tryz.prog o a w K Q else E := by
  have hw : Region.wanted o (yielded ops a.tmps) = true := by simp [Region.wanted, hg]
  rw [if_pos hw]
  obtain ⟨w', hrun, h1, h2⟩ := run_update_v t k e KK ht B n m z hs f hc hn key kl hkey hk val
  unfold Oper.wp
  simp [execOp, hop, hm, hx, hv, hrun, Result.andThen]
  exact hK w' h1 h2
end Go.Proofs.YtfelefkmbbfdjaaGreatDoor
