/- errors.As at the target *Errno, by its contracts: of nil it is false; of an Errno it is true, and the target has it. After the guide's worked text for a pointer's type, turned to a number's. Then plain.Told and tuplesame.Error. -/
import Derived.Test.YtfelefkmbbfdjaaGreatDoorChecked
import Derived.Test.YtfelefkmbbfdjaaGreatDoorBase
import Derived.Test.YtfelefkmbbfdjaaGreatDoorMem
import Derived.WalkKit
import Derived.LaidEql
import Derived.Stop.Asserts
import Derived.RowKitTokens
namespace Go.Proofs.YtfelefkmbbfdjaaGreatDoor
open Go.RowKit Go.Extern.Stop Go.Stop Go.Extern

/-- errors.As(nil, target). -/
theorem as_nil (t : Value) (w : World) :
    Calls Tryz.prog 54 #[.nilIface, t] w fun e w' => e = .returned (.bool false) ∧ w' = w := by
  go_enter Tryz.func54, Tryz.ntmps54
  go_wp2
  go_ret
  exact ⟨rfl, rfl⟩

/-! ### CLOSED FACTS ON THE MODEL's ENTRIES FOR internal/reflectlite, at this program's types: Errno, *Errno, error, reflectlite's rtype · 1: how many package-level variables the dump has -/
theorem asx.valueOf27 (t : Addr) (w : World) : (ReflectliteValue.unpack (.iface 107 (.pointer (some t)))).run Tryz.prog w
    = .ok (.agg #[.pointer (some ⟨12, 107, none⟩), .pointer (some ⟨w.heap.size, 0, none⟩), .int .u64 150]) (w.alloc (.cells #[.pointer (some t)] 107)) := by kernel_rfl
theorem asx.type27 (a : Addr) (w : World) : (ReflectliteValue.methodAny (ReflectliteValue.valueError "reflectlite.Value.Type" 0) (fun t _ _ _ => ReflectliteType.toType t) #[.agg #[.pointer (some ⟨12, 107, none⟩), .pointer (some a), .int .u64 150]]).run Tryz.prog w
    = .ok (.iface 159 (.agg #[.pointer (some ⟨12, 107, none⟩)])) w := by kernel_rfl
theorem asx.methodKind (h : Value) (w : World) : (Go.method 368 159 (.agg #[h]) "Kind").run Tryz.prog w = .ok (174, h) w := by kernel_rfl
theorem asx.kind27 (w : World) : ((ReflectliteType.abiMethod fun t => (fun a : Nat => Value.int IntKind.u8 (a : Int)) <$> Rtype.kind t) #[.pointer (some ⟨12, 107, none⟩)]).run Tryz.prog w = .ok (.int .u8 22) w := by kernel_rfl
theorem asx.kind25 (w : World) : ((ReflectliteType.abiMethod fun t => (fun a : Nat => Value.int IntKind.u8 (a : Int)) <$> Rtype.kind t) #[.pointer (some ⟨12, 63, none⟩)]).run Tryz.prog w = .ok (.int .u8 2) w := by kernel_rfl

/-! ### THE ENTRIES THAT READ OR WRITE MEMORY: laws with a premise on the cell (after Derived/Lib/ReflectliteSlice.lean's manner: each unfolding a lemma of its own, by rfl) -/
theorem rlm (z : Sem Value) (f : TypeId → Addr → Nat → Nat → Sem Value) (v : Value) :
    ReflectliteValue.method z f #[v] = (do match ← ReflectliteValue.parts v with | none => z | some (t, a, fl) => f t a fl (fl % 32)) := rfl
theorem asx.parts27 (a : Addr) (w : World) : (ReflectliteValue.parts (.agg #[.pointer (some ⟨12, 107, none⟩), .pointer (some a), .int .u64 150])).run Tryz.prog w = .ok (some (107, a, 150)) w := by kernel_rfl
/-- (Value).IsNil at the Value of a *Errno that is not nil. -/
theorem asx.isNil27 (a p : Addr) (W : World) (ha : W.cell? a = some (.pointer (some p))) :
    (ReflectliteValue.method (ReflectliteValue.valueError "reflectlite.Value.IsNil" 0) ReflectliteValue.isNil #[.agg #[.pointer (some ⟨12, 107, none⟩), .pointer (some a), .int .u64 150]]).run Tryz.prog W = .ok (.bool false) W := by
  rw [rlm]
  simp only [Sem.run_bind, asx.parts27, Result.andThen]
  simp [ReflectliteValue.isNil, loadVar, isAgg, underlying, Tryz.underlying107, ha, Result.andThen]

theorem asx.methodElem (h : Value) (w : World) : (Go.method 368 159 (.agg #[h]) "Elem").run Tryz.prog w = .ok (186, .agg #[h]) w := by kernel_rfl
theorem asx.methodImplements (h : Value) (w : World) : (Go.method 368 159 (.agg #[h]) "Implements").run Tryz.prog w = .ok (187, .agg #[h]) w := by kernel_rfl
theorem asx.methodAssignableTo (h : Value) (w : World) : (Go.method 368 159 (.agg #[h]) "AssignableTo").run Tryz.prog w = .ok (184, .agg #[h]) w := by kernel_rfl
theorem asx.elem27 (w : World) : (ReflectliteType.method ReflectliteType.elem #[.agg #[.pointer (some ⟨12, 107, none⟩)]]).run Tryz.prog w = .ok (.iface 159 (.agg #[.pointer (some ⟨12, 63, none⟩)])) w := by kernel_rfl
theorem asx.implements25 (w : World) : (ReflectliteType.relation "Implements" ReflectliteType.implements_ #[.agg #[.pointer (some ⟨12, 63, none⟩)], .iface 159 (.agg #[.pointer (some ⟨12, 27, none⟩)])]).run Tryz.prog w = .ok (.bool true) w := by kernel_rfl
theorem asx.typeOf25 (v : Value) (w : World) : (ReflectliteType.typeOf #[.iface 63 v]).run Tryz.prog w = .ok (.iface 159 (.agg #[.pointer (some ⟨12, 63, none⟩)])) w := by kernel_rfl
theorem asx.assignable25 (w : World) : (ReflectliteType.relation "AssignableTo" ReflectliteType.assignableTo #[.agg #[.pointer (some ⟨12, 63, none⟩)], .iface 159 (.agg #[.pointer (some ⟨12, 63, none⟩)])]).run Tryz.prog w = .ok (.bool true) w := by kernel_rfl
theorem asx.valueOf25 (n : Int) (w : World) : (ReflectliteValue.unpack (.iface 63 (.int .i64 n))).run Tryz.prog w
    = .ok (.agg #[.pointer (some ⟨12, 63, none⟩), .pointer (some ⟨w.heap.size, 0, none⟩), .int .u64 130]) (w.alloc (.cells #[.int .i64 n] 63)) := by kernel_rfl

theorem asx.elemOf27 (w : World) : (Rtype.elem? 107).run Tryz.prog w = .ok (some 63) w := by kernel_rfl
theorem asx.mk25 (p : Addr) (w : World) : (ReflectliteValue.mk 63 p ReflectliteValue.flagAddr).run Tryz.prog w = .ok (.agg #[.pointer (some ⟨12, 63, none⟩), .pointer (some p), .int .u64 386]) w := by kernel_rfl
/-- (Value).Elem at the Value of a *Errno that is not nil: the Value of the Errno variable that it points to, addressable. -/
theorem asx.elemV27 (a p : Addr) (W : World) (ha : W.cell? a = some (.pointer (some p))) :
    (ReflectliteValue.method (ReflectliteValue.valueError "reflectlite.Value.Elem" 0) ReflectliteValue.elem #[.agg #[.pointer (some ⟨12, 107, none⟩), .pointer (some a), .int .u64 150]]).run Tryz.prog W
      = .ok (.agg #[.pointer (some ⟨12, 63, none⟩), .pointer (some p), .int .u64 386]) W := by
  rw [rlm]
  simp only [Sem.run_bind, asx.parts27, Result.andThen]
  simp [ReflectliteValue.elem, loadVar, isAgg, underlying, Tryz.underlying107, ha, Result.andThen, asx.elemOf27, asx.mk25]
theorem rls (v x : Value) : ∃ s1 s2 s3 s4 s5 : String, ReflectliteValue.set #[v, x] = (do
    let (some (dst, a, fl), some (src, b, _)) := (← ReflectliteValue.parts v, ← ReflectliteValue.parts x)
      | unsupported (.noEntry s1)
    if fl / ReflectliteValue.flagAddr % 2 == 0 then unsupported (.noEntry s2)
    let val ← loadVar src b
    if ← Rtype.directlyAssignable dst src then storeVar dst a val
    else if ← Rtype.implements dst src then
      if (← Rtype.kind src) == 20 then
        match val with
        | .nilIface => unsupported (.noEntry s3)
        | _ => storeVar dst a val
      else storeVar dst a (.iface src val)
    else panicString (s4 ++ (← Rtype.spelt src) ++ s5 ++ (← Rtype.spelt dst))
    pure (.tuple #[])) := ⟨_, _, _, _, _, rfl⟩
theorem asx.parts25a (a : Addr) (w : World) : (ReflectliteValue.parts (.agg #[.pointer (some ⟨12, 63, none⟩), .pointer (some a), .int .u64 386])).run Tryz.prog w = .ok (some (63, a, 386)) w := by kernel_rfl
theorem asx.parts25 (a : Addr) (w : World) : (ReflectliteValue.parts (.agg #[.pointer (some ⟨12, 63, none⟩), .pointer (some a), .int .u64 130])).run Tryz.prog w = .ok (some (63, a, 130)) w := by kernel_rfl
theorem asx.direct25 (w : World) : (Rtype.directlyAssignable 63 63).run Tryz.prog w = .ok true w := by kernel_rfl
theorem asx.size25 (w : World) : (sizeOf 63).run Tryz.prog w = .ok 1 w := by kernel_rfl
/-- (Value).Set: the Errno variable at 'ta' gets what the Value's own variable 'b' holds. -/
theorem asx.set25 (ta b : Addr) (n : Int) (old : Value) (W : World) (hb : W.cell? b = some (.int .i64 n)) (ht : W.cell? ta = some old) (hf : W.frozen? ta = false) :
    (ReflectliteValue.set #[.agg #[.pointer (some ⟨12, 63, none⟩), .pointer (some ta), .int .u64 386], .agg #[.pointer (some ⟨12, 63, none⟩), .pointer (some b), .int .u64 130]]).run Tryz.prog W
      = .ok (.tuple #[]) (W.setCell ta (.int .i64 n)) := by
  obtain ⟨s1, s2, s3, s4, s5, hrl⟩ := rls (.agg #[.pointer (some ⟨12, 63, none⟩), .pointer (some ta), .int .u64 386]) (.agg #[.pointer (some ⟨12, 63, none⟩), .pointer (some b), .int .u64 130])
  rw [hrl]
  simp only [Sem.run_bind, asx.parts25a, asx.parts25, Result.andThen]
  simp [ReflectliteValue.flagAddr, loadVar, isAgg, underlying, Tryz.underlying63, hb, Result.andThen, asx.direct25, storeVar, Value.cells, storeCells, Addr.add]
  rw [run_store Tryz.prog W ta _ _ (by rfl)]
  simp [ht, hf]

set_option maxHeartbeats 4000000 in
theorem as_hit (n : Int) (t : Addr) (old : Value) (w : World) (hg : w.cell? ⟨1, 0, none⟩ = some (.iface 159 (.agg #[.pointer (some ⟨12, 27, none⟩)]))) (ht0 : w.cell? t = some old) (hf0 : w.frozen? t = false) :
    Calls Tryz.prog 54 #[.iface 63 (.int .i64 n), .iface 107 (.pointer (some t))] w fun ev w' => ev = .returned (.bool true) ∧ w' = ((((w.alloc (.cells #[.pointer (some t)] 107)).alloc (.cells #[.pointer (some ⟨12, 107, none⟩), .pointer (some ⟨w.heap.size, 0, none⟩), .int .u64 150] 133)).alloc (.cells #[.pointer (some ⟨12, 107, none⟩), .pointer (some ⟨w.heap.size, 0, none⟩), .int .u64 150] 133)).alloc (.cells #[.int .i64 n] 63)).setCell t (.int .i64 n) := by
  have h6 := @run_callFunc_extern Tryz.prog 79 _ (fun args => ReflectliteValue.unpack (args.getD 0 (.tuple #[]))) Tryz.func79 (by kernel_rfl) (by kernel_rfl) (by kernel_rfl) (by kernel_rfl)
  have h7 := @run_callFunc_extern Tryz.prog 80 _ (ReflectliteValue.methodAny (ReflectliteValue.valueError "reflectlite.Value.Type" 0) (fun t _ _ _ => ReflectliteType.toType t)) Tryz.func80 (by kernel_rfl) (by kernel_rfl) (by kernel_rfl) (by kernel_rfl)
  have h8 := @run_callFunc_extern Tryz.prog 81 _ (ReflectliteValue.method (ReflectliteValue.valueError "reflectlite.Value.IsNil" 0) ReflectliteValue.isNil) Tryz.func81 (by kernel_rfl) (by kernel_rfl) (by kernel_rfl) (by kernel_rfl)
  have h27 := @run_callFunc_extern Tryz.prog 174 _ (ReflectliteType.abiMethod fun t => do pure (.int .u8 (← Rtype.kind t))) Tryz.func174 (by kernel_rfl) (by kernel_rfl) (by kernel_rfl) (by kernel_rfl)
  have h37 := @run_callFunc_extern Tryz.prog 186 _ (ReflectliteType.method ReflectliteType.elem) Tryz.func186 (by kernel_rfl) (by kernel_rfl) (by kernel_rfl) (by kernel_rfl)
  have h38 := @run_callFunc_extern Tryz.prog 187 _ (ReflectliteType.relation "Implements" ReflectliteType.implements_) Tryz.func187 (by kernel_rfl) (by kernel_rfl) (by kernel_rfl) (by kernel_rfl)
  have h10 := @run_callFunc_extern Tryz.prog 101 _ ReflectliteType.typeOf Tryz.func101 (by kernel_rfl) (by kernel_rfl) (by kernel_rfl) (by kernel_rfl)
  have h35 := @run_callFunc_extern Tryz.prog 184 _ (ReflectliteType.relation "AssignableTo" ReflectliteType.assignableTo) Tryz.func184 (by kernel_rfl) (by kernel_rfl) (by kernel_rfl) (by kernel_rfl)
  have h11 := @run_callFunc_extern Tryz.prog 102 _ (ReflectliteValue.method (ReflectliteValue.valueError "reflectlite.Value.Elem" 0) ReflectliteValue.elem) Tryz.func102 (by kernel_rfl) (by kernel_rfl) (by kernel_rfl) (by kernel_rfl)
  have h12 := @run_callFunc_extern Tryz.prog 103 _ ReflectliteValue.set Tryz.func103 (by kernel_rfl) (by kernel_rfl) (by kernel_rfl) (by kernel_rfl)
  have tO := asx.typeOf25
  have mA := asx.methodAssignableTo
  have a25 := asx.assignable25
  have v25 := asx.valueOf25
  have f6 := asx.valueOf27
  have f7 := asx.type27
  have mK := asx.methodKind
  have mE := asx.methodElem
  have mI := asx.methodImplements
  have k27 := asx.kind27
  have k25 := asx.kind25
  have e27 := asx.elem27
  have i25 := asx.implements25
  have n8 := asx.isNil27 ⟨w.heap.size, 0, none⟩ t ((w.alloc (.cells #[.pointer (some t)] 107)).alloc (.cells #[.pointer (some ⟨12, 107, none⟩), .pointer (some ⟨w.heap.size, 0, none⟩), .int .u64 150] 133)) (by simp)
  have hlt : 1 < w.heap.size := lt_of_cell hg
  have hg2 : ((w.alloc (.cells #[.pointer (some t)] 107)).alloc (.cells #[.pointer (some ⟨12, 107, none⟩), .pointer (some ⟨w.heap.size, 0, none⟩), .int .u64 150] 133)).cell? ⟨1, 0, none⟩ = some (.iface 159 (.agg #[.pointer (some ⟨12, 27, none⟩)])) := by
    rw [World.cell?_alloc_lt _ _ ⟨1, 0, none⟩ (by simp <;> omega), World.cell?_alloc_lt _ _ ⟨1, 0, none⟩ hlt]; exact hg
  have htl : t.block < w.heap.size := by
    rcases Nat.lt_or_ge t.block w.heap.size with h | h
    · exact h
    · simp [World.cell?, Array.getElem?_eq_none h] at ht0
  have el := asx.elemV27 ⟨w.heap.size, 0, none⟩ t (((w.alloc (.cells #[.pointer (some t)] 107)).alloc (.cells #[.pointer (some ⟨12, 107, none⟩), .pointer (some ⟨w.heap.size, 0, none⟩), .int .u64 150] 133)).alloc (.cells #[.pointer (some ⟨12, 107, none⟩), .pointer (some ⟨w.heap.size, 0, none⟩), .int .u64 150] 133)) (by rw [World.cell?_alloc_lt _ _ ⟨w.heap.size, 0, none⟩ (by simp; omega)]; simp)
  have st := asx.set25 t ⟨w.heap.size + 1 + 1 + 1, 0, none⟩ n old ((((w.alloc (.cells #[.pointer (some t)] 107)).alloc (.cells #[.pointer (some ⟨12, 107, none⟩), .pointer (some ⟨w.heap.size, 0, none⟩), .int .u64 150] 133)).alloc (.cells #[.pointer (some ⟨12, 107, none⟩), .pointer (some ⟨w.heap.size, 0, none⟩), .int .u64 150] 133)).alloc (.cells #[.int .i64 n] 63))
    (by rw [World.cell?_alloc_at _ _ _ _ (by simp)]; rfl)
    (by rw [World.cell?_alloc_lt _ _ t (by simp; omega), World.cell?_alloc_lt _ _ t (by simp; omega), World.cell?_alloc_lt _ _ t (by simp; omega), World.cell?_alloc_lt _ _ t htl]; exact ht0)
    (by rw [World.frozen?_alloc_old _ _ t (by simp; omega), World.frozen?_alloc_old _ _ t (by simp; omega), World.frozen?_alloc_old _ _ t (by simp; omega), World.frozen?_alloc_old _ _ t (Nat.ne_of_lt htl)]; exact hf0)
  go_enter Tryz.func54, Tryz.ntmps54
  go_wp2
  refine wp_loop_rounds 1 ?_
  rw [rounds_succ]
  go_wp2
  go_ret
  exact ⟨rfl, rfl⟩

/-- package errors' variable errorType has the handle of the type 'error' -/
def HG (w : World) : Prop := w.cell? ⟨1, 0, none⟩ = some (.iface 159 (.agg #[.pointer (some ⟨12, 27, none⟩)]))
theorem HG.below {w w' : World} (h : HG w) (hb : Below w.heap.size w w') : HG w' := (hb.cell (p := ⟨1, 0, none⟩) (lt_of_cell h)).trans h
theorem HG.alloc {w : World} (h : HG w) (o : Obj) : HG (w.alloc o) := h.below (bal (Below.refl _ _) o)

theorem told_nil (w : World) : Calls Tryz.prog 29 #[.nilIface] w fun e w' => e = .returned (.int .i64 0) ∧ w = w' := by
  go_enter Tryz.func29, Tryz.ntmps29
  go_wp2_with fail
  go_ret
  exact ⟨rfl, rfl⟩
theorem HG.pos {w : World} (h : HG w) : 1 < w.heap.size := lt_of_cell h
/-- the law's own world, and what has come of it: the variable is there, and nothing that was is otherwise -/
def DG (w0 w : World) : Prop := HG w ∧ Below w0.heap.size w0 w
theorem DG.refl {w : World} (h : HG w) : DG w w := ⟨h, Below.refl _ _⟩
theorem DG.below {w0 w w' : World} (h : DG w0 w) (hb : Below w.heap.size w w') : DG w0 w' := ⟨h.1.below hb, bcl h.2 hb⟩
theorem DG.alloc {w0 w : World} (h : DG w0 w) (o : Obj) : DG w0 (w.alloc o) := h.below (bal (Below.refl _ _) o)
theorem DG.drew {w0 w : World} (h : DG w0 w) : DG w0 w.drew := h.below (bdr (Below.refl _ _))
theorem DG.b {w0 w : World} (h : DG w0 w) : Below w0.heap.size w0 w := h.2

set_option maxHeartbeats 800000 in
theorem told_err (n : Int) (w : World) (hg : HG w) : Calls Tryz.prog 29 #[errV n] w fun e w' => e = .returned (.int .i64 n) ∧ Below w.heap.size w w' := by
  have c := fun (t : Addr) (W : World) (h0 : W.cell? t = some (.int .i64 0)) (hf : W.frozen? t = false) (hg : HG W) => as_hit n t (.int .i64 0) W hg h0 hf
  have C := Lib.hid c; clear c
  have HGH := Lib.hid hg; clear hg
  go_enter Tryz.func29, Tryz.ntmps29
  go_wp2_with (go_at_call 54; refine (C.out _ _ (by simp) (by simp) (HGH.out.alloc _)).mono ?_; rintro e w' ⟨rfl, rfl⟩)
  go_ret
  exact ⟨rfl, (by repeat (first | exact Below.refl _ _ | assumption | refine bal ?_ _ | refine bdn ?_ _ | refine bdr ?_ | refine bcl ?_ (by assumption)))⟩
theorem same_nil (w : World) : Calls Tryz.prog 12 #[.nilIface, .int .i64 0] w fun e w' => e = .returned (.bool true) ∧ w = w' := by
  go_enter Tryz.func12, Tryz.ntmps12
  go_wp2_with (go_at_call 29; refine (told_nil _).mono ?_; rintro e w' ⟨rfl, rfl⟩)
  go_ret
  exact ⟨rfl, rfl⟩
theorem same_nilE (m : Int) (w : World) : Calls Tryz.prog 12 #[.nilIface, .int .i64 m] w fun e w' => e = .returned (.bool (0 == m)) ∧ w = w' := by
  go_enter Tryz.func12, Tryz.ntmps12
  go_wp2_with (go_at_call 29; refine (told_nil _).mono ?_; rintro e w' ⟨rfl, rfl⟩)
  go_ret
  exact ⟨rfl, rfl⟩
/-- an error's number is told -/
theorem same_errE (n m : Int) (w0 w : World) (h : DG w0 w) : Calls Tryz.prog 12 #[errV n, .int .i64 m] w fun e w' => e = .returned (.bool (n == m)) ∧ DG w0 w' := by
  have c := told_err n w h.1
  have C := Lib.hid c; clear c
  go_enter Tryz.func12, Tryz.ntmps12
  go_wp2_with fail
  refine C.out.mono ?_
  rintro e w1 ⟨rfl, hb⟩
  go_wp2_with fail
  go_ret
  exact ⟨rfl, h.below hb⟩
theorem same_err (n : Int) (w0 w : World) (h : DG w0 w) : Calls Tryz.prog 12 #[errV n, .int .i64 n] w fun e w' => e = .returned (.bool true) ∧ DG w0 w' :=
  (same_errE n n w0 w h).mono fun e w' ⟨he, hd⟩ => ⟨by rw [he]; simp, hd⟩
theorem same_eV (n : Int) (w0 w : World) (h : DG w0 w) : Calls Tryz.prog 12 #[eV n, .int .i64 n] w fun e w' => e = .returned (.bool true) ∧ DG w0 w' := by
  by_cases e : n = 0
  · subst e
    exact (same_nil w).mono fun e w' ⟨he, hw⟩ => ⟨he, hw ▸ h⟩
  · rw [eV, if_neg e]; exact same_err n w0 w h
end Go.Proofs.YtfelefkmbbfdjaaGreatDoor
