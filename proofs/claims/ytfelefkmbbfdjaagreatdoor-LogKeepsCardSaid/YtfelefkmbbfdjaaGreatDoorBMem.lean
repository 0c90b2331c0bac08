/- The bytes of a text, by place; a slice of bytes in memory. -/
import Derived.Test.YtfelefkmbbfdjaaGreatDoorMem
import Derived.Laws.IdiomStrings
namespace Go.Proofs.YtfelefkmbbfdjaaGreatDoor
open Go.RowKit Go.ChangeShapes Go.WideShapes Go.Deep
set_option linter.unusedVariables false

/-- byte i of a text -/
def gB (s : ByteArray) (i : Nat) : Int := if h : i < s.size then ((s[i]'h).toNat : Int) else 0
theorem gB_lt {s : ByteArray} {i : Nat} (h : i < s.size) : gB s i = ((s[i]'h).toNat : Int) := dif_pos h
theorem gB_wrap {s : ByteArray} {i : Nat} (h : i < s.size) : gB s i = IntKind.i64.wrap ((s[i]'h).toNat : Int) := by
  rw [gB_lt h, IntKind.wrap_i64]; have := (s[i]'h).toNat_lt; omega
theorem gB_range (s : ByteArray) (i : Nat) : 0 ≤ gB s i ∧ gB s i ≤ 255 := by
  unfold gB; split
  · rename_i h; have := (s[i]'h).toNat_lt; omega
  · omega

def Byts (w : World) (A : Option Addr) (s : ByteArray) : Prop := Sl w 1 A s.size fun i _ => .int .u8 (gB s i)
theorem Byts.below {w w' : World} {A : Option Addr} {s : ByteArray} {B : Nat} (h : Byts w A s) (hb : Below B w w') (hB : w.heap.size ≤ B) : Byts w' A s := Sl.below h hb hB
theorem Byts.at_ {w : World} {A : Option Addr} {s : ByteArray} (h : Byts w A s) {i : Nat} (hi : i < s.size) : ∃ b off, A = some ⟨b, off, none⟩ ∧ b < w.heap.size ∧ w.cell? ⟨b, off + i, none⟩ = some (.int .u8 (gB s i)) := Sl.at1 h hi
/-- what '[]byte(s)' lays -/
theorem byts_lit (w : World) (s : ByteArray) (e : TypeId) (cap : Nat) (fr : Nat × Nat) {g : Nat} (hg : g = w.heap.size) : Byts (w.drew.alloc (.cells (bytesRow s cap) e fr)) (some ⟨g, 0, none⟩) s := fun _ => by
  subst hg
  refine ⟨w.heap.size, 0, rfl, by simp, fun i hi j hj => ?_⟩
  obtain rfl : j = 0 := by omega
  have h := World.cell?_alloc_mark w.drew (bytesRow s cap) e fr (0 + i * 1 + 0)
  rw [show w.drew.heap.size = w.heap.size from rfl] at h
  show _ = some (Value.int .u8 (gB s i))
  rw [h, show 0 + i * 1 + 0 = i by omega, bytesRow_at s cap i hi, gB_lt hi]
  rfl
end Go.Proofs.YtfelefkmbbfdjaaGreatDoor
