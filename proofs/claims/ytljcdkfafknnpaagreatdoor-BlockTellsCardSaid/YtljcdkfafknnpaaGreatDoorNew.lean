/- Merged: New. Conditions: none beyond each theorem's own. -/
import Derived.Test.YtljcdkfafknnpaaGreatDoorTroot
import Derived.Deep.QuietTactic
namespace Go.Proofs.YtljcdkfafknnpaaGreatDoor
set_option linter.unusedVariables false
set_option linter.unusedSimpArgs false
open Go.RowKit

/-- What the walk asks where a digest is laid into a new cell. -/
theorem new_dig (w : World) (D : List UInt8) (hD : D.length = 32) : (rowAt (w.alloc (.cells zD 23)) w.heap.size 0 32).isSome = true ∧ wrAt (w.alloc (.cells zD 23)) w.heap.size = true ∧
    plainCells (dgV D) = true ∧ (dgV D).size = 32 ∧ rowAt (w.alloc (.cells (dgV D) 23)) w.heap.size 0 32 = some (dgV D) := by
  have hsz : (dgV D).size = 32 := by rw [dgV_size, hD]
  exact ⟨by rw [rowAt_whole (heap_alloc_new w _) 32 rfl]; rfl, wrAt_of_heap (heap_alloc_new w _), dgV_plain _, hsz, rowAt_whole (heap_alloc_new w _) 32 hsz.symm⟩
theorem eql_self (X : List UInt8) (hX : X.length = 32) : ∀ w, (Op.equalIn 10000 23 (.agg (dgV X)) (.agg (dgV X))).run Tryz.prog w = .ok true w := fun w => by
  have := run_eql_dig X X hX hX w
  simpa using this
/-- The worlds of a region that reads three digests and calls: they stand. -/
structure Held3 (w0 : World) (A B D : Nat) (X Y Z : List UInt8) (w : World) : Prop where
  below : Below w0.heap.size w0 w
  a : A < w.heap.size ∧ rowAt w A 0 32 = some (dgV X)
  b : B < w.heap.size ∧ rowAt w B 0 32 = some (dgV Y)
  d : D < w.heap.size ∧ rowAt w D 0 32 = some (dgV Z)
theorem Held3.on {w0 : World} {A B D : Nat} {X Y Z : List UInt8} {w w' : World} (h : Held3 w0 A B D X Y Z w) (hb : Below w.heap.size w w') : Held3 w0 A B D X Y Z w' :=
  ⟨h.below.trans (hb.mono h.below.size), ⟨Nat.lt_of_lt_of_le h.a.1 hb.size, (rowAt_below hb h.a.1 0 32).trans h.a.2⟩, ⟨Nat.lt_of_lt_of_le h.b.1 hb.size, (rowAt_below hb h.b.1 0 32).trans h.b.2⟩, ⟨Nat.lt_of_lt_of_le h.d.1 hb.size, (rowAt_below hb h.d.1 0 32).trans h.d.2⟩⟩
/-- .. that reads one. -/
structure Held1 (w0 : World) (A : Nat) (X : List UInt8) (w : World) : Prop where
  below : Below w0.heap.size w0 w
  a : rowAt w A 0 32 = some (dgV X)
structure Held0 (w0 : World) (w : World) : Prop where
  below : Below w0.heap.size w0 w
theorem quiet_load {C : World → Prop} {K : Act → Prop} {a : Act} {dst : Option Tmp} {x : Operand} {type : TypeId} {pos : String} {after : Array Edge} {guard : Option (Nat × Bool)} (g off : Nat) (cs : Array Value)
    (hx : a.eval x = .pointer (some ⟨g, off, none⟩)) (h : ∀ w, C w → rowAt w g off 32 = some cs) (hK : K (a.put dst (.agg cs))) :
    Oper.quiet Tryz.prog ⟨dst, .load 23 x, type, pos, after, guard⟩ a C K := by
  refine ⟨.agg cs, fun w hw => ?_, hK⟩
  have hr : rowOf w (a.eval x) (Tryz.prog.cellsOf 23) = some cs := by rw [hx, rowOf_ptr, cells_digest]; exact h w hw
  unfold Oper.quietAt
  rw [run_load_agg a.eval w dst _ x type pos after guard agg_digest (by rw [hr]; rfl), hr]
  exact ⟨rfl, rfl⟩
end Go.Proofs.YtljcdkfafknnpaaGreatDoor
