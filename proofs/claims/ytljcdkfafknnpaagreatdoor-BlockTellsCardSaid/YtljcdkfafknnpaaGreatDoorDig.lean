/- Merged: Dig. Conditions: none beyond each theorem's own. -/
import Derived.Test.YtljcdkfafknnpaaGreatDoorOf
import Derived.Test.YtljcdkfafknnpaaGreatDoorMa
import Derived.ChangeKeysEq
namespace Go.Proofs.YtljcdkfafknnpaaGreatDoor
set_option linter.unusedVariables false
set_option linter.unusedSimpArgs false
open Go.RowKit
theorem fill_two (dl dr Z : Array Value) (n : Nat) (hl : dl.size = n) (hr : dr.size = n) (hZ : Z.size = 2 * n) :
    Instr.fill (fun i => some (i * n, n)) Z [(0, .agg dl), (1, .agg dr)] = some (dl ++ dr) := by
  simp only [Instr.fill, Value.cells, hl, hr, Nat.zero_mul, Nat.zero_add, Nat.one_mul]
  rw [← Array.foldl_toList, ← Array.foldl_toList, Array.toList_zipIdx, Array.toList_zipIdx]
  have f1 := fold_set dl.toList 0 0 Z (by simp; omega)
  simp only [Nat.zero_add] at f1
  rw [f1, fold_set dr.toList n 0 _ (by simp; omega)]
  rw [if_neg (by simp; omega), if_neg (by simp; omega)]
  congr 1
  apply Array.ext'
  simp only [List.take_zero, List.nil_append, List.append_assoc]
  rw [List.take_left' (by simp [hl]), List.drop_eq_nil_of_le (by simp; omega), List.append_nil, Array.toList_append]
theorem info_dig : (Tryz.prog.info? 23).map (fun i => (i.zero, i.size, i.bytes)) = some (some (.agg zD), 32, 32) := by kernel_rfl
theorem run_buildSlice_two (dl dr : Array Value) (hl : dl.size = 32) (hr : dr.size = 32) (w : World) :
    (Instr.buildSlice 47 2 #[(0, .agg dl), (1, .agg dr)]).run Tryz.prog w = .ok (.slice (some ⟨w.heap.size, 0, none⟩) 2 2) (w.alloc (.cells (dl ++ dr) 23)) := by
  obtain ⟨i, hi, hz, hs, -⟩ := info_parts' info_dig
  have hf := fun (f : Nat → Value) => fill_two dl dr ((Array.range 64).map f) 32 hl hr (by simp)
  simp [Instr.buildSlice, run_underlying Tryz.underlying47, sizeOf, typeInfo, zeroValue, hi, hz, hs, hf, newRow, Value.cells]
theorem run_build_two (ev : Operand → Value) (w : World) (dst : Option Tmp) (x y : Operand) (type : TypeId) (pos : String) (after : Array Edge) (guard : Option (Nat × Bool))
    (hx : isAggV (ev x) = true) (hy : isAggV (ev y) = true) (hsx : (aggCells (ev x)).size = 32) (hsy : (aggCells (ev y)).size = 32) :
    (execOp ev ⟨dst, .buildSlice 47 2 #[(0, x), (1, y)], type, pos, after, guard⟩).run Tryz.prog w = .ok (.value (.slice (some ⟨w.heap.size, 0, none⟩) 2 2)) (w.alloc (.cells (aggCells (ev x) ++ aggCells (ev y)) 23)) := by
  unfold isAggV at hx hy
  split at hx
  · rename_i dl hdl
    split at hy
    · rename_i dr hdr
      rw [hdl] at hsx ⊢
      rw [hdr] at hsy ⊢
      simp only [aggCells] at hsx hsy ⊢
      have := run_buildSlice_two dl dr hsx hsy w
      simp only [execOp, List.map_toArray, List.map_cons, List.map_nil, hdl, hdr, Sem.run_bind, this]
      rfl
    · cases hy
  · cases hx

/-! ### Two digests compared -/
/-! ### Whole rows loaded and stored, in a region that draws (where the operation stands behind an index) -/
end Go.Proofs.YtljcdkfafknnpaaGreatDoor
