/- Merged: Told. Conditions: none beyond each theorem's own. -/
import Derived.Test.YtljcdkfafknnpaaGreatDoorAs
namespace Go.Proofs.YtljcdkfafknnpaaGreatDoor
set_option linter.unusedVariables false
set_option linter.unusedSimpArgs false
open Go.RowKit

/-- The variable errors.errorType lies as it was laid. -/
def errAt (w : World) : Prop := w.cell? ⟨0, 0, none⟩ = some (.iface 192 (.agg #[.pointer (some ⟨3, 35, none⟩)]))
theorem errAt_below {B : Nat} {w w' : World} (h : errAt w) (hb : Below B w w') (hB : w.heap.size ≤ B) : errAt w' :=
  (hb.cell (by have := World.block_lt_of_cell? w _ h; exact Nat.lt_of_lt_of_le this hB)).trans h
theorem told_nil (w : World) : Calls Tryz.prog 34 #[.nilIface] w fun e w' => e = .returned (.int .i64 0) ∧ w' = w := by
  go_enter Tryz.func34, Tryz.ntmps34
  go_wp2
  go_ret
  exact ⟨rfl, rfl⟩
set_option maxHeartbeats 2000000 in
set_option maxRecDepth 100000 in
theorem told_errno (k : Int) (w : World) (h : errAt w) : Calls Tryz.prog 34 #[.iface 30 (.int .i64 k)] w fun e w' => e = .returned (.int .i64 k) ∧ Below w.heap.size w w' := by
  have hlt := World.block_lt_of_cell? w _ h
  have hb0 : Hid (Below w.heap.size w (w.alloc (.cells #[.int .i64 0] 30))) := (Below.refl _ _).alloc (Nat.le_refl _) _
  have hE := Lib.hid (errAt_below h hb0.out (Nat.le_refl _))
  have hc : Hid ((w.alloc (.cells #[.int .i64 0] 30)).cell? ⟨w.heap.size, 0, none⟩ = some (.int .i64 0)) := by show _ = _; simp [World.cell?_alloc_new]
  have hf : Hid ((w.alloc (.cells #[.int .i64 0] 30)).frozen? ⟨w.heap.size, 0, none⟩ = false) := frozen_of_row _ _ _ _ _ (heap_alloc_new w _)
  have hs : (w.alloc (.cells #[.int .i64 0] 30)).heap.size = w.heap.size + 1 := by simp
  clear h
  go_enter Tryz.func34, Tryz.ntmps34
  go_wp2_with fail
  generalize w.alloc (.cells #[.int .i64 0] 30) = wa at hb0 hE hc hf hs ⊢
  refine (as_hit k ⟨w.heap.size, 0, none⟩ _ wa hE.out hc.out hf.out).mono ?_
  rintro e w1 ⟨rfl, hw1⟩
  have B1 : Hid (Below w.heap.size w w1) := by
    show Below _ _ _
    rw [hw1]
    exact ((((hb0.out.alloc (by omega) _).alloc (by simp; omega) _).alloc (by simp; omega) _).alloc (by simp; omega) _).setCell (Nat.le_refl _) _
  have hc1 : w1.cell? ⟨w.heap.size, 0, none⟩ = some (.int .i64 k) := by
    rw [hw1]
    refine World.cell?_setCell_same (u := .int .i64 0) _ _ _ ?_
    rw [World.cell?_alloc_lt _ _ _ (by simp; omega), World.cell?_alloc_lt _ _ _ (by simp; omega), World.cell?_alloc_lt _ _ _ (by simp; omega), World.cell?_alloc_lt _ _ _ (by simp; omega)]
    exact hc.out
  clear hw1
  go_wp2
  go_ret
  exact ⟨rfl, B1.out⟩
/-- Is it the number told? -/
theorem same_nil (e : Int) (w : World) : Calls Tryz.prog 10 #[.nilIface, .int .i64 e] w fun ev w' => ev = .returned (.bool (decide (0 = e))) ∧ w' = w := by
  go_enter Tryz.func10, Tryz.ntmps10
  go_wp2_with fail
  refine (told_nil _).mono ?_
  rintro ev w' ⟨rfl, hw'⟩
  rw [hw']
  clear hw' w'
  go_wp2
  go_ret
  exact ⟨by show Ending.returned (.bool ((0 : Int) == e)) = _; congr 2, rfl⟩
theorem same_errno (k e : Int) (w : World) (h : errAt w) : Calls Tryz.prog 10 #[.iface 30 (.int .i64 k), .int .i64 e] w fun ev w' => ev = .returned (.bool (decide (k = e))) ∧ Below w.heap.size w w' := by
  have H := Lib.hid h; clear h
  go_enter Tryz.func10, Tryz.ntmps10
  go_wp2_with fail
  refine (told_errno k w H.out).mono ?_
  rintro ev w' ⟨rfl, hb⟩
  have B := Lib.hid hb; clear hb
  go_wp2
  go_ret
  exact ⟨by show Ending.returned (.bool (k == e)) = _; congr 2, B.out⟩
end Go.Proofs.YtljcdkfafknnpaaGreatDoor
