/- Merged: Tld. Conditions: none beyond each theorem's own. -/
import Derived.Test.YtljcdkfafknnpaaGreatDoorTold
import Derived.Test.YtljcdkfafknnpaaGreatDoorMa
namespace Go.Proofs.YtljcdkfafknnpaaGreatDoor
set_option linter.unusedVariables false
set_option linter.unusedSimpArgs false
open Go.RowKit
theorem told_same (c d : Int) (w : World) (hE : errAt w) : Calls Tryz.prog 10 #[errV c, .int .i64 d] w fun e w' => e = .returned (.bool (decide (c = d))) ∧ Below w.heap.size w w' := by
  by_cases h : c = 0
  · subst h
    rw [errV_0]
    refine (same_nil d w).mono ?_
    rintro e w' ⟨rfl, rfl⟩
    exact ⟨rfl, Below.refl _ _⟩
  · rw [errV_ne h]
    exact same_errno c d w hE
theorem told_eq (c : Int) (w : World) (hE : errAt w) : Calls Tryz.prog 10 #[errV c, .int .i64 c] w fun e w' => e = .returned (.bool true) ∧ Below w.heap.size w w' := by
  have := told_same c c w hE
  rwa [decide_eq_true (rfl : c = c)] at this
end Go.Proofs.YtljcdkfafknnpaaGreatDoor
