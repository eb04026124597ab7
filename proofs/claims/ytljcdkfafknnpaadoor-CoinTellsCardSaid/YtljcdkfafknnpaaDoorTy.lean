/- Closed facts on the types of this seat's program. Conditions: none. -/
import Derived.Test.YtljcdkfafknnpaaDoorLib
import Derived.Test.YtljcdkfafknnpaaDoorRows
namespace Go.Proofs.YtljcdkfafknnpaaDoor
set_option linter.unusedVariables false
set_option linter.unusedSimpArgs false
@[go_sem] theorem agg_state : aggOf Tryd.prog 132 = true := by kernel_rfl
@[go_sem] theorem cells_state : Tryd.prog.cellsOf 132 = 8 := by kernel_rfl
@[go_sem] theorem agg_a64 : aggOf Tryd.prog 153 = true := by kernel_rfl
@[go_sem] theorem cells_a64 : Tryd.prog.cellsOf 153 = 64 := by kernel_rfl
@[go_sem] theorem agg_digest : aggOf Tryd.prog 29 = true := by kernel_rfl
@[go_sem] theorem cells_digest : Tryd.prog.cellsOf 29 = 32 := by kernel_rfl
@[go_sem] theorem agg_hasher : aggOf Tryd.prog 135 = true := by kernel_rfl
@[go_sem] theorem cells_hasher : Tryd.prog.cellsOf 135 = 10 := by kernel_rfl
theorem info_u8 : (Tryd.prog.info? 5).map (fun i => (i.zero, i.size, i.bytes)) = some (some (.int .u8 0), 1, 1) := by kernel_rfl
end Go.Proofs.YtljcdkfafknnpaaDoor
