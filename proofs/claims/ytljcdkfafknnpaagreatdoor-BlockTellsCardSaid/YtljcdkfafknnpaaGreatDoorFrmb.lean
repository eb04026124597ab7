/- Merged: Frmb. Conditions: none beyond each theorem's own. -/
import Derived.Test.YtljcdkfafknnpaaGreatDoorTold
import Derived.Test.YtljcdkfafknnpaaGreatDoorMc
import Derived.JoinedOf
import Derived.LaidLaws
import Derived.LaidHandle
import Derived.Stop.Joined
namespace Go.Proofs.YtljcdkfafknnpaaGreatDoor
set_option linter.unusedVariables false
set_option linter.unusedSimpArgs false
open Go.ChangeShapes Go.WideShapes Go.RowKit
theorem ev_glob : Tryz.prog.globalNamed "errors.errorType" = some 0 := by kernel_rfl
theorem ev_rt : (Tryz.prog.cutTypes.find? (·.1 == "internal/reflectlite.rtype")).map (·.2) = some 192 := by kernel_rfl
theorem ev_row : ((List.range 245).filter fun t => Tryz.prog.rowNamed t [101, 114, 114, 111, 114]) = [35] := by kernel_rfl
theorem ev_size : Tryz.prog.types.size = 245 := by kernel_rfl
theorem err_of_handles {W : World} (h : handlesMet Tryz.prog [("errors.errorType", Rows.laid_errors_errorType)] W) : errAt W := by
  obtain ⟨name, u, ty, e1, e2, e3, e4, e5⟩ := h _ (List.mem_singleton.2 rfl)
  have en : name = [101, 114, 114, 111, 114] := (Option.some.inj e1).symm
  subst en
  obtain rfl := Option.some.inj (ev_rt.symm.trans e2)
  have hm : ty ∈ (List.range 245).filter fun t => Tryz.prog.rowNamed t [101, 114, 114, 111, 114] := List.mem_filter.2 ⟨List.mem_range.2 (by rw [← ev_size]; exact e3), e4⟩
  rw [ev_row] at hm
  obtain rfl := List.mem_singleton.1 hm
  have hh : typeHandle Tryz.prog 35 = .pointer (some ⟨3, 35, none⟩) := by kernel_rfl
  rw [hh] at e5
  have := World.var?_cell ev_glob e5 0
  unfold errAt
  simpa using this
theorem both_of_parts {W : World} (h : laidMet Tryz.prog [("moneyer/sha.rounds", Lib.tabData .u32 kInts)] W ∧ handlesMet Tryz.prog [("errors.errorType", Rows.laid_errors_errorType)] W) : tabAt W ∧ errAt W := ⟨tab_of h.1, err_of_handles h.2⟩
/-- Worlds with what is laid, for the witnesses. -/
noncomputable def bothWorld (os : Os) : World :=
  { laidWorld os with heap := (laidWorld os).heap.modify 0 fun
      | .cells _ t frozen => .cells #[.iface 192 (.agg #[.pointer (some ⟨3, 35, none⟩)])] t frozen
      | o => o }
end Go.Proofs.YtljcdkfafknnpaaGreatDoor
