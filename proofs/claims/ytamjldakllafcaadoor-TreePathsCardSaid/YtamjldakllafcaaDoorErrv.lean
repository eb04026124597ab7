/- What a row that lays errors.errorType gives: the variable's cell (after the kit's worked example on a handle). Conditions: none. -/
import Derived.Test.YtamjldakllafcaaDoorTold
import Derived.Test.YtamjldakllafcaaDoorFrame
import Derived.JoinedOf
import Derived.LaidLaws
import Derived.LaidHandle
import Derived.Stop.Joined
namespace Go.Proofs.YtamjldakllafcaaDoor
set_option linter.unusedVariables false
set_option linter.unusedSimpArgs false
open Go.ChangeShapes Go.WideShapes Go.RowKit
theorem ev_glob : Tryd.prog.globalNamed "errors.errorType" = some 1 := by kernel_rfl
theorem ev_rt : (Tryd.prog.cutTypes.find? (·.1 == "internal/reflectlite.rtype")).map (·.2) = some 114 := by kernel_rfl
theorem ev_row : ((List.range 156).filter fun t => Tryd.prog.rowNamed t [101, 114, 114, 111, 114]) = [27] := by kernel_rfl
theorem ev_size : Tryd.prog.types.size = 156 := by kernel_rfl
theorem err_of_handles {W : World} (h : handlesMet Tryd.prog [("errors.errorType", Rows.laid_errors_errorType)] W) : errAt W := by
  obtain ⟨name, u, ty, e1, e2, e3, e4, e5⟩ := h _ (List.mem_singleton.2 rfl)
  have en : name = [101, 114, 114, 111, 114] := (Option.some.inj e1).symm
  subst en
  obtain rfl := Option.some.inj (ev_rt.symm.trans e2)
  have hm : ty ∈ (List.range 156).filter fun t => Tryd.prog.rowNamed t [101, 114, 114, 111, 114] := List.mem_filter.2 ⟨List.mem_range.2 (by rw [← ev_size]; exact e3), e4⟩
  rw [ev_row] at hm
  obtain rfl := List.mem_singleton.1 hm
  have hh : typeHandle Tryd.prog 27 = .pointer (some ⟨2, 27, none⟩) := by kernel_rfl
  rw [hh] at e5
  have := World.var?_cell ev_glob e5 0
  unfold errAt
  simpa using this
theorem err_of_laid {W : World} (h : laidMetH Tryd.prog Rows.workTellsRow.laid W) : errAt W := by
  have h' : laidMet Tryd.prog [] W ∧ handlesMet Tryd.prog [("errors.errorType", Rows.laid_errors_errorType)] W := h
  exact err_of_handles h'.2
theorem both_of_laid {W : World} (h : laidMetH Tryd.prog Rows.treeRootsRow.laid W) : tabAt W ∧ errAt W := by
  have h' : laidMet Tryd.prog [("moneyer/sha.rounds", Lib.tabData .u32 kInts)] W ∧ handlesMet Tryd.prog [("errors.errorType", Rows.laid_errors_errorType)] W := h
  exact ⟨tab_of h'.1, err_of_handles h'.2⟩
/-- Worlds with what is laid, for the witnesses. -/
noncomputable def bothWorld (os : Os) : World :=
  { laidWorld os with heap := (laidWorld os).heap.modify 1 fun
      | .cells _ t frozen => .cells #[.iface 114 (.agg #[.pointer (some ⟨2, 27, none⟩)])] t frozen
      | o => o }
noncomputable def errWorld (os : Os) : World :=
  { World.holding Tryd.prog os ⟨#[], #[], []⟩ with heap := (World.holding Tryd.prog os ⟨#[], #[], []⟩).heap.modify 1 fun
      | .cells _ t frozen => .cells #[.iface 114 (.agg #[.pointer (some ⟨2, 27, none⟩)])] t frozen
      | o => o }
end Go.Proofs.YtamjldakllafcaaDoor
