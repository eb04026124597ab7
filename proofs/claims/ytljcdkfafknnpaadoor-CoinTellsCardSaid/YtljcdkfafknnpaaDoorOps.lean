/- The walks of lock.op and the reference's OpFault. Conditions: none beyond each theorem's own. -/
import Derived.Test.YtljcdkfafknnpaaDoorDig0
import Derived.Test.YtljcdkfafknnpaaDoorBrk
namespace Go.Proofs.YtljcdkfafknnpaaDoor
set_option linter.unusedVariables false
set_option linter.unusedSimpArgs false
open Go.RowKit
attribute [local go_sem ↓] run_load_agg run_store_agg

/-- What is wrong with an op. -/
def opF (op n : Int) (len : Nat) : Int :=
  if op < 1 ∨ 14 < op ∨ (n ≠ 0 ∧ op ≠ 9 ∧ op ≠ 10) ∨ (0 < len ∧ op ≠ 1) then 1
  else if 300 < len then 4
  else if (op = 9 ∧ (n < 1 ∨ 9 < n)) ∨ (op = 10 ∧ (n < 0 ∨ 1073741824 < n)) then 2 else 0
/-- An error by its number. -/
def errV (c : Int) : Value := if c = 0 then .nilIface else .iface 46 (.int .i64 c)
theorem ret_int {a b : Int} (h : b = a) : Ending.returned (.int .i64 a) = .returned (.int .i64 b) := by rw [h]
theorem ret_err {c b : Int} {v : Value} (h : b = c) (hv : v = errV c) : Ending.returned v = .returned (errV b) := by rw [h, hv]
set_option maxHeartbeats 4000000 in
set_option maxRecDepth 100000 in
theorem opFault_any (op n : Int) (ao : Option Addr) (len cap : Nat) (w : World) (h1 : len ≤ cap) (h2 : cap ≤ 2 ^ 63 - 1) :
    Calls Tryd.prog 71 #[.agg #[.int .i64 op, .int .i64 n, .slice ao len cap]] w fun e w' => e = .returned (.int .i64 (opF op n len)) ∧ Below w.heap.size w w' := by
  go_enter Tryd.func71, Tryd.ntmps71
  go_wp2
  all_goals go_ret
  all_goals refine ⟨?_, (Below.refl _ _).alloc (Nat.le_refl _) _⟩
  all_goals try simp only [bne_iff_ne, bne_eq_false_iff_eq, ne_eq] at *
  all_goals first
    | exact ret_int (a := 0) (by unfold opF; rw [if_neg (by omega), if_neg (by omega), if_neg (by omega)])
    | exact ret_int (a := 1) (by unfold opF; rw [if_pos (by omega)])
    | exact ret_int (a := 4) (by unfold opF; rw [if_neg (by omega), if_pos (by omega)])
    | exact ret_int (a := 2) (by unfold opF; rw [if_neg (by omega), if_neg (by omega), if_pos (by omega)])
set_option maxHeartbeats 4000000 in
set_option maxRecDepth 100000 in
theorem lockOp_any (op n : Int) (ao : Option Addr) (len cap : Nat) (w : World) (h1 : len ≤ cap) (h2 : cap ≤ 2 ^ 63 - 1) :
    Calls Tryd.prog 74 #[.agg #[.int .i64 op, .int .i64 n, .slice ao len cap]] w fun e w' => e = .returned (errV (opF op n len)) ∧ Below w.heap.size w w' := by
  go_enter Tryd.func74, Tryd.ntmps74
  go_wp2
  all_goals go_ret
  all_goals refine ⟨?_, (Below.refl _ _).alloc (Nat.le_refl _) _⟩
  all_goals try simp only [bne_iff_ne, bne_eq_false_iff_eq, ne_eq] at *
  all_goals first
    | exact ret_err (c := 0) (by unfold opF; rw [if_neg (by omega), if_neg (by omega), if_neg (by omega)]) rfl
    | exact ret_err (c := 1) (by unfold opF; rw [if_pos (by omega)]) rfl
    | exact ret_err (c := 4) (by unfold opF; rw [if_neg (by omega), if_pos (by omega)]) rfl
    | exact ret_err (c := 2) (by unfold opF; rw [if_neg (by omega), if_neg (by omega), if_pos (by omega)]) rfl
end Go.Proofs.YtljcdkfafknnpaaDoor
