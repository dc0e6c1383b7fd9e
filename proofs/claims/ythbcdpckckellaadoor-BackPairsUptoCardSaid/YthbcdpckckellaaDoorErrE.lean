import Derived.Test.YthbcdpckckellaaDoorWorld
/-! A fault as an error. -/
namespace Go.Proofs.YthbcdpckckellaaDoor
open Go.RowKit
set_option linter.unusedVariables false
set_option linter.unusedSimpArgs false
/-- a fault as an error -/
def errV (k : Int) : Value := if k = 0 then .nilIface else .iface 54 (.int .i64 k)
theorem errV_nil : errV 0 = .nilIface := rfl
theorem errV_hit (k : Int) (h : k ≠ 0) : errV k = .iface 54 (.int .i64 k) := by unfold errV; rw [if_neg h]
end Go.Proofs.YthbcdpckckellaaDoor
