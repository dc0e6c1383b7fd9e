import Derived.Test.YtbjanihblffmoaaDoorTold
/-! A fault as an error, and choirsame.Error of it. -/
namespace Go.Proofs.YtbjanihblffmoaaDoor
open Go.RowKit
set_option linter.unusedVariables false
set_option linter.unusedSimpArgs false
/-- a fault as an error -/
def errV (k : Int) : Value := if k = 0 then .nilIface else .iface 48 (.int .i64 k)
theorem errV_nil : errV 0 = .nilIface := rfl
theorem errV_hit (k : Int) (h : k ≠ 0) : errV k = .iface 48 (.int .i64 k) := by unfold errV; rw [if_neg h]
theorem error_same (k : Int) (w : World) (hg : Env w) : Calls Tryd.prog 8 #[errV k, .int .i64 k] w fun e w' => e = .returned (.bool true) ∧ Below w.heap.size w w' := by
  by_cases h : k = 0
  · subst h
    exact (error_nil 0 w).mono fun e w' ⟨h1, h2⟩ => ⟨by rw [h1]; simp, h2 ▸ Below.refl _ _⟩
  · rw [errV_hit k h]
    exact (error_hit k k w hg).mono fun e w' ⟨h1, h2⟩ => ⟨by rw [h1]; simp, h2⟩
end Go.Proofs.YtbjanihblffmoaaDoor
