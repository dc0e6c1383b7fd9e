import Derived.Test.YthbcdpckckellaaDoorTold
import Derived.Test.YthbcdpckckellaaDoorErrE
/-! A fault as an error, and choirsame.Error of it. -/
namespace Go.Proofs.YthbcdpckckellaaDoor
open Go.RowKit
set_option linter.unusedVariables false
set_option linter.unusedSimpArgs false
theorem error_same (k : Int) (w : World) (hg : Env w) : Calls Tryd.prog 6 #[errV k, .int .i64 k] w fun e w' => e = .returned (.bool true) ∧ Below w.heap.size w w' := by
  by_cases h : k = 0
  · subst h
    exact (error_nil 0 w).mono fun e w' ⟨h1, h2⟩ => ⟨by rw [h1]; simp, h2 ▸ Below.refl _ _⟩
  · rw [errV_hit k h]
    exact (error_hit k k w hg).mono fun e w' ⟨h1, h2⟩ => ⟨by rw [h1]; simp, h2⟩
end Go.Proofs.YthbcdpckckellaaDoor
