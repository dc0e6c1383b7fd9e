import Derived.Test.YtbjanihblffmoaaDoorRefBytes
/-! The reference's Open, Word. -/
namespace Go.Proofs.YtbjanihblffmoaaDoor
open Go.RowKit
set_option linter.unusedVariables false
set_option linter.unusedSimpArgs false
theorem refWord_any (z : Int) (w : World) : Calls Tryd.prog 22 #[.int .i64 z] w fun e w' => e = .returned (.bool (decide (0 ≤ z ∧ z ≤ 4294967295))) ∧ w = w' := by
  by_cases h1 : 0 ≤ z
  · by_cases h2 : z ≤ 4294967295
    · go_enter Tryd.func22, Tryd.ntmps22
      go_wp2
      go_ret
      exact ⟨by simp [h1, h2], rfl⟩
    · go_enter Tryd.func22, Tryd.ntmps22
      go_wp2
      go_ret
      exact ⟨by simp [h1, h2]; try omega, rfl⟩
  · go_enter Tryd.func22, Tryd.ntmps22
    go_wp2
    go_ret
    exact ⟨by simp [h1]; try omega, rfl⟩
end Go.Proofs.YtbjanihblffmoaaDoor
