import Derived.Test.YtnignokbenimlaaWorld
import Derived.Test.YtnignokbenimlaaRows
import Derived.WalkKit
import Derived.ProofKit
import Derived.Outline
/-! The walk of the law Names. -/
namespace Go.Proofs.Ytnignokbenimlaa
open Go.RowKit
set_option linter.unusedVariables false
set_option linter.unusedSimpArgs false

set_option maxHeartbeats 4000000 in
theorem walk_Names (w : World) :
    Calls Try.prog 7 #[] w fun e w' => e = .returned (.bool true) ∧ Below w.heap.size w w' := by
  go_enter Try.func7, Try.ntmps7
  go_wp2
  go_loop [4] (fun i => ∃ k : Nat, k ≤ 10 ∧ i = .int .i64 k) (fun i => 10 - (intOf i).toNat)
  case atStart => exact ⟨0, by omega, rfl⟩
  case round =>
    obtain ⟨k, hk, rfl⟩ := hrel
    have hq : k = 0 ∨ k = 1 ∨ k = 2 ∨ k = 3 ∨ k = 4 ∨ k = 5 ∨ k = 6 ∨ k = 7 ∨ k = 8 ∨ k = 9 ∨ k = 10 := by omega
    rcases hq with rfl | rfl | rfl | rfl | rfl | rfl | rfl | rfl | rfl | rfl | rfl
    all_goals go_wp2
    all_goals first
      | (go_ret
         exact ⟨by simp, (Below.refl _ _).alloc (Nat.le_refl _) _⟩)
      | (go_round
         case measure => simp [intOf]
         case rel =>
           first
             | exact ⟨1, by omega, rfl⟩
             | exact ⟨2, by omega, rfl⟩
             | exact ⟨3, by omega, rfl⟩
             | exact ⟨4, by omega, rfl⟩
             | exact ⟨5, by omega, rfl⟩
             | exact ⟨6, by omega, rfl⟩
             | exact ⟨7, by omega, rfl⟩
             | exact ⟨8, by omega, rfl⟩
             | exact ⟨9, by omega, rfl⟩
             | exact ⟨10, by omega, rfl⟩)
end Go.Proofs.Ytnignokbenimlaa
