import Derived.Test.YtcicfchpcbfdkaaGreatDoorErrors
import Derived.WalkKit
import Derived.Below
import Derived.Outline
/-! Contracts of plain.Told and choirsame.Error. -/
namespace Go.Proofs.YtcicfchpcbfdkaaGreatDoor
open Go.RowKit
set_option linter.unusedVariables false
set_option linter.unusedSimpArgs false

/-- plain.Told of nil -/
theorem told_nil (w : World) : Calls Tryz.prog 36 #[.nilIface] w fun e w' => e = .returned (.int .i64 0) ∧ w = w' := by
  go_enter Tryz.func36, Tryz.ntmps36
  go_wp2
  go_ret
  exact ⟨rfl, rfl⟩

set_option maxHeartbeats 1000000 in
/-- plain.Told of a number of faults -/
theorem told_hit (k : Int) (w : World) (hg : Env w) : Calls Tryz.prog 36 #[.iface 62 (.int .i64 k)] w fun e w' => e = .returned (.int .i64 k) ∧ Below w.heap.size w w' := by
  have hp := hg.pos
  have hge : w.cell? ⟨0, 0, none⟩ = some (.iface 211 (.agg #[.pointer (some ⟨1, 25, none⟩)])) := hg
  go_enter Tryz.func36, Tryz.ntmps36
  go_wp2_with fail
  refine (as_hit k ⟨w.heap.size, 0, none⟩ (.int .i64 0) _ ?_ ?_ ?_).mono ?_
  · rw [World.cell?_alloc_lt _ _ ⟨0, 0, none⟩ hp]; exact hge
  · simp
  · simp
  · rintro e w' ⟨rfl, rfl⟩
    go_wp2
    go_ret
    refine ⟨rfl, ?_⟩
    repeat (first | exact Below.refl _ _ | (refine Below.setCell ?_ (Nat.le_refl _) _) | (refine Below.alloc ?_ (by simp <;> omega) _))

/-- choirsame.Error of nil -/
theorem error_nil (n : Int) (w : World) : Calls Tryz.prog 10 #[.nilIface, .int .i64 n] w fun e w' => e = .returned (.bool (decide (0 = n))) ∧ w = w' := by
  go_enter Tryz.func10, Tryz.ntmps10
  go_wp2_with (go_at_call 36; refine (told_nil _).mono ?_; rintro e w' ⟨rfl, rfl⟩)
  go_ret
  exact ⟨rfl, rfl⟩

/-- choirsame.Error of a fault -/
theorem error_hit (k n : Int) (w : World) (hg : Env w) : Calls Tryz.prog 10 #[.iface 62 (.int .i64 k), .int .i64 n] w fun e w' => e = .returned (.bool (decide (k = n))) ∧ Below w.heap.size w w' := by
  go_enter Tryz.func10, Tryz.ntmps10
  go_wp2_with (go_at_call 36; refine (told_hit _ _ hg).mono ?_; rintro e w' ⟨rfl, hb⟩)
  go_ret
  exact ⟨rfl, hb⟩
end Go.Proofs.YtcicfchpcbfdkaaGreatDoor
