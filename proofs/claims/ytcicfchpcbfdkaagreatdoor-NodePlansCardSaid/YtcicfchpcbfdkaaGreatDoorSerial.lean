import Derived.Test.YtcicfchpcbfdkaaGreatDoorRows
import Derived.Test.YtcicfchpcbfdkaaGreatDoorPSerial
import Derived.WalkKit
import Derived.ProofKit
import Derived.OpenShut
import Derived.Outline
/-! Contracts of package serial: numbers that go round. -/
namespace Go.Proofs.YtcicfchpcbfdkaaGreatDoor
open Go.RowKit
set_option linter.unusedVariables false
set_option linter.unusedSimpArgs false

theorem long_any (n : Int) (w : World) :
    Calls Tryz.prog 84 #[.int .i64 n] w fun e w' => e = .returned (.bool (Pl.long n)) ∧ w = w' := by
  go_enter Tryz.func84, Tryz.ntmps84
  go_wp2
  all_goals (go_ret; exact ⟨by simp [Pl.long, *]; try omega, rfl⟩)

theorem seq_any (n : Int) (w : World) :
    Calls Tryz.prog 56 #[.int .i64 n] w fun e w' => e = .returned (.bool (Pl.seq n)) ∧ w = w' := by
  go_enter Tryz.func56, Tryz.ntmps56
  go_wp2
  all_goals (go_ret; exact ⟨by simp [Pl.seq, *]; try omega, rfl⟩)

theorem nearest_any (l s : Int) (h : Pl.long l = true) (h' : Pl.seq s = true) (w : World) :
    Calls Tryz.prog 106 #[.int .i64 l, .int .i64 s] w fun e w' => e = .returned (.int .i64 (Pl.nearest l s)) ∧ w = w' := by
  rw [Pl.long_iff] at h; rw [Pl.seq_iff] at h'
  obtain ⟨h1, h2⟩ := h; obtain ⟨h3, h4⟩ := h'
  go_enter Tryz.func106, Tryz.ntmps106
  go_wp2
  all_goals (go_ret; exact ⟨by simp only [Pl.nearest]; (repeat' split) <;> first | rfl | omega, rfl⟩)

theorem unwrap_ok (l s : Int) (h : Pl.long l = true) (h' : Pl.seq s = true) (w : World) :
    Calls Tryz.prog 80 #[.int .i64 l, .int .i64 s] w fun e w' => e = .returned (.tuple #[.int .i64 (Pl.nearest l s), .nilIface]) ∧ w = w' := by
  go_enter Tryz.func80, Tryz.ntmps80
  go_wp2_with (first
    | (go_at_call 84; refine (long_any _ _).mono ?_; rintro e w' ⟨rfl, rfl⟩)
    | (go_at_call 56; refine (seq_any _ _).mono ?_; rintro e w' ⟨rfl, rfl⟩)
    | (go_at_call 106; refine (nearest_any _ _ h h' _).mono ?_; rintro e w' ⟨rfl, rfl⟩))
  go_ret2
  exact ⟨rfl, rfl⟩

theorem unwrap_bad (l s : Int) (h : (Pl.long l && Pl.seq s) = false) (w : World) :
    Calls Tryz.prog 80 #[.int .i64 l, .int .i64 s] w fun e w' => e = .returned (.tuple #[.int .i64 0, .iface 62 (.int .i64 1)]) ∧ w = w' := by
  go_enter Tryz.func80, Tryz.ntmps80
  cases h1 : Pl.long l <;> cases h2 : Pl.seq s <;> simp [h1, h2] at h
  all_goals
    go_wp2_with (first
      | (go_at_call 84; refine (long_any _ _).mono ?_; rintro e w' ⟨rfl, rfl⟩)
      | (go_at_call 56; refine (seq_any _ _).mono ?_; rintro e w' ⟨rfl, rfl⟩))
    go_ret2
    exact ⟨rfl, rfl⟩
end Go.Proofs.YtcicfchpcbfdkaaGreatDoor
