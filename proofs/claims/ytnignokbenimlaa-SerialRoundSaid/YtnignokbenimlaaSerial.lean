import Derived.Test.YtnignokbenimlaaRows
import Derived.Test.YtnignokbenimlaaPSerial
import Derived.WalkKit
import Derived.ProofKit
import Derived.OpenShut
import Derived.Outline
/-! Contracts of package serial: numbers that go round. -/
namespace Go.Proofs.Ytnignokbenimlaa
open Go.RowKit
set_option linter.unusedVariables false
set_option linter.unusedSimpArgs false

theorem long_any (n : Int) (w : World) :
    Calls Try.prog 18 #[.int .i64 n] w fun e w' => e = .returned (.bool (Pl.long n)) ∧ w = w' := by
  go_enter Try.func18, Try.ntmps18
  go_wp2
  all_goals (go_ret; exact ⟨by simp [Pl.long, *]; try omega, rfl⟩)

theorem seq_any (n : Int) (w : World) :
    Calls Try.prog 19 #[.int .i64 n] w fun e w' => e = .returned (.bool (Pl.seq n)) ∧ w = w' := by
  go_enter Try.func19, Try.ntmps19
  go_wp2
  all_goals (go_ret; exact ⟨by simp [Pl.seq, *]; try omega, rfl⟩)

theorem ahead_any (a b : Int) (w : World) :
    Calls Try.prog 10 #[.int .i64 a, .int .i64 b] w fun e w' => e = .returned (.bool (Pl.ahead a b)) ∧ w = w' := by
  go_enter Try.func10, Try.ntmps10
  go_wp2
  all_goals (go_ret; exact ⟨by simp only [Pl.ahead_bits] at *; simp [Pl.ahead, *]; try omega, rfl⟩)

theorem nearest_any (l s : Int) (h : Pl.long l = true) (h' : Pl.seq s = true) (w : World) :
    Calls Try.prog 20 #[.int .i64 l, .int .i64 s] w fun e w' => e = .returned (.int .i64 (Pl.nearest l s)) ∧ w = w' := by
  rw [Pl.long_iff] at h; rw [Pl.seq_iff] at h'
  obtain ⟨h1, h2⟩ := h; obtain ⟨h3, h4⟩ := h'
  go_enter Try.func20, Try.ntmps20
  go_wp2
  all_goals (go_ret; exact ⟨by simp only [Pl.nearest]; (repeat' split) <;> first | rfl | omega, rfl⟩)

theorem unwrap_ok (l s : Int) (h : Pl.long l = true) (h' : Pl.seq s = true) (w : World) :
    Calls Try.prog 11 #[.int .i64 l, .int .i64 s] w fun e w' => e = .returned (.tuple #[.int .i64 (Pl.nearest l s), .nilIface]) ∧ w = w' := by
  go_enter Try.func11, Try.ntmps11
  go_wp2_with (first
    | (go_at_call 18; refine (long_any _ _).mono ?_; rintro e w' ⟨rfl, rfl⟩)
    | (go_at_call 19; refine (seq_any _ _).mono ?_; rintro e w' ⟨rfl, rfl⟩)
    | (go_at_call 20; refine (nearest_any _ _ h h' _).mono ?_; rintro e w' ⟨rfl, rfl⟩))
  go_ret2
  exact ⟨rfl, rfl⟩

theorem unwrap_bad (l s : Int) (h : (Pl.long l && Pl.seq s) = false) (w : World) :
    Calls Try.prog 11 #[.int .i64 l, .int .i64 s] w fun e w' => e = .returned (.tuple #[.int .i64 0, .iface 37 (.int .i64 1)]) ∧ w = w' := by
  go_enter Try.func11, Try.ntmps11
  cases h1 : Pl.long l <;> cases h2 : Pl.seq s <;> simp [h1, h2] at h
  all_goals
    go_wp2_with (first
      | (go_at_call 18; refine (long_any _ _).mono ?_; rintro e w' ⟨rfl, rfl⟩)
      | (go_at_call 19; refine (seq_any _ _).mono ?_; rintro e w' ⟨rfl, rfl⟩))
    go_ret2
    exact ⟨rfl, rfl⟩
end Go.Proofs.Ytnignokbenimlaa
