import Derived.Test.YtnignokbenimlaaSerial
/-! The walk of the law SerialNearer. -/
namespace Go.Proofs.Ytnignokbenimlaa
open Go.RowKit
set_option linter.unusedVariables false
set_option linter.unusedSimpArgs false

theorem walk_SerialNearer (a0 : Int) (w0 : (Lit.int .i64 a0).wf = true) (a1 : Int) (w1 : (Lit.int .i64 a1).wf = true) (w : World) :
    Calls Try.prog 4 #[.int .i64 a0, .int .i64 a1] w fun e w' => e = .returned (.bool true) ∧ Below w.heap.size w w' := by
  have f0 : Pl.ahead 5 4 = true := by decide
  cases h1 : (Pl.long a0 && Pl.seq a1)
  · have hb : (a0 < 0 ∨ 1099511627776 < a0) ∨ (a1 < 0 ∨ 65535 < a1) := by
      rw [Bool.and_eq_false_iff, Pl.long_not, Pl.seq_not] at h1; omega
    go_enter Try.func4, Try.ntmps4
    go_wp2_with (first
      | (go_at_call 10; refine (ahead_any _ _ _).mono ?_; rintro e w' ⟨rfl, rfl⟩)
      | (go_at_call 11; refine (unwrap_bad _ _ h1 _).mono ?_; rintro e w' ⟨rfl, rfl⟩))
    all_goals (go_ret; exact ⟨by simp; try omega, Below.refl _ _⟩)
  · rw [Bool.and_eq_true] at h1
    obtain ⟨h1, h2⟩ := h1
    obtain ⟨n1, n2, n3, n4⟩ := Pl.nearest_range a0 a1 h1 h2
    have b1 := (Pl.long_iff a0).1 h1
    have b2 := (Pl.seq_iff a1).1 h2
    have hs : a0 < 65536 ∨ 65536 ≤ a0 := by omega
    rcases hs with hs | hs
    · go_enter Try.func4, Try.ntmps4
      go_wp2_with (first
        | (go_at_call 10; refine (ahead_any _ _ _).mono ?_; rintro e w' ⟨rfl, rfl⟩)
        | (go_at_call 11; refine (unwrap_ok _ _ h1 h2 _).mono ?_; rintro e w' ⟨rfl, rfl⟩))
      all_goals (go_ret; exact ⟨by simp, Below.refl _ _⟩)
    · have hh := Pl.nearest_ahead a0 a1 h1 h2 hs
      have hd : a0 < Pl.nearest a0 a1 ∨ Pl.nearest a0 a1 ≤ a0 := by omega
      rcases hd with hd | hd
      all_goals
        go_enter Try.func4, Try.ntmps4
        go_wp2_with (first
          | (go_at_call 10; refine (ahead_any _ _ _).mono ?_; rintro e w' ⟨rfl, rfl⟩)
          | (go_at_call 11; refine (unwrap_ok _ _ h1 h2 _).mono ?_; rintro e w' ⟨rfl, rfl⟩))
        all_goals (go_ret; exact ⟨by simp, Below.refl _ _⟩)
end Go.Proofs.Ytnignokbenimlaa
