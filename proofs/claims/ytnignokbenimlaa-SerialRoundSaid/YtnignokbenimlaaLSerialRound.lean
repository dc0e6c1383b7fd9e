import Derived.Test.YtnignokbenimlaaSerial
import Derived.Below
/-! The walk of the law SerialRound. -/
namespace Go.Proofs.Ytnignokbenimlaa
open Go.RowKit
set_option linter.unusedVariables false
set_option linter.unusedSimpArgs false

theorem Pl.nearest_back (last b : Int) (h : Pl.long last = true) (h1 : -32767 ≤ b) (h2 : b ≤ 32767) (h3 : 0 ≤ last + b) :
    Pl.seq ((last + b) % 65536) = true ∧ Pl.nearest last ((last + b) % 65536) = last + b := by
  rw [Pl.long_iff] at h
  refine ⟨by rw [Pl.seq_iff]; omega, ?_⟩
  unfold Pl.nearest
  dsimp only
  split
  · omega
  · split <;> omega

theorem Pl.tmod_mod (a : Int) : a.tmod 65536 % 65536 = a % 65536 ∧ -65535 ≤ a.tmod 65536 ∧ a.tmod 65536 ≤ 65535 := by
  rcases Int.le_total 0 a with h | h
  · rw [Int.tmod_eq_emod_of_nonneg h]; omega
  · have e : a.tmod 65536 = -((-a) % 65536) := by
      have := Int.neg_tmod (-a) 65536
      rw [Int.neg_neg] at this
      rw [this, Int.tmod_eq_emod_of_nonneg (by omega)]
    rw [e]; omega

theorem Pl.ahead_tri (a b : Int) (d : Int) (hd : d = (a.tmod 65536 - b.tmod 65536 + 131072) % 65536) :
    (Pl.ahead a b = true ∧ Pl.ahead b a = false ∧ (d == 0) = false ∧ (d == 32768) = false) ∨ (Pl.ahead a b = false ∧ Pl.ahead b a = true ∧ (d == 0) = false ∧ (d == 32768) = false)
    ∨ (Pl.ahead a b = false ∧ Pl.ahead b a = false ∧ (d == 0) = true) ∨ (Pl.ahead a b = false ∧ Pl.ahead b a = false ∧ (d == 0) = false ∧ (d == 32768) = true) := by
  have e : d = (a - b) % 65536 := by have h1 := Pl.tmod_mod a; have h2 := Pl.tmod_mod b; rw [hd]; omega
  have e2 : (b - a) % 65536 = (65536 - d) % 65536 := by rw [e]; omega
  unfold Pl.ahead
  rw [e2, ← e]
  have h0 : 0 ≤ d := by omega
  have h1 : d < 65536 := by omega
  clear hd e e2
  simp only [decide_eq_true_eq, decide_eq_false_iff_not, beq_iff_eq, beq_eq_false_iff_ne]
  omega

set_option maxHeartbeats 4000000 in
theorem walk_SerialRound (a0 : Int) (w0 : (Lit.int .i64 a0).wf = true) (a1 : Int) (w1 : (Lit.int .i64 a1).wf = true) (a2 : Int) (w2 : (Lit.int .i64 a2).wf = true) (a3 : Int) (w3 : (Lit.int .i64 a3).wf = true) (w : World) :
    Calls Try.prog 5 #[.int .i64 a0, .int .i64 a1, .int .i64 a2, .int .i64 a3] w fun e w' => e = .returned (.bool true) ∧ Below w.heap.size w w' := by
  have f1 : Pl.long 65540 = true := by decide
  have f2 : Pl.seq 65535 = true := by decide
  have f3 : Pl.nearest 65540 65535 = 65535 := by decide
  have f4 : Pl.ahead 1 65535 = true := by decide
  have b2 := (Pl.tmod_mod a2).2
  have b3 := (Pl.tmod_mod a3).2
  have tri := Pl.ahead_tri a2 a3 _ rfl
  by_cases hok : 0 ≤ a0 ∧ a0 ≤ 1099511627776 ∧ -32767 ≤ a1 ∧ a1 ≤ 32767 ∧ 0 ≤ a0 + a1
  · obtain ⟨c1, c2, c3, c4, c5⟩ := hok
    have g1 : Pl.long a0 = true := by rw [Pl.long_iff]; omega
    obtain ⟨g2, g3⟩ := Pl.nearest_back a0 a1 g1 c3 c4 c5
    rcases tri with ⟨t1, t2, t3, t4⟩ | ⟨t1, t2, t3, t4⟩ | ⟨t1, t2, t3⟩ | ⟨t1, t2, t3, t4⟩
    all_goals
      go_enter Try.func5, Try.ntmps5
      go_wp2_with fail
      refine (unwrap_ok _ _ f1 f2 _).mono ?_
      rintro e w' ⟨rfl, rfl⟩
      go_wp2_with (go_at_call 10; refine (ahead_any _ _ _).mono ?_; rintro e w' ⟨rfl, rfl⟩)
      refine (unwrap_ok _ _ g1 g2 _).mono ?_
      rintro e w' ⟨rfl, rfl⟩
      go_wp2_with fail
      go_ret
      exact ⟨by simp, Below.refl _ _⟩
  · rcases tri with ⟨t1, t2, t3, t4⟩ | ⟨t1, t2, t3, t4⟩ | ⟨t1, t2, t3⟩ | ⟨t1, t2, t3, t4⟩
    all_goals
      go_enter Try.func5, Try.ntmps5
      go_wp2_with fail
      refine (unwrap_ok _ _ f1 f2 _).mono ?_
      rintro e w' ⟨rfl, rfl⟩
      go_wp2_with (go_at_call 10; refine (ahead_any _ _ _).mono ?_; rintro e w' ⟨rfl, rfl⟩)
      all_goals first
        | (go_ret; exact ⟨by simp, Below.refl _ _⟩)
        | (exfalso; omega)
        | go_ways
end Go.Proofs.Ytnignokbenimlaa
