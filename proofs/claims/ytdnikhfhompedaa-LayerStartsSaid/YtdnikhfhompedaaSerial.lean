import Derived.Test.YtdnikhfhompedaaRows
import Derived.Test.YtdnikhfhompedaaPSerial
import Derived.WalkKit
import Derived.ProofKit
import Derived.OpenShut
import Derived.Outline
/-! Contracts of package serial: numbers that go round. -/
namespace Go.Proofs.Ytdnikhfhompedaa
open Go.RowKit
set_option linter.unusedVariables false
set_option linter.unusedSimpArgs false

theorem long_any (n : Int) (w : World) :
    Calls Try.prog 28 #[.int .i64 n] w fun e w' => e = .returned (.bool (Pl.long n)) ∧ w = w' := by
  go_enter Try.func28, Try.ntmps28
  go_wp2
  all_goals (go_ret; exact ⟨by simp [Pl.long, *]; try omega, rfl⟩)

theorem seq_any (n : Int) (w : World) :
    Calls Try.prog 41 #[.int .i64 n] w fun e w' => e = .returned (.bool (Pl.seq n)) ∧ w = w' := by
  go_enter Try.func41, Try.ntmps41
  go_wp2
  all_goals (go_ret; exact ⟨by simp [Pl.seq, *]; try omega, rfl⟩)

end Go.Proofs.Ytdnikhfhompedaa
