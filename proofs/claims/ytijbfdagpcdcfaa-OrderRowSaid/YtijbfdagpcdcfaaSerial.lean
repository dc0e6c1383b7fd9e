import Derived.Test.YtijbfdagpcdcfaaRows
import Derived.Test.YtijbfdagpcdcfaaPSerial
import Derived.WalkKit
import Derived.ProofKit
import Derived.OpenShut
import Derived.Outline
/-! Contracts of package serial: numbers that go round. -/
namespace Go.Proofs.Ytijbfdagpcdcfaa
open Go.RowKit
set_option linter.unusedVariables false
set_option linter.unusedSimpArgs false

theorem long_any (n : Int) (w : World) :
    Calls Try.prog 9 #[.int .i64 n] w fun e w' => e = .returned (.bool (Pl.long n)) ∧ w = w' := by
  go_enter Try.func9, Try.ntmps9
  go_wp2
  all_goals (go_ret; exact ⟨by simp [Pl.long, *]; try omega, rfl⟩)

theorem seq_any (n : Int) (w : World) :
    Calls Try.prog 15 #[.int .i64 n] w fun e w' => e = .returned (.bool (Pl.seq n)) ∧ w = w' := by
  go_enter Try.func15, Try.ntmps15
  go_wp2
  all_goals (go_ret; exact ⟨by simp [Pl.seq, *]; try omega, rfl⟩)

end Go.Proofs.Ytijbfdagpcdcfaa
