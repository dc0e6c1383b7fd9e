import Derived.Test.YtlfdkoebjddokaaDoorRows
import Derived.Test.YtlfdkoebjddokaaDoorPSerial
import Derived.WalkKit
import Derived.ProofKit
import Derived.OpenShut
import Derived.Outline
/-! Contracts of package serial: numbers that go round. -/
namespace Go.Proofs.YtlfdkoebjddokaaDoor
open Go.RowKit
set_option linter.unusedVariables false
set_option linter.unusedSimpArgs false

theorem long_any (n : Int) (w : World) :
    Calls Tryd.prog 31 #[.int .i64 n] w fun e w' => e = .returned (.bool (Pl.long n)) ∧ w = w' := by
  go_enter Tryd.func31, Tryd.ntmps31
  go_wp2
  all_goals (go_ret; exact ⟨by simp [Pl.long, *]; try omega, rfl⟩)

theorem seq_any (n : Int) (w : World) :
    Calls Tryd.prog 46 #[.int .i64 n] w fun e w' => e = .returned (.bool (Pl.seq n)) ∧ w = w' := by
  go_enter Tryd.func46, Tryd.ntmps46
  go_wp2
  all_goals (go_ret; exact ⟨by simp [Pl.seq, *]; try omega, rfl⟩)

end Go.Proofs.YtlfdkoebjddokaaDoor
