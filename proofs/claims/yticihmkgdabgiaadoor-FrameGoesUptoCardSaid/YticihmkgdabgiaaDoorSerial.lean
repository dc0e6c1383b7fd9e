import Derived.Test.YticihmkgdabgiaaDoorRows
import Derived.Test.YticihmkgdabgiaaDoorPSerial
import Derived.WalkKit
import Derived.ProofKit
import Derived.OpenShut
import Derived.Outline
/-! Contracts of package serial: numbers that go round. -/
namespace Go.Proofs.YticihmkgdabgiaaDoor
open Go.RowKit
set_option linter.unusedVariables false
set_option linter.unusedSimpArgs false

theorem seq_any (n : Int) (w : World) :
    Calls Tryd.prog 44 #[.int .i64 n] w fun e w' => e = .returned (.bool (Pl.seq n)) ∧ w = w' := by
  go_enter Tryd.func44, Tryd.ntmps44
  go_wp2
  all_goals (go_ret; exact ⟨by simp [Pl.seq, *]; try omega, rfl⟩)

end Go.Proofs.YticihmkgdabgiaaDoor
