import Derived.Test.YthgdkakkbaoccaaRows
import Derived.Test.YthgdkakkbaoccaaPSerial
import Derived.WalkKit
import Derived.ProofKit
import Derived.OpenShut
import Derived.Outline
/-! Contracts of package serial: numbers that go round. -/
namespace Go.Proofs.Ythgdkakkbaoccaa
open Go.RowKit
set_option linter.unusedVariables false
set_option linter.unusedSimpArgs false

end Go.Proofs.Ythgdkakkbaoccaa
