import Derived.Test.YtbjanihblffmoaaDoorBytes
import Derived.Test.YtbjanihblffmoaaDoorCrc
import Derived.Test.YtbjanihblffmoaaDoorPCrcTwo
/-! crc.Seal. -/
namespace Go.Proofs.YtbjanihblffmoaaDoor
open Go.RowKit
set_option linter.unusedVariables false
set_option linter.unusedSimpArgs false
end Go.Proofs.YtbjanihblffmoaaDoor
