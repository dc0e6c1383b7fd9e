import Derived.Test.YtbjanihblffmoaaDoorRefRd
/-! The reference's Frame, FrameBytes. -/
namespace Go.Proofs.YtbjanihblffmoaaDoor
open Go.RowKit
set_option linter.unusedVariables false
set_option linter.unusedSimpArgs false
end Go.Proofs.YtbjanihblffmoaaDoor
