import Derived.Test.YthbcdpckckellaaDoorBytes
import Derived.Test.YthbcdpckckellaaDoorCrc
import Derived.Test.YthbcdpckckellaaDoorPCrcTwo
/-! crc.Seal. -/
namespace Go.Proofs.YthbcdpckckellaaDoor
open Go.RowKit
set_option linter.unusedVariables false
set_option linter.unusedSimpArgs false
end Go.Proofs.YthbcdpckckellaaDoor
