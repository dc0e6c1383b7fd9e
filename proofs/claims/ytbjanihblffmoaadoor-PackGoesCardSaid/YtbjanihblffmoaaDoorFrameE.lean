import Derived.Test.YtbjanihblffmoaaDoorFrameC
/-! frame.Encode. -/
namespace Go.Proofs.YtbjanihblffmoaaDoor
open Go.RowKit
set_option linter.unusedVariables false
set_option linter.unusedSimpArgs false
theorem Pl.byte0 (t : Int) (h1 : 0 ≤ t) (h2 : t ≤ 255) : t = ((Pl.byteAt t 0).toNat : Int) := by
  rw [Pl.byteAt_toNat, show (256 : Int) ^ 0 = 1 by decide]; omega
theorem Pl.byte0w (t : Int) (h1 : 0 ≤ t) (h2 : t ≤ 255) : IntKind.u8.wrap t = ((Pl.byteAt t 0).toNat : Int) := Pl.byte_wrap0 t
end Go.Proofs.YtbjanihblffmoaaDoor
