import Derived.Test.YthbcdpckckellaaDoorEqual
import Derived.Test.YthbcdpckckellaaDoorSeal
/-! crc.Open. -/
namespace Go.Proofs.YthbcdpckckellaaDoor
open Go.RowKit
set_option linter.unusedVariables false
set_option linter.unusedSimpArgs false
namespace Pl
def opened (l : List UInt8) : List UInt8 := l.take (l.length - 4)
def openFault (l : List UInt8) : Int := if l.length < 4 then 8 else if sealB (opened l) = l then 0 else 9
theorem open_seal (l : List UInt8) : opened (sealB l) = l := by unfold opened; rw [sealB_length]; exact sealB_take l _ (by omega)
theorem open_seal_ok (l : List UInt8) : openFault (sealB l) = 0 := by
  unfold openFault
  rw [open_seal, if_neg (by rw [sealB_length]; omega), if_pos rfl]
theorem open_told (b y : List UInt8) (i : Nat) (hl : y.length = b.length + 4) (hi : i < b.length + 4) (hne : y ≠ sealB b) (h : ∀ j, j ≠ i → j ≠ i + 1 → y[j]? = (sealB b)[j]?) : openFault y = 9 := by
  have h1 := sealed_told b y i hl hi hne h
  unfold openFault opened
  rw [if_neg (by omega), show y.length - 4 = b.length by omega, if_neg h1]
end Pl
end Go.Proofs.YthbcdpckckellaaDoor
