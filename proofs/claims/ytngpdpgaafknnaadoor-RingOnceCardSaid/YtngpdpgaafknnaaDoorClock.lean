import Derived.Test.YtngpdpgaafknnaaDoorWorld
import Derived.Test.YtngpdpgaafknnaaDoorRows
import Derived.WalkKit
import Derived.ProofKit
import Derived.RegionTactic
import Derived.ChangeAlike
/-! Contracts of the clock of package gaps. -/
namespace Go.Proofs.YtngpdpgaafknnaaDoor
open Go.RowKit
set_option linter.unusedVariables false
set_option linter.unusedSimpArgs false

theorem abs_at {P : Program} {c : Code} {Q : Exit → Act → World → Prop} {a : Act} {W : World} (S : World → Prop) (h : S W) (k : ∀ wq, S wq → c.wp P Q a wq) : c.wp P Q a W := k W h
/-- a time may be, and does not go back -/
def Pl.clockOk (cur now : Int) : Prop := 0 ≤ now ∧ now ≤ 1000000 ∧ cur ≤ now
def Pl.clockFault (now : Int) : Int := if now < 0 ∨ 1000000 < now then 1 else 6

end Go.Proofs.YtngpdpgaafknnaaDoor
