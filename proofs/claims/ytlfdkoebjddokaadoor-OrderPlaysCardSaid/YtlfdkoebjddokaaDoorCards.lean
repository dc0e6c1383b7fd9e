/-
  DERIVED. GIVEN WITH THE SEED: THE CARDS: each row of YtlfdkoebjddokaaDoorRows.lean that lists a variable, with what it lists TIED to the program's text (the seventh form; the later family's looks); each row that meets fmt, with fmt's text TOLD by the authors' own Lean function (tested against real Go, not proved from fmt's source: count such statements apart). THE CARD IS WHAT COUNTS. Prove the row's statement (the work); the ties are given (YtlfdkoebjddokaaDoorTie.lean); close each card by the builder's one call (the guide's Derived/Test/ToyasCard.lean, 'card_holds'). Laid BY PROGRAM, IN A SANDBOX (cutbox-door.mjs). By AI agents, Wed Nov 11 2026. No macro, syntax, notation, axiom, sorry.
-/
import Derived.Test.YtlfdkoebjddokaaDoorRows
import GoSem.ClaimSeven
namespace Go.Proofs.YtlfdkoebjddokaaDoor
namespace Rows

/-- THE TIED CARD OF 'choirlaw2.OrderPlays'. -/
def orderPlaysCard : Claim7 := { stood := { row := orderPlaysRow, standIns := [], harness := (true, "ca07e88fcfb43ca946f6ab7714b91adeb48233a615cb65a17c292bcf332bcfd4"), looks := true }, kinds := [], alts := [], laidByText := true, laidKinds := [.handle], laidTests := true, laidLooks := .later }
def OrderPlaysCardSaid : Prop := Claim7.holds Tryd.pinned (.plain (OpenSpec.ofChange orderPlaysSpec)) orderPlaysCard

/-- THE TIED CARD OF 'choirlaw2.GapsPlays'. -/
def gapsPlaysCard : Claim7 := { stood := { row := gapsPlaysRow, standIns := [], harness := (true, "ca07e88fcfb43ca946f6ab7714b91adeb48233a615cb65a17c292bcf332bcfd4"), looks := true }, kinds := [], alts := [], laidByText := true, laidKinds := [.handle], laidTests := true, laidLooks := .later }
def GapsPlaysCardSaid : Prop := Claim7.holds Tryd.pinned (.plain (OpenSpec.ofChange gapsPlaysSpec)) gapsPlaysCard

/-- THE SECOND FORM's CARD OF 'choirlaw2.OrderPlays'. -/
def orderPlaysUptoCard : Claim7 := { stood := { row := orderPlaysUptoRow, standIns := [], harness := (true, "ca07e88fcfb43ca946f6ab7714b91adeb48233a615cb65a17c292bcf332bcfd4"), looks := true }, kinds := [], alts := [], laidByText := true, laidKinds := [.handle], laidTests := true, laidLooks := .later }
def OrderPlaysUptoCardSaid : Prop := Claim7.holds Tryd.pinned (.plain (OpenSpec.upto orderPlaysSpec)) orderPlaysUptoCard

/-- THE SECOND FORM's CARD OF 'choirlaw2.GapsPlays'. -/
def gapsPlaysUptoCard : Claim7 := { stood := { row := gapsPlaysUptoRow, standIns := [], harness := (true, "ca07e88fcfb43ca946f6ab7714b91adeb48233a615cb65a17c292bcf332bcfd4"), looks := true }, kinds := [], alts := [], laidByText := true, laidKinds := [.handle], laidTests := true, laidLooks := .later }
def GapsPlaysUptoCardSaid : Prop := Claim7.holds Tryd.pinned (.plain (OpenSpec.upto gapsPlaysSpec)) gapsPlaysUptoCard
end Rows
end Go.Proofs.YtlfdkoebjddokaaDoor
