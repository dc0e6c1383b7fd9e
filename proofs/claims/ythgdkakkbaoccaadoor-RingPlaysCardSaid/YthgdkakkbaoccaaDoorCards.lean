/-
  DERIVED. GIVEN WITH THE SEED: THE CARDS: each row of YthgdkakkbaoccaaDoorRows.lean that lists a variable, with what it lists TIED to the program's text (the seventh form; the later family's looks); each row that meets fmt, with fmt's text TOLD by the authors' own Lean function (tested against real Go, not proved from fmt's source: count such statements apart). THE CARD IS WHAT COUNTS. Prove the row's statement (the work); the ties are given (YthgdkakkbaoccaaDoorTie.lean); close each card by the builder's one call (the guide's Derived/Test/ToyasCard.lean, 'card_holds'). Laid BY PROGRAM, IN A SANDBOX (cutbox-door.mjs). By AI agents, Wed Nov 11 2026. No macro, syntax, notation, axiom, sorry.
-/
import Derived.Test.YthgdkakkbaoccaaDoorRows
import GoSem.ClaimSeven
namespace Go.Proofs.YthgdkakkbaoccaaDoor
namespace Rows

/-- THE TIED CARD OF 'choirlaw2.RingPlays'. -/
def ringPlaysCard : Claim7 := { stood := { row := ringPlaysRow, standIns := [], harness := (true, "e29fcf68a07efe09142b25816cb5b0334b8a975cdb7f3c69e762f5710b0c589b"), looks := true }, kinds := [], alts := [], laidByText := true, laidKinds := [.handle], laidTests := true, laidLooks := .later }
def RingPlaysCardSaid : Prop := Claim7.holds Tryd.pinned (.plain (OpenSpec.ofChange ringPlaysSpec)) ringPlaysCard

/-- THE TIED CARD OF 'choirlaw2.OrderPlays'. -/
def orderPlaysCard : Claim7 := { stood := { row := orderPlaysRow, standIns := [], harness := (true, "e29fcf68a07efe09142b25816cb5b0334b8a975cdb7f3c69e762f5710b0c589b"), looks := true }, kinds := [], alts := [], laidByText := true, laidKinds := [.handle], laidTests := true, laidLooks := .later }
def OrderPlaysCardSaid : Prop := Claim7.holds Tryd.pinned (.plain (OpenSpec.ofChange orderPlaysSpec)) orderPlaysCard

/-- THE TIED CARD OF 'choirlaw2.GapsPlays'. -/
def gapsPlaysCard : Claim7 := { stood := { row := gapsPlaysRow, standIns := [], harness := (true, "e29fcf68a07efe09142b25816cb5b0334b8a975cdb7f3c69e762f5710b0c589b"), looks := true }, kinds := [], alts := [], laidByText := true, laidKinds := [.handle], laidTests := true, laidLooks := .later }
def GapsPlaysCardSaid : Prop := Claim7.holds Tryd.pinned (.plain (OpenSpec.ofChange gapsPlaysSpec)) gapsPlaysCard

/-- THE TIED CARD OF 'choirlaw5.PullEmpties'. -/
def pullEmptiesCard : Claim7 := { stood := { row := pullEmptiesRow, standIns := [], harness := (true, "e29fcf68a07efe09142b25816cb5b0334b8a975cdb7f3c69e762f5710b0c589b"), looks := true }, kinds := [], alts := [], laidByText := true, laidKinds := [.handle], laidTests := true, laidLooks := .later }
def PullEmptiesCardSaid : Prop := Claim7.holds Tryd.pinned (.plain (OpenSpec.ofChange pullEmptiesSpec)) pullEmptiesCard

/-- THE TIED CARD OF 'choirlaw3.PullPlays'. -/
def pullPlaysCard : Claim7 := { stood := { row := pullPlaysRow, standIns := [], harness := (true, "e29fcf68a07efe09142b25816cb5b0334b8a975cdb7f3c69e762f5710b0c589b"), looks := true }, kinds := [], alts := [], laidByText := true, laidKinds := [.handle], laidTests := true, laidLooks := .later }
def PullPlaysCardSaid : Prop := Claim7.holds Tryd.pinned (.plain (OpenSpec.ofChange pullPlaysSpec)) pullPlaysCard

/-- THE SECOND FORM's CARD OF 'choirlaw2.RingPlays'. -/
def ringPlaysUptoCard : Claim7 := { stood := { row := ringPlaysUptoRow, standIns := [], harness := (true, "e29fcf68a07efe09142b25816cb5b0334b8a975cdb7f3c69e762f5710b0c589b"), looks := true }, kinds := [], alts := [], laidByText := true, laidKinds := [.handle], laidTests := true, laidLooks := .later }
def RingPlaysUptoCardSaid : Prop := Claim7.holds Tryd.pinned (.plain (OpenSpec.upto ringPlaysSpec)) ringPlaysUptoCard

/-- THE SECOND FORM's CARD OF 'choirlaw2.OrderPlays'. -/
def orderPlaysUptoCard : Claim7 := { stood := { row := orderPlaysUptoRow, standIns := [], harness := (true, "e29fcf68a07efe09142b25816cb5b0334b8a975cdb7f3c69e762f5710b0c589b"), looks := true }, kinds := [], alts := [], laidByText := true, laidKinds := [.handle], laidTests := true, laidLooks := .later }
def OrderPlaysUptoCardSaid : Prop := Claim7.holds Tryd.pinned (.plain (OpenSpec.upto orderPlaysSpec)) orderPlaysUptoCard

/-- THE SECOND FORM's CARD OF 'choirlaw2.GapsPlays'. -/
def gapsPlaysUptoCard : Claim7 := { stood := { row := gapsPlaysUptoRow, standIns := [], harness := (true, "e29fcf68a07efe09142b25816cb5b0334b8a975cdb7f3c69e762f5710b0c589b"), looks := true }, kinds := [], alts := [], laidByText := true, laidKinds := [.handle], laidTests := true, laidLooks := .later }
def GapsPlaysUptoCardSaid : Prop := Claim7.holds Tryd.pinned (.plain (OpenSpec.upto gapsPlaysSpec)) gapsPlaysUptoCard

/-- THE SECOND FORM's CARD OF 'choirlaw5.PullEmpties'. -/
def pullEmptiesUptoCard : Claim7 := { stood := { row := pullEmptiesUptoRow, standIns := [], harness := (true, "e29fcf68a07efe09142b25816cb5b0334b8a975cdb7f3c69e762f5710b0c589b"), looks := true }, kinds := [], alts := [], laidByText := true, laidKinds := [.handle], laidTests := true, laidLooks := .later }
def PullEmptiesUptoCardSaid : Prop := Claim7.holds Tryd.pinned (.plain (OpenSpec.upto pullEmptiesSpec)) pullEmptiesUptoCard

/-- THE SECOND FORM's CARD OF 'choirlaw3.PullPlays'. -/
def pullPlaysUptoCard : Claim7 := { stood := { row := pullPlaysUptoRow, standIns := [], harness := (true, "e29fcf68a07efe09142b25816cb5b0334b8a975cdb7f3c69e762f5710b0c589b"), looks := true }, kinds := [], alts := [], laidByText := true, laidKinds := [.handle], laidTests := true, laidLooks := .later }
def PullPlaysUptoCardSaid : Prop := Claim7.holds Tryd.pinned (.plain (OpenSpec.upto pullPlaysSpec)) pullPlaysUptoCard
end Rows
end Go.Proofs.YthgdkakkbaoccaaDoor
