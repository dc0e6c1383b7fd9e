/-
  DERIVED. GIVEN WITH THE SEED: THE CARDS: each row of YtnignokbenimlaaDoorRows.lean that lists a variable, with what it lists TIED to the program's text (the seventh form; the later family's looks); each row that meets fmt, with fmt's text TOLD by the authors' own Lean function (tested against real Go, not proved from fmt's source: count such statements apart). THE CARD IS WHAT COUNTS. Prove the row's statement (the work); the ties are given (YtnignokbenimlaaDoorTie.lean); close each card by the builder's one call (the guide's Derived/Test/ToyasCard.lean, 'card_holds'). Laid BY PROGRAM, IN A SANDBOX (cutbox-door.mjs). By AI agents, Wed Nov 11 2026. No macro, syntax, notation, axiom, sorry.
-/
import Derived.Test.YtnignokbenimlaaDoorRows
import GoSem.ClaimSeven
namespace Go.Proofs.YtnignokbenimlaaDoor
namespace Rows

/-- THE TIED CARD OF 'choirlaw1.SerialGoes'. -/
def serialGoesCard : Claim7 := { stood := { row := serialGoesRow, standIns := [], harness := (true, "2541d0e24579351eafb1ea4033b63d2430ea2330b3bb76c49667f90dbc50d20c"), looks := true }, kinds := [], alts := [], laidByText := true, laidKinds := [.handle], laidTests := true, laidLooks := .later }
def SerialGoesCardSaid : Prop := Claim7.holds Tryd.pinned (.plain (OpenSpec.ofChange serialGoesSpec)) serialGoesCard

/-- THE TIED CARD OF 'choirlaw1.SerialPlays'. -/
def serialPlaysCard : Claim7 := { stood := { row := serialPlaysRow, standIns := [], harness := (true, "2541d0e24579351eafb1ea4033b63d2430ea2330b3bb76c49667f90dbc50d20c"), looks := true }, kinds := [], alts := [], laidByText := true, laidKinds := [.handle], laidTests := true, laidLooks := .later }
def SerialPlaysCardSaid : Prop := Claim7.holds Tryd.pinned (.plain (OpenSpec.ofChange serialPlaysSpec)) serialPlaysCard

/-- THE TIED CARD OF 'choirlaw1.CrcSums'. -/
def crcSumsCard : Claim7 := { stood := { row := crcSumsRow, standIns := [], harness := (true, "2541d0e24579351eafb1ea4033b63d2430ea2330b3bb76c49667f90dbc50d20c"), looks := true }, kinds := [], alts := [], laidByText := true, laidKinds := [.handle], laidTests := true, laidLooks := .later }
def CrcSumsCardSaid : Prop := Claim7.holds Tryd.pinned (.plain (OpenSpec.ofChange crcSumsSpec)) crcSumsCard

/-- THE TIED CARD OF 'choirlaw1.CrcParts'. -/
def crcPartsCard : Claim7 := { stood := { row := crcPartsRow, standIns := [], harness := (true, "2541d0e24579351eafb1ea4033b63d2430ea2330b3bb76c49667f90dbc50d20c"), looks := true }, kinds := [], alts := [], laidByText := true, laidKinds := [.handle], laidTests := true, laidLooks := .later }
def CrcPartsCardSaid : Prop := Claim7.holds Tryd.pinned (.plain (OpenSpec.ofChange crcPartsSpec)) crcPartsCard

/-- THE TIED CARD OF 'choirlaw3.RateShares'. -/
def rateSharesCard : Claim7 := { stood := { row := rateSharesRow, standIns := [], harness := (true, "2541d0e24579351eafb1ea4033b63d2430ea2330b3bb76c49667f90dbc50d20c"), looks := true }, kinds := [], alts := [], laidByText := true, laidKinds := [.handle], laidTests := true, laidLooks := .later }
def RateSharesCardSaid : Prop := Claim7.holds Tryd.pinned (.plain (OpenSpec.ofChange rateSharesSpec)) rateSharesCard

/-- THE SECOND FORM's CARD OF 'choirlaw1.SerialGoes'. -/
def serialGoesUptoCard : Claim7 := { stood := { row := serialGoesUptoRow, standIns := [], harness := (true, "2541d0e24579351eafb1ea4033b63d2430ea2330b3bb76c49667f90dbc50d20c"), looks := true }, kinds := [], alts := [], laidByText := true, laidKinds := [.handle], laidTests := true, laidLooks := .later }
def SerialGoesUptoCardSaid : Prop := Claim7.holds Tryd.pinned (.plain (OpenSpec.upto serialGoesSpec)) serialGoesUptoCard

/-- THE SECOND FORM's CARD OF 'choirlaw1.SerialPlays'. -/
def serialPlaysUptoCard : Claim7 := { stood := { row := serialPlaysUptoRow, standIns := [], harness := (true, "2541d0e24579351eafb1ea4033b63d2430ea2330b3bb76c49667f90dbc50d20c"), looks := true }, kinds := [], alts := [], laidByText := true, laidKinds := [.handle], laidTests := true, laidLooks := .later }
def SerialPlaysUptoCardSaid : Prop := Claim7.holds Tryd.pinned (.plain (OpenSpec.upto serialPlaysSpec)) serialPlaysUptoCard

/-- THE SECOND FORM's CARD OF 'choirlaw1.CrcSums'. -/
def crcSumsUptoCard : Claim7 := { stood := { row := crcSumsUptoRow, standIns := [], harness := (true, "2541d0e24579351eafb1ea4033b63d2430ea2330b3bb76c49667f90dbc50d20c"), looks := true }, kinds := [], alts := [], laidByText := true, laidKinds := [.handle], laidTests := true, laidLooks := .later }
def CrcSumsUptoCardSaid : Prop := Claim7.holds Tryd.pinned (.plain (OpenSpec.upto crcSumsSpec)) crcSumsUptoCard

/-- THE SECOND FORM's CARD OF 'choirlaw1.CrcParts'. -/
def crcPartsUptoCard : Claim7 := { stood := { row := crcPartsUptoRow, standIns := [], harness := (true, "2541d0e24579351eafb1ea4033b63d2430ea2330b3bb76c49667f90dbc50d20c"), looks := true }, kinds := [], alts := [], laidByText := true, laidKinds := [.handle], laidTests := true, laidLooks := .later }
def CrcPartsUptoCardSaid : Prop := Claim7.holds Tryd.pinned (.plain (OpenSpec.upto crcPartsSpec)) crcPartsUptoCard

/-- THE SECOND FORM's CARD OF 'choirlaw3.RateShares'. -/
def rateSharesUptoCard : Claim7 := { stood := { row := rateSharesUptoRow, standIns := [], harness := (true, "2541d0e24579351eafb1ea4033b63d2430ea2330b3bb76c49667f90dbc50d20c"), looks := true }, kinds := [], alts := [], laidByText := true, laidKinds := [.handle], laidTests := true, laidLooks := .later }
def RateSharesUptoCardSaid : Prop := Claim7.holds Tryd.pinned (.plain (OpenSpec.upto rateSharesSpec)) rateSharesUptoCard
end Rows
end Go.Proofs.YtnignokbenimlaaDoor
