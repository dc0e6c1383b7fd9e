/-
  DERIVED. GIVEN WITH THE SEED: THE CARDS: each row of YticihmkgdabgiaaDoorRows.lean that lists a variable, with what it lists TIED to the program's text (the seventh form; the later family's looks); each row that meets fmt, with fmt's text TOLD by the authors' own Lean function (tested against real Go, not proved from fmt's source: count such statements apart). THE CARD IS WHAT COUNTS. Prove the row's statement (the work); the ties are given (YticihmkgdabgiaaDoorTie.lean); close each card by the builder's one call (the guide's Derived/Test/ToyasCard.lean, 'card_holds'). Laid BY PROGRAM, IN A SANDBOX (cutbox-door.mjs). By AI agents, Wed Nov 11 2026. No macro, syntax, notation, axiom, sorry.
-/
import Derived.Test.YticihmkgdabgiaaDoorRows
import GoSem.ClaimSeven
namespace Go.Proofs.YticihmkgdabgiaaDoor
namespace Rows

/-- THE TIED CARD OF 'choirlaw1.FrameBack'. -/
def frameBackCard : Claim7 := { stood := { row := frameBackRow, standIns := [], harness := (true, "8c70211f469acb5569f12b78c8361df2871ce39c23ca6f13d4866648e41e8d13"), looks := true }, kinds := [], alts := [], laidByText := true, laidKinds := [.handle], laidTests := true, laidLooks := .later }
def FrameBackCardSaid : Prop := Claim7.holds Tryd.pinned (.plain (OpenSpec.ofChange frameBackSpec)) frameBackCard

/-- THE TIED CARD OF 'choirlaw1.FrameGoes'. -/
def frameGoesCard : Claim7 := { stood := { row := frameGoesRow, standIns := [], harness := (true, "8c70211f469acb5569f12b78c8361df2871ce39c23ca6f13d4866648e41e8d13"), looks := true }, kinds := [], alts := [], laidByText := true, laidKinds := [.handle], laidTests := true, laidLooks := .later }
def FrameGoesCardSaid : Prop := Claim7.holds Tryd.pinned (.plain (OpenSpec.ofChange frameGoesSpec)) frameGoesCard

/-- THE TIED CARD OF 'choirlaw5.PackSizes'. -/
def packSizesCard : Claim7 := { stood := { row := packSizesRow, standIns := [], harness := (true, "8c70211f469acb5569f12b78c8361df2871ce39c23ca6f13d4866648e41e8d13"), looks := true }, kinds := [], alts := [], laidByText := true, laidKinds := [.handle], laidTests := true, laidLooks := .later }
def PackSizesCardSaid : Prop := Claim7.holds Tryd.pinned (.plain (OpenSpec.ofChange packSizesSpec)) packSizesCard

/-- THE TIED CARD OF 'choirlaw1.PackGoes'. -/
def packGoesCard : Claim7 := { stood := { row := packGoesRow, standIns := [], harness := (true, "8c70211f469acb5569f12b78c8361df2871ce39c23ca6f13d4866648e41e8d13"), looks := true }, kinds := [], alts := [], laidByText := true, laidKinds := [.handle], laidTests := true, laidLooks := .later }
def PackGoesCardSaid : Prop := Claim7.holds Tryd.pinned (.plain (OpenSpec.ofChange packGoesSpec)) packGoesCard

/-- THE TIED CARD OF 'choirlaw1.CrcSums'. -/
def crcSumsCard : Claim7 := { stood := { row := crcSumsRow, standIns := [], harness := (true, "8c70211f469acb5569f12b78c8361df2871ce39c23ca6f13d4866648e41e8d13"), looks := true }, kinds := [], alts := [], laidByText := true, laidKinds := [.handle], laidTests := true, laidLooks := .later }
def CrcSumsCardSaid : Prop := Claim7.holds Tryd.pinned (.plain (OpenSpec.ofChange crcSumsSpec)) crcSumsCard

/-- THE TIED CARD OF 'choirlaw1.CrcParts'. -/
def crcPartsCard : Claim7 := { stood := { row := crcPartsRow, standIns := [], harness := (true, "8c70211f469acb5569f12b78c8361df2871ce39c23ca6f13d4866648e41e8d13"), looks := true }, kinds := [], alts := [], laidByText := true, laidKinds := [.handle], laidTests := true, laidLooks := .later }
def CrcPartsCardSaid : Prop := Claim7.holds Tryd.pinned (.plain (OpenSpec.ofChange crcPartsSpec)) crcPartsCard

/-- THE SECOND FORM's CARD OF 'choirlaw1.FrameBack'. -/
def frameBackUptoCard : Claim7 := { stood := { row := frameBackUptoRow, standIns := [], harness := (true, "8c70211f469acb5569f12b78c8361df2871ce39c23ca6f13d4866648e41e8d13"), looks := true }, kinds := [], alts := [], laidByText := true, laidKinds := [.handle], laidTests := true, laidLooks := .later }
def FrameBackUptoCardSaid : Prop := Claim7.holds Tryd.pinned (.plain (OpenSpec.upto frameBackSpec)) frameBackUptoCard

/-- THE SECOND FORM's CARD OF 'choirlaw1.FrameGoes'. -/
def frameGoesUptoCard : Claim7 := { stood := { row := frameGoesUptoRow, standIns := [], harness := (true, "8c70211f469acb5569f12b78c8361df2871ce39c23ca6f13d4866648e41e8d13"), looks := true }, kinds := [], alts := [], laidByText := true, laidKinds := [.handle], laidTests := true, laidLooks := .later }
def FrameGoesUptoCardSaid : Prop := Claim7.holds Tryd.pinned (.plain (OpenSpec.upto frameGoesSpec)) frameGoesUptoCard

/-- THE SECOND FORM's CARD OF 'choirlaw5.PackSizes'. -/
def packSizesUptoCard : Claim7 := { stood := { row := packSizesUptoRow, standIns := [], harness := (true, "8c70211f469acb5569f12b78c8361df2871ce39c23ca6f13d4866648e41e8d13"), looks := true }, kinds := [], alts := [], laidByText := true, laidKinds := [.handle], laidTests := true, laidLooks := .later }
def PackSizesUptoCardSaid : Prop := Claim7.holds Tryd.pinned (.plain (OpenSpec.upto packSizesSpec)) packSizesUptoCard

/-- THE SECOND FORM's CARD OF 'choirlaw1.PackGoes'. -/
def packGoesUptoCard : Claim7 := { stood := { row := packGoesUptoRow, standIns := [], harness := (true, "8c70211f469acb5569f12b78c8361df2871ce39c23ca6f13d4866648e41e8d13"), looks := true }, kinds := [], alts := [], laidByText := true, laidKinds := [.handle], laidTests := true, laidLooks := .later }
def PackGoesUptoCardSaid : Prop := Claim7.holds Tryd.pinned (.plain (OpenSpec.upto packGoesSpec)) packGoesUptoCard

/-- THE SECOND FORM's CARD OF 'choirlaw1.CrcSums'. -/
def crcSumsUptoCard : Claim7 := { stood := { row := crcSumsUptoRow, standIns := [], harness := (true, "8c70211f469acb5569f12b78c8361df2871ce39c23ca6f13d4866648e41e8d13"), looks := true }, kinds := [], alts := [], laidByText := true, laidKinds := [.handle], laidTests := true, laidLooks := .later }
def CrcSumsUptoCardSaid : Prop := Claim7.holds Tryd.pinned (.plain (OpenSpec.upto crcSumsSpec)) crcSumsUptoCard

/-- THE SECOND FORM's CARD OF 'choirlaw1.CrcParts'. -/
def crcPartsUptoCard : Claim7 := { stood := { row := crcPartsUptoRow, standIns := [], harness := (true, "8c70211f469acb5569f12b78c8361df2871ce39c23ca6f13d4866648e41e8d13"), looks := true }, kinds := [], alts := [], laidByText := true, laidKinds := [.handle], laidTests := true, laidLooks := .later }
def CrcPartsUptoCardSaid : Prop := Claim7.holds Tryd.pinned (.plain (OpenSpec.upto crcPartsSpec)) crcPartsUptoCard
end Rows
end Go.Proofs.YticihmkgdabgiaaDoor
