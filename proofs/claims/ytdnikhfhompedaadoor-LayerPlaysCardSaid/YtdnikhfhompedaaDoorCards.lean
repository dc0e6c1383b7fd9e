/-
  DERIVED. GIVEN WITH THE SEED: THE CARDS: each row of YtdnikhfhompedaaDoorRows.lean that lists a variable, with what it lists TIED to the program's text (the seventh form; the later family's looks); each row that meets fmt, with fmt's text TOLD by the authors' own Lean function (tested against real Go, not proved from fmt's source: count such statements apart). THE CARD IS WHAT COUNTS. Prove the row's statement (the work); the ties are given (YtdnikhfhompedaaDoorTie.lean); close each card by the builder's one call (the guide's Derived/Test/ToyasCard.lean, 'card_holds'). Laid BY PROGRAM, IN A SANDBOX (cutbox-door.mjs). By AI agents, Wed Nov 11 2026. No macro, syntax, notation, axiom, sorry.
-/
import Derived.Test.YtdnikhfhompedaaDoorRows
import GoSem.ClaimSeven
namespace Go.Proofs.YtdnikhfhompedaaDoor
namespace Rows

/-- THE TIED CARD OF 'choirlaw5.RingOnce'. -/
def ringOnceCard : Claim7 := { stood := { row := ringOnceRow, standIns := [], harness := (true, "9eaa2b298e2a94c9b70f1e5a194e7932676dded1cce3d37c2f1b431eb0ada77e"), looks := true }, kinds := [], alts := [], laidByText := true, laidKinds := [.handle], laidTests := true, laidLooks := .later }
def RingOnceCardSaid : Prop := Claim7.holds Tryd.pinned (.plain (OpenSpec.ofChange ringOnceSpec)) ringOnceCard

/-- THE TIED CARD OF 'choirlaw2.RingPlays'. -/
def ringPlaysCard : Claim7 := { stood := { row := ringPlaysRow, standIns := [], harness := (true, "9eaa2b298e2a94c9b70f1e5a194e7932676dded1cce3d37c2f1b431eb0ada77e"), looks := true }, kinds := [], alts := [], laidByText := true, laidKinds := [.handle], laidTests := true, laidLooks := .later }
def RingPlaysCardSaid : Prop := Claim7.holds Tryd.pinned (.plain (OpenSpec.ofChange ringPlaysSpec)) ringPlaysCard

/-- THE TIED CARD OF 'choirlaw2.GapsPlays'. -/
def gapsPlaysCard : Claim7 := { stood := { row := gapsPlaysRow, standIns := [], harness := (true, "9eaa2b298e2a94c9b70f1e5a194e7932676dded1cce3d37c2f1b431eb0ada77e"), looks := true }, kinds := [], alts := [], laidByText := true, laidKinds := [.handle], laidTests := true, laidLooks := .later }
def GapsPlaysCardSaid : Prop := Claim7.holds Tryd.pinned (.plain (OpenSpec.ofChange gapsPlaysSpec)) gapsPlaysCard

/-- THE TIED CARD OF 'choirlaw2.OrderPlays'. -/
def orderPlaysCard : Claim7 := { stood := { row := orderPlaysRow, standIns := [], harness := (true, "9eaa2b298e2a94c9b70f1e5a194e7932676dded1cce3d37c2f1b431eb0ada77e"), looks := true }, kinds := [], alts := [], laidByText := true, laidKinds := [.handle], laidTests := true, laidLooks := .later }
def OrderPlaysCardSaid : Prop := Claim7.holds Tryd.pinned (.plain (OpenSpec.ofChange orderPlaysSpec)) orderPlaysCard

/-- THE TIED CARD OF 'choirlaw2.LayerPlays'. -/
def layerPlaysCard : Claim7 := { stood := { row := layerPlaysRow, standIns := [], harness := (true, "9eaa2b298e2a94c9b70f1e5a194e7932676dded1cce3d37c2f1b431eb0ada77e"), looks := true }, kinds := [], alts := [], laidByText := true, laidKinds := [.handle], laidTests := true, laidLooks := .later }
def LayerPlaysCardSaid : Prop := Claim7.holds Tryd.pinned (.plain (OpenSpec.ofChange layerPlaysSpec)) layerPlaysCard

/-- THE SECOND FORM's CARD OF 'choirlaw5.RingOnce'. -/
def ringOnceUptoCard : Claim7 := { stood := { row := ringOnceUptoRow, standIns := [], harness := (true, "9eaa2b298e2a94c9b70f1e5a194e7932676dded1cce3d37c2f1b431eb0ada77e"), looks := true }, kinds := [], alts := [], laidByText := true, laidKinds := [.handle], laidTests := true, laidLooks := .later }
def RingOnceUptoCardSaid : Prop := Claim7.holds Tryd.pinned (.plain (OpenSpec.upto ringOnceSpec)) ringOnceUptoCard

/-- THE SECOND FORM's CARD OF 'choirlaw2.RingPlays'. -/
def ringPlaysUptoCard : Claim7 := { stood := { row := ringPlaysUptoRow, standIns := [], harness := (true, "9eaa2b298e2a94c9b70f1e5a194e7932676dded1cce3d37c2f1b431eb0ada77e"), looks := true }, kinds := [], alts := [], laidByText := true, laidKinds := [.handle], laidTests := true, laidLooks := .later }
def RingPlaysUptoCardSaid : Prop := Claim7.holds Tryd.pinned (.plain (OpenSpec.upto ringPlaysSpec)) ringPlaysUptoCard

/-- THE SECOND FORM's CARD OF 'choirlaw2.GapsPlays'. -/
def gapsPlaysUptoCard : Claim7 := { stood := { row := gapsPlaysUptoRow, standIns := [], harness := (true, "9eaa2b298e2a94c9b70f1e5a194e7932676dded1cce3d37c2f1b431eb0ada77e"), looks := true }, kinds := [], alts := [], laidByText := true, laidKinds := [.handle], laidTests := true, laidLooks := .later }
def GapsPlaysUptoCardSaid : Prop := Claim7.holds Tryd.pinned (.plain (OpenSpec.upto gapsPlaysSpec)) gapsPlaysUptoCard

/-- THE SECOND FORM's CARD OF 'choirlaw2.OrderPlays'. -/
def orderPlaysUptoCard : Claim7 := { stood := { row := orderPlaysUptoRow, standIns := [], harness := (true, "9eaa2b298e2a94c9b70f1e5a194e7932676dded1cce3d37c2f1b431eb0ada77e"), looks := true }, kinds := [], alts := [], laidByText := true, laidKinds := [.handle], laidTests := true, laidLooks := .later }
def OrderPlaysUptoCardSaid : Prop := Claim7.holds Tryd.pinned (.plain (OpenSpec.upto orderPlaysSpec)) orderPlaysUptoCard

/-- THE SECOND FORM's CARD OF 'choirlaw2.LayerPlays'. -/
def layerPlaysUptoCard : Claim7 := { stood := { row := layerPlaysUptoRow, standIns := [], harness := (true, "9eaa2b298e2a94c9b70f1e5a194e7932676dded1cce3d37c2f1b431eb0ada77e"), looks := true }, kinds := [], alts := [], laidByText := true, laidKinds := [.handle], laidTests := true, laidLooks := .later }
def LayerPlaysUptoCardSaid : Prop := Claim7.holds Tryd.pinned (.plain (OpenSpec.upto layerPlaysSpec)) layerPlaysUptoCard
end Rows
end Go.Proofs.YtdnikhfhompedaaDoor
