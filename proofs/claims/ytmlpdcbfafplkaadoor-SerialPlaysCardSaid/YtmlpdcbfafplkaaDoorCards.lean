/-
  DERIVED. GIVEN WITH THE SEED: THE CARDS: each row of YtmlpdcbfafplkaaDoorRows.lean that lists a variable, with what it lists TIED to the program's text (the seventh form; the later family's looks); each row that meets fmt, with fmt's text TOLD by the authors' own Lean function (tested against real Go, not proved from fmt's source: count such statements apart). THE CARD IS WHAT COUNTS. Prove the row's statement (the work); the ties are given (YtmlpdcbfafplkaaDoorTie.lean); close each card by the builder's one call (the guide's Derived/Test/ToyasCard.lean, 'card_holds'). Laid BY PROGRAM, IN A SANDBOX (cutbox-door.mjs). By AI agents, Wed Nov 11 2026. No macro, syntax, notation, axiom, sorry.
-/
import Derived.Test.YtmlpdcbfafplkaaDoorRows
import GoSem.ClaimSeven
namespace Go.Proofs.YtmlpdcbfafplkaaDoor
namespace Rows

/-- THE TIED CARD OF 'choirlaw1.SerialPlays'. -/
def serialPlaysCard : Claim7 := { stood := { row := serialPlaysRow, standIns := [], harness := (true, "bf04f2e9cab3f17e7b61c82446d0d229ba7c93fa9d0efc7114a949532d0e9067"), looks := true }, kinds := [], alts := [], laidByText := true, laidKinds := [.handle], laidTests := true, laidLooks := .later }
def SerialPlaysCardSaid : Prop := Claim7.holds Tryd.pinned (.plain (OpenSpec.ofChange serialPlaysSpec)) serialPlaysCard

/-- THE TIED CARD OF 'choirlaw2.OutPlays'. -/
def outPlaysCard : Claim7 := { stood := { row := outPlaysRow, standIns := [], harness := (true, "bf04f2e9cab3f17e7b61c82446d0d229ba7c93fa9d0efc7114a949532d0e9067"), looks := true }, kinds := [], alts := [], laidByText := true, laidKinds := [.handle], laidTests := true, laidLooks := .later }
def OutPlaysCardSaid : Prop := Claim7.holds Tryd.pinned (.plain (OpenSpec.ofChange outPlaysSpec)) outPlaysCard

/-- THE SECOND FORM's CARD OF 'choirlaw1.SerialPlays'. -/
def serialPlaysUptoCard : Claim7 := { stood := { row := serialPlaysUptoRow, standIns := [], harness := (true, "bf04f2e9cab3f17e7b61c82446d0d229ba7c93fa9d0efc7114a949532d0e9067"), looks := true }, kinds := [], alts := [], laidByText := true, laidKinds := [.handle], laidTests := true, laidLooks := .later }
def SerialPlaysUptoCardSaid : Prop := Claim7.holds Tryd.pinned (.plain (OpenSpec.upto serialPlaysSpec)) serialPlaysUptoCard

/-- THE SECOND FORM's CARD OF 'choirlaw2.OutPlays'. -/
def outPlaysUptoCard : Claim7 := { stood := { row := outPlaysUptoRow, standIns := [], harness := (true, "bf04f2e9cab3f17e7b61c82446d0d229ba7c93fa9d0efc7114a949532d0e9067"), looks := true }, kinds := [], alts := [], laidByText := true, laidKinds := [.handle], laidTests := true, laidLooks := .later }
def OutPlaysUptoCardSaid : Prop := Claim7.holds Tryd.pinned (.plain (OpenSpec.upto outPlaysSpec)) outPlaysUptoCard
end Rows
end Go.Proofs.YtmlpdcbfafplkaaDoor
