/-
  DERIVED. GIVEN WITH THE SEED: THE CARDS: each row of YtefhbjkhmfmkaaaDoorRows.lean that lists a variable, with what it lists TIED to the program's text (the seventh form; the later family's looks); each row that meets fmt, with fmt's text TOLD by the authors' own Lean function (tested against real Go, not proved from fmt's source: count such statements apart). THE CARD IS WHAT COUNTS. Prove the row's statement (the work); the ties are given (YtefhbjkhmfmkaaaDoorTie.lean); close each card by the builder's one call (the guide's Derived/Test/ToyasCard.lean, 'card_holds'). Laid BY PROGRAM, IN A SANDBOX (cutbox-door.mjs). By AI agents, Wed Nov 11 2026. No macro, syntax, notation, axiom, sorry.
-/
import Derived.Test.YtefhbjkhmfmkaaaDoorRows
import GoSem.ClaimSeven
namespace Go.Proofs.YtefhbjkhmfmkaaaDoor
namespace Rows

/-- THE TIED CARD OF 'choirlaw3.VoicePlays'. -/
def voicePlaysCard : Claim7 := { stood := { row := voicePlaysRow, standIns := [], harness := (true, "3bf19943ed0163574d98ff0d667c185c41bcd215fabaa83a949ec2efe39911e5"), looks := true }, kinds := [], alts := [], laidByText := true, laidKinds := [.handle], laidTests := true, laidLooks := .later }
def VoicePlaysCardSaid : Prop := Claim7.holds Tryd.pinned (.plain (OpenSpec.ofChange voicePlaysSpec)) voicePlaysCard

/-- THE SECOND FORM's CARD OF 'choirlaw3.VoicePlays'. -/
def voicePlaysUptoCard : Claim7 := { stood := { row := voicePlaysUptoRow, standIns := [], harness := (true, "3bf19943ed0163574d98ff0d667c185c41bcd215fabaa83a949ec2efe39911e5"), looks := true }, kinds := [], alts := [], laidByText := true, laidKinds := [.handle], laidTests := true, laidLooks := .later }
def VoicePlaysUptoCardSaid : Prop := Claim7.holds Tryd.pinned (.plain (OpenSpec.upto voicePlaysSpec)) voicePlaysUptoCard
end Rows
end Go.Proofs.YtefhbjkhmfmkaaaDoor
