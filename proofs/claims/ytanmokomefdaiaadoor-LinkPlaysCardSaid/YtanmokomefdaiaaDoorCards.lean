/-
  DERIVED. GIVEN WITH THE SEED: THE CARDS: each row of YtanmokomefdaiaaDoorRows.lean that lists a variable, with what it lists TIED to the program's text (the seventh form; the later family's looks); each row that meets fmt, with fmt's text TOLD by the authors' own Lean function (tested against real Go, not proved from fmt's source: count such statements apart). THE CARD IS WHAT COUNTS. Prove the row's statement (the work); the ties are given (YtanmokomefdaiaaDoorTie.lean); close each card by the builder's one call (the guide's Derived/Test/ToyasCard.lean, 'card_holds'). Laid BY PROGRAM, IN A SANDBOX (cutbox-door.mjs). By AI agents, Wed Nov 11 2026. No macro, syntax, notation, axiom, sorry.
-/
import Derived.Test.YtanmokomefdaiaaDoorRows
import GoSem.ClaimSeven
namespace Go.Proofs.YtanmokomefdaiaaDoor
namespace Rows

/-- THE TIED CARD OF 'choirlaw5.PullEmpties'. -/
def pullEmptiesCard : Claim7 := { stood := { row := pullEmptiesRow, standIns := [], harness := (true, "e5789a2f4f0b7baa878c5832df81ddacdd6f3a498aa1ace82268e1e1ad123ab4"), looks := true }, kinds := [], alts := [], laidByText := true, laidKinds := [.handle], laidTests := true, laidLooks := .later }
def PullEmptiesCardSaid : Prop := Claim7.holds Tryd.pinned (.plain (OpenSpec.ofChange pullEmptiesSpec)) pullEmptiesCard

/-- THE TIED CARD OF 'choirlaw3.PullPlays'. -/
def pullPlaysCard : Claim7 := { stood := { row := pullPlaysRow, standIns := [], harness := (true, "e5789a2f4f0b7baa878c5832df81ddacdd6f3a498aa1ace82268e1e1ad123ab4"), looks := true }, kinds := [], alts := [], laidByText := true, laidKinds := [.handle], laidTests := true, laidLooks := .later }
def PullPlaysCardSaid : Prop := Claim7.holds Tryd.pinned (.plain (OpenSpec.ofChange pullPlaysSpec)) pullPlaysCard

/-- THE TIED CARD OF 'choirlaw3.VoicePlays'. -/
def voicePlaysCard : Claim7 := { stood := { row := voicePlaysRow, standIns := [], harness := (true, "e5789a2f4f0b7baa878c5832df81ddacdd6f3a498aa1ace82268e1e1ad123ab4"), looks := true }, kinds := [], alts := [], laidByText := true, laidKinds := [.handle], laidTests := true, laidLooks := .later }
def VoicePlaysCardSaid : Prop := Claim7.holds Tryd.pinned (.plain (OpenSpec.ofChange voicePlaysSpec)) voicePlaysCard

/-- THE TIED CARD OF 'choirlaw3.LinkPlays'. -/
def linkPlaysCard : Claim7 := { stood := { row := linkPlaysRow, standIns := [], harness := (true, "e5789a2f4f0b7baa878c5832df81ddacdd6f3a498aa1ace82268e1e1ad123ab4"), looks := true }, kinds := [], alts := [], laidByText := true, laidKinds := [.handle], laidTests := true, laidLooks := .later }
def LinkPlaysCardSaid : Prop := Claim7.holds Tryd.pinned (.plain (OpenSpec.ofChange linkPlaysSpec)) linkPlaysCard

/-- THE SECOND FORM's CARD OF 'choirlaw5.PullEmpties'. -/
def pullEmptiesUptoCard : Claim7 := { stood := { row := pullEmptiesUptoRow, standIns := [], harness := (true, "e5789a2f4f0b7baa878c5832df81ddacdd6f3a498aa1ace82268e1e1ad123ab4"), looks := true }, kinds := [], alts := [], laidByText := true, laidKinds := [.handle], laidTests := true, laidLooks := .later }
def PullEmptiesUptoCardSaid : Prop := Claim7.holds Tryd.pinned (.plain (OpenSpec.upto pullEmptiesSpec)) pullEmptiesUptoCard

/-- THE SECOND FORM's CARD OF 'choirlaw3.PullPlays'. -/
def pullPlaysUptoCard : Claim7 := { stood := { row := pullPlaysUptoRow, standIns := [], harness := (true, "e5789a2f4f0b7baa878c5832df81ddacdd6f3a498aa1ace82268e1e1ad123ab4"), looks := true }, kinds := [], alts := [], laidByText := true, laidKinds := [.handle], laidTests := true, laidLooks := .later }
def PullPlaysUptoCardSaid : Prop := Claim7.holds Tryd.pinned (.plain (OpenSpec.upto pullPlaysSpec)) pullPlaysUptoCard

/-- THE SECOND FORM's CARD OF 'choirlaw3.VoicePlays'. -/
def voicePlaysUptoCard : Claim7 := { stood := { row := voicePlaysUptoRow, standIns := [], harness := (true, "e5789a2f4f0b7baa878c5832df81ddacdd6f3a498aa1ace82268e1e1ad123ab4"), looks := true }, kinds := [], alts := [], laidByText := true, laidKinds := [.handle], laidTests := true, laidLooks := .later }
def VoicePlaysUptoCardSaid : Prop := Claim7.holds Tryd.pinned (.plain (OpenSpec.upto voicePlaysSpec)) voicePlaysUptoCard

/-- THE SECOND FORM's CARD OF 'choirlaw3.LinkPlays'. -/
def linkPlaysUptoCard : Claim7 := { stood := { row := linkPlaysUptoRow, standIns := [], harness := (true, "e5789a2f4f0b7baa878c5832df81ddacdd6f3a498aa1ace82268e1e1ad123ab4"), looks := true }, kinds := [], alts := [], laidByText := true, laidKinds := [.handle], laidTests := true, laidLooks := .later }
def LinkPlaysUptoCardSaid : Prop := Claim7.holds Tryd.pinned (.plain (OpenSpec.upto linkPlaysSpec)) linkPlaysUptoCard
end Rows
end Go.Proofs.YtanmokomefdaiaaDoor
