/-
  DERIVED. GIVEN WITH THE SEED: THE CARDS: each row of YtnbcajciobfljaaDoorRows.lean that lists a variable, with what it lists TIED to the program's text (the seventh form; the later family's looks); each row that meets fmt, with fmt's text TOLD by the authors' own Lean function (tested against real Go, not proved from fmt's source: count such statements apart). THE CARD IS WHAT COUNTS. Prove the row's statement (the work); the ties are given (YtnbcajciobfljaaDoorTie.lean); close each card by the builder's one call (the guide's Derived/Test/ToyasCard.lean, 'card_holds'). Laid BY PROGRAM, IN A SANDBOX (cutbox-door.mjs). By AI agents, Wed Nov 11 2026. No macro, syntax, notation, axiom, sorry.
-/
import Derived.Test.YtnbcajciobfljaaDoorRows
import GoSem.ClaimSeven
namespace Go.Proofs.YtnbcajciobfljaaDoor
namespace Rows

/-- THE TIED CARD OF 'choirlaw2.ViewMerges'. -/
def viewMergesCard : Claim7 := { stood := { row := viewMergesRow, standIns := [], harness := (true, "4f27852840564d8a47914c5cb6ae884816302fa94f80ac68f12d934d4854410b"), looks := true }, kinds := [], alts := [], laidByText := true, laidKinds := [.handle], laidTests := true, laidLooks := .later }
def ViewMergesCardSaid : Prop := Claim7.holds Tryd.pinned (.plain (OpenSpec.ofChange viewMergesSpec)) viewMergesCard

/-- THE SECOND FORM's CARD OF 'choirlaw2.ViewMerges'. -/
def viewMergesUptoCard : Claim7 := { stood := { row := viewMergesUptoRow, standIns := [], harness := (true, "4f27852840564d8a47914c5cb6ae884816302fa94f80ac68f12d934d4854410b"), looks := true }, kinds := [], alts := [], laidByText := true, laidKinds := [.handle], laidTests := true, laidLooks := .later }
def ViewMergesUptoCardSaid : Prop := Claim7.holds Tryd.pinned (.plain (OpenSpec.upto viewMergesSpec)) viewMergesUptoCard
end Rows
end Go.Proofs.YtnbcajciobfljaaDoor
