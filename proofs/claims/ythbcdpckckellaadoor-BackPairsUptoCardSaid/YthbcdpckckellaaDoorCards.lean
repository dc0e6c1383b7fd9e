/-
  DERIVED. GIVEN WITH THE SEED: THE CARDS: each row of YthbcdpckckellaaDoorRows.lean that lists a variable, with what it lists TIED to the program's text (the seventh form; the later family's looks); each row that meets fmt, with fmt's text TOLD by the authors' own Lean function (tested against real Go, not proved from fmt's source: count such statements apart). THE CARD IS WHAT COUNTS. Prove the row's statement (the work); the ties are given (YthbcdpckckellaaDoorTie.lean); close each card by the builder's one call (the guide's Derived/Test/ToyasCard.lean, 'card_holds'). Laid BY PROGRAM, IN A SANDBOX (cutbox-door.mjs). By AI agents, Wed Nov 11 2026. No macro, syntax, notation, axiom, sorry.
-/
import Derived.Test.YthbcdpckckellaaDoorRows
import GoSem.ClaimSeven
namespace Go.Proofs.YthbcdpckckellaaDoor
namespace Rows

/-- THE TIED CARD OF 'choirlaw1.BackPairs'. -/
def backPairsCard : Claim7 := { stood := { row := backPairsRow, standIns := [], harness := (true, "d1ff792d14d24712ca136c22f6fd707795a9a011c701fd5978b0b2d60114f339"), looks := true }, kinds := [], alts := [], laidByText := true, laidKinds := [.handle], laidTests := true, laidLooks := .later }
def BackPairsCardSaid : Prop := Claim7.holds Tryd.pinned (.plain (OpenSpec.ofChange backPairsSpec)) backPairsCard

/-- THE SECOND FORM's CARD OF 'choirlaw1.BackPairs'. -/
def backPairsUptoCard : Claim7 := { stood := { row := backPairsUptoRow, standIns := [], harness := (true, "d1ff792d14d24712ca136c22f6fd707795a9a011c701fd5978b0b2d60114f339"), looks := true }, kinds := [], alts := [], laidByText := true, laidKinds := [.handle], laidTests := true, laidLooks := .later }
def BackPairsUptoCardSaid : Prop := Claim7.holds Tryd.pinned (.plain (OpenSpec.upto backPairsSpec)) backPairsUptoCard
end Rows
end Go.Proofs.YthbcdpckckellaaDoor
