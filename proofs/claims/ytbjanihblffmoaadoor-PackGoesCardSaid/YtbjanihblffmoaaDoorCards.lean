/-
  DERIVED. GIVEN WITH THE SEED: THE CARDS: each row of YtbjanihblffmoaaDoorRows.lean that lists a variable, with what it lists TIED to the program's text (the seventh form; the later family's looks); each row that meets fmt, with fmt's text TOLD by the authors' own Lean function (tested against real Go, not proved from fmt's source: count such statements apart). THE CARD IS WHAT COUNTS. Prove the row's statement (the work); the ties are given (YtbjanihblffmoaaDoorTie.lean); close each card by the builder's one call (the guide's Derived/Test/ToyasCard.lean, 'card_holds'). Laid BY PROGRAM, IN A SANDBOX (cutbox-door.mjs). By AI agents, Wed Nov 11 2026. No macro, syntax, notation, axiom, sorry.
-/
import Derived.Test.YtbjanihblffmoaaDoorRows
import GoSem.ClaimSeven
namespace Go.Proofs.YtbjanihblffmoaaDoor
namespace Rows

/-- THE TIED CARD OF 'choirlaw5.PackSizes'. -/
def packSizesCard : Claim7 := { stood := { row := packSizesRow, standIns := [], harness := (true, "2255c072ac839876b73e42fa2bbc788de20d8720bc96ccfa6604626b64be065f"), looks := true }, kinds := [], alts := [], laidByText := true, laidKinds := [.handle], laidTests := true, laidLooks := .later }
def PackSizesCardSaid : Prop := Claim7.holds Tryd.pinned (.plain (OpenSpec.ofChange packSizesSpec)) packSizesCard

/-- THE TIED CARD OF 'choirlaw1.PackGoes'. -/
def packGoesCard : Claim7 := { stood := { row := packGoesRow, standIns := [], harness := (true, "2255c072ac839876b73e42fa2bbc788de20d8720bc96ccfa6604626b64be065f"), looks := true }, kinds := [], alts := [], laidByText := true, laidKinds := [.handle], laidTests := true, laidLooks := .later }
def PackGoesCardSaid : Prop := Claim7.holds Tryd.pinned (.plain (OpenSpec.ofChange packGoesSpec)) packGoesCard

/-- THE SECOND FORM's CARD OF 'choirlaw5.PackSizes'. -/
def packSizesUptoCard : Claim7 := { stood := { row := packSizesUptoRow, standIns := [], harness := (true, "2255c072ac839876b73e42fa2bbc788de20d8720bc96ccfa6604626b64be065f"), looks := true }, kinds := [], alts := [], laidByText := true, laidKinds := [.handle], laidTests := true, laidLooks := .later }
def PackSizesUptoCardSaid : Prop := Claim7.holds Tryd.pinned (.plain (OpenSpec.upto packSizesSpec)) packSizesUptoCard

/-- THE SECOND FORM's CARD OF 'choirlaw1.PackGoes'. -/
def packGoesUptoCard : Claim7 := { stood := { row := packGoesUptoRow, standIns := [], harness := (true, "2255c072ac839876b73e42fa2bbc788de20d8720bc96ccfa6604626b64be065f"), looks := true }, kinds := [], alts := [], laidByText := true, laidKinds := [.handle], laidTests := true, laidLooks := .later }
def PackGoesUptoCardSaid : Prop := Claim7.holds Tryd.pinned (.plain (OpenSpec.upto packGoesSpec)) packGoesUptoCard
end Rows
end Go.Proofs.YtbjanihblffmoaaDoor
