/-
  DERIVED. GIVEN WITH THE SEED: THE CARDS: each row of YtngpdpgaafknnaaDoorRows.lean that lists a variable, with what it lists TIED to the program's text (the seventh form; the later family's looks); each row that meets fmt, with fmt's text TOLD by the authors' own Lean function (tested against real Go, not proved from fmt's source: count such statements apart). THE CARD IS WHAT COUNTS. Prove the row's statement (the work); the ties are given (YtngpdpgaafknnaaDoorTie.lean); close each card by the builder's one call (the guide's Derived/Test/ToyasCard.lean, 'card_holds'). Laid BY PROGRAM, IN A SANDBOX (cutbox-door.mjs). By AI agents, Wed Nov 11 2026. No macro, syntax, notation, axiom, sorry.
-/
import Derived.Test.YtngpdpgaafknnaaDoorRows
import GoSem.ClaimSeven
namespace Go.Proofs.YtngpdpgaafknnaaDoor
namespace Rows

/-- THE TIED CARD OF 'choirlaw5.RingOnce'. -/
def ringOnceCard : Claim7 := { stood := { row := ringOnceRow, standIns := [], harness := (true, "ccc71d3878ed265fd1646b0841d75bf757dbe2b5104a584972ad8f86fe5821fc"), looks := true }, kinds := [], alts := [], laidByText := true, laidKinds := [.handle], laidTests := true, laidLooks := .later }
def RingOnceCardSaid : Prop := Claim7.holds Tryd.pinned (.plain (OpenSpec.ofChange ringOnceSpec)) ringOnceCard

/-- THE TIED CARD OF 'choirlaw2.RingPlays'. -/
def ringPlaysCard : Claim7 := { stood := { row := ringPlaysRow, standIns := [], harness := (true, "ccc71d3878ed265fd1646b0841d75bf757dbe2b5104a584972ad8f86fe5821fc"), looks := true }, kinds := [], alts := [], laidByText := true, laidKinds := [.handle], laidTests := true, laidLooks := .later }
def RingPlaysCardSaid : Prop := Claim7.holds Tryd.pinned (.plain (OpenSpec.ofChange ringPlaysSpec)) ringPlaysCard

/-- THE SECOND FORM's CARD OF 'choirlaw5.RingOnce'. -/
def ringOnceUptoCard : Claim7 := { stood := { row := ringOnceUptoRow, standIns := [], harness := (true, "ccc71d3878ed265fd1646b0841d75bf757dbe2b5104a584972ad8f86fe5821fc"), looks := true }, kinds := [], alts := [], laidByText := true, laidKinds := [.handle], laidTests := true, laidLooks := .later }
def RingOnceUptoCardSaid : Prop := Claim7.holds Tryd.pinned (.plain (OpenSpec.upto ringOnceSpec)) ringOnceUptoCard

/-- THE SECOND FORM's CARD OF 'choirlaw2.RingPlays'. -/
def ringPlaysUptoCard : Claim7 := { stood := { row := ringPlaysUptoRow, standIns := [], harness := (true, "ccc71d3878ed265fd1646b0841d75bf757dbe2b5104a584972ad8f86fe5821fc"), looks := true }, kinds := [], alts := [], laidByText := true, laidKinds := [.handle], laidTests := true, laidLooks := .later }
def RingPlaysUptoCardSaid : Prop := Claim7.holds Tryd.pinned (.plain (OpenSpec.upto ringPlaysSpec)) ringPlaysUptoCard
end Rows
end Go.Proofs.YtngpdpgaafknnaaDoor
