/-
  DERIVED. GIVEN WITH THE SEED: THE CARDS: each row of YtcicfchpcbfdkaaGreatDoorRows.lean that lists a variable, with what it lists TIED to the program's text (the seventh form; the later family's looks); each row that meets fmt, with fmt's text TOLD by the authors' own Lean function (tested against real Go, not proved from fmt's source: count such statements apart). THE CARD IS WHAT COUNTS. Prove the row's statement (the work); the ties are given (YtcicfchpcbfdkaaGreatDoorTie.lean); close each card by the builder's one call (the guide's Derived/Test/ToyasCard.lean, 'card_holds'). Laid BY PROGRAM, IN A SANDBOX (cutbox-door.mjs). By AI agents, Wed Nov 11 2026. No macro, syntax, notation, axiom, sorry.
-/
import Derived.Test.YtcicfchpcbfdkaaGreatDoorRows
import GoSem.ClaimSeven
namespace Go.Proofs.YtcicfchpcbfdkaaGreatDoor
namespace Rows

/-- THE TIED CARD OF 'choirlaw4.NodePlans'. -/
def nodePlansCard : Claim7 := { stood := { row := nodePlansRow, standIns := [], harness := (true, "4b7544d183429248e1fa0bf8e000ecc6092b53e71ae8618ef64cec79b36eaf4d"), looks := true }, kinds := [], alts := [], laidByText := true, laidKinds := [.handle], laidTests := true, laidLooks := .later }
def NodePlansCardSaid : Prop := Claim7.holds Tryz.pinned (.plain (OpenSpec.ofChange nodePlansSpec)) nodePlansCard

/-- THE TIED CARD OF 'choirlaw5.NodeSubs'. -/
def nodeSubsCard : Claim7 := { stood := { row := nodeSubsRow, standIns := [], harness := (true, "4b7544d183429248e1fa0bf8e000ecc6092b53e71ae8618ef64cec79b36eaf4d"), looks := true }, kinds := [], alts := [], laidByText := true, laidKinds := [.handle], laidTests := true, laidLooks := .later }
def NodeSubsCardSaid : Prop := Claim7.holds Tryz.pinned (.plain (OpenSpec.ofChange nodeSubsSpec)) nodeSubsCard

/-- THE TIED CARD OF 'choirlaw4.NodePasses'. -/
def nodePassesCard : Claim7 := { stood := { row := nodePassesRow, standIns := [], harness := (true, "4b7544d183429248e1fa0bf8e000ecc6092b53e71ae8618ef64cec79b36eaf4d"), looks := true }, kinds := [], alts := [], laidByText := true, laidKinds := [.handle], laidTests := true, laidLooks := .later }
def NodePassesCardSaid : Prop := Claim7.holds Tryz.pinned (.plain (OpenSpec.ofChange nodePassesSpec)) nodePassesCard

/-- THE TIED CARD OF 'choirlaw4.NodeHands'. -/
def nodeHandsCard : Claim7 := { stood := { row := nodeHandsRow, standIns := [], harness := (true, "4b7544d183429248e1fa0bf8e000ecc6092b53e71ae8618ef64cec79b36eaf4d"), looks := true }, kinds := [], alts := [], laidByText := true, laidKinds := [.handle], laidTests := true, laidLooks := .later }
def NodeHandsCardSaid : Prop := Claim7.holds Tryz.pinned (.plain (OpenSpec.ofChange nodeHandsSpec)) nodeHandsCard

/-- THE SECOND FORM's CARD OF 'choirlaw4.NodePlans'. -/
def nodePlansUptoCard : Claim7 := { stood := { row := nodePlansUptoRow, standIns := [], harness := (true, "4b7544d183429248e1fa0bf8e000ecc6092b53e71ae8618ef64cec79b36eaf4d"), looks := true }, kinds := [], alts := [], laidByText := true, laidKinds := [.handle], laidTests := true, laidLooks := .later }
def NodePlansUptoCardSaid : Prop := Claim7.holds Tryz.pinned (.plain (OpenSpec.upto nodePlansSpec)) nodePlansUptoCard

/-- THE SECOND FORM's CARD OF 'choirlaw5.NodeSubs'. -/
def nodeSubsUptoCard : Claim7 := { stood := { row := nodeSubsUptoRow, standIns := [], harness := (true, "4b7544d183429248e1fa0bf8e000ecc6092b53e71ae8618ef64cec79b36eaf4d"), looks := true }, kinds := [], alts := [], laidByText := true, laidKinds := [.handle], laidTests := true, laidLooks := .later }
def NodeSubsUptoCardSaid : Prop := Claim7.holds Tryz.pinned (.plain (OpenSpec.upto nodeSubsSpec)) nodeSubsUptoCard

/-- THE SECOND FORM's CARD OF 'choirlaw4.NodePasses'. -/
def nodePassesUptoCard : Claim7 := { stood := { row := nodePassesUptoRow, standIns := [], harness := (true, "4b7544d183429248e1fa0bf8e000ecc6092b53e71ae8618ef64cec79b36eaf4d"), looks := true }, kinds := [], alts := [], laidByText := true, laidKinds := [.handle], laidTests := true, laidLooks := .later }
def NodePassesUptoCardSaid : Prop := Claim7.holds Tryz.pinned (.plain (OpenSpec.upto nodePassesSpec)) nodePassesUptoCard

/-- THE SECOND FORM's CARD OF 'choirlaw4.NodeHands'. -/
def nodeHandsUptoCard : Claim7 := { stood := { row := nodeHandsUptoRow, standIns := [], harness := (true, "4b7544d183429248e1fa0bf8e000ecc6092b53e71ae8618ef64cec79b36eaf4d"), looks := true }, kinds := [], alts := [], laidByText := true, laidKinds := [.handle], laidTests := true, laidLooks := .later }
def NodeHandsUptoCardSaid : Prop := Claim7.holds Tryz.pinned (.plain (OpenSpec.upto nodeHandsSpec)) nodeHandsUptoCard
end Rows
end Go.Proofs.YtcicfchpcbfdkaaGreatDoor
