/-
  DERIVED. GIVEN WITH THE SEED: THE CARDS: each row of YtggfhcidmnageaaDoorRows.lean that lists a variable, with what it lists TIED to the program's text (the seventh form; the later family's looks); each row that meets fmt, with fmt's text TOLD by the authors' own Lean function (tested against real Go, not proved from fmt's source: count such statements apart). THE CARD IS WHAT COUNTS. Prove the row's statement (the work); the ties are given (YtggfhcidmnageaaDoorTie.lean); close each card by the builder's one call (the guide's Derived/Test/ToyasCard.lean, 'card_holds'). Laid BY PROGRAM, IN A SANDBOX (cutbox-door.mjs). By AI agents, Wed Nov 11 2026. No macro, syntax, notation, axiom, sorry.
-/
import Derived.Test.YtggfhcidmnageaaDoorRows
import GoSem.ClaimSeven
namespace Go.Proofs.YtggfhcidmnageaaDoor
namespace Rows

/-- THE TIED CARD OF 'choirlaw3.AuditBack'. -/
def auditBackCard : Claim7 := { stood := { row := auditBackRow, standIns := [], harness := (true, "0b7b6a1333be2d36d9d6967e03229ce8f656c83cfb9b9ce6df1e63726f284344"), looks := true }, kinds := [], alts := [], laidByText := true, laidKinds := [.handle], laidTests := true, laidLooks := .later }
def AuditBackCardSaid : Prop := Claim7.holds Tryd.pinned (.plain (OpenSpec.ofChange auditBackSpec)) auditBackCard

/-- THE TIED CARD OF 'choirlaw3.AuditTells'. -/
def auditTellsCard : Claim7 := { stood := { row := auditTellsRow, standIns := [], harness := (true, "0b7b6a1333be2d36d9d6967e03229ce8f656c83cfb9b9ce6df1e63726f284344"), looks := true }, kinds := [], alts := [], laidByText := true, laidKinds := [.handle], laidTests := true, laidLooks := .later }
def AuditTellsCardSaid : Prop := Claim7.holds Tryd.pinned (.plain (OpenSpec.ofChange auditTellsSpec)) auditTellsCard

/-- THE TIED CARD OF 'choirlaw5.AuditRows'. -/
def auditRowsCard : Claim7 := { stood := { row := auditRowsRow, standIns := [], harness := (true, "0b7b6a1333be2d36d9d6967e03229ce8f656c83cfb9b9ce6df1e63726f284344"), looks := true }, kinds := [], alts := [], laidByText := true, laidKinds := [.handle], laidTests := true, laidLooks := .later }
def AuditRowsCardSaid : Prop := Claim7.holds Tryd.pinned (.plain (OpenSpec.ofChange auditRowsSpec)) auditRowsCard

/-- THE SECOND FORM's CARD OF 'choirlaw3.AuditBack'. -/
def auditBackUptoCard : Claim7 := { stood := { row := auditBackUptoRow, standIns := [], harness := (true, "0b7b6a1333be2d36d9d6967e03229ce8f656c83cfb9b9ce6df1e63726f284344"), looks := true }, kinds := [], alts := [], laidByText := true, laidKinds := [.handle], laidTests := true, laidLooks := .later }
def AuditBackUptoCardSaid : Prop := Claim7.holds Tryd.pinned (.plain (OpenSpec.upto auditBackSpec)) auditBackUptoCard

/-- THE SECOND FORM's CARD OF 'choirlaw3.AuditTells'. -/
def auditTellsUptoCard : Claim7 := { stood := { row := auditTellsUptoRow, standIns := [], harness := (true, "0b7b6a1333be2d36d9d6967e03229ce8f656c83cfb9b9ce6df1e63726f284344"), looks := true }, kinds := [], alts := [], laidByText := true, laidKinds := [.handle], laidTests := true, laidLooks := .later }
def AuditTellsUptoCardSaid : Prop := Claim7.holds Tryd.pinned (.plain (OpenSpec.upto auditTellsSpec)) auditTellsUptoCard

/-- THE SECOND FORM's CARD OF 'choirlaw5.AuditRows'. -/
def auditRowsUptoCard : Claim7 := { stood := { row := auditRowsUptoRow, standIns := [], harness := (true, "0b7b6a1333be2d36d9d6967e03229ce8f656c83cfb9b9ce6df1e63726f284344"), looks := true }, kinds := [], alts := [], laidByText := true, laidKinds := [.handle], laidTests := true, laidLooks := .later }
def AuditRowsUptoCardSaid : Prop := Claim7.holds Tryd.pinned (.plain (OpenSpec.upto auditRowsSpec)) auditRowsUptoCard
end Rows
end Go.Proofs.YtggfhcidmnageaaDoor
