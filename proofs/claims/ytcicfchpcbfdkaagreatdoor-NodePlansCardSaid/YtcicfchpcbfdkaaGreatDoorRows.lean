/-
  NARROWER THAN 'FOR EVERY INPUT', by the rows' own cells (each row's printed sentence says how): NodePlans: laid · NodeSubs: laid · NodePasses: laid · NodeHands: laid.
  DERIVED. THE GIVEN ROWS OF THIS SEAT. 4 by the template 'for every input the law returns true; each argument reads behind the call as it read before'; 0 by the template 'total and deterministic' (their statements: YtcicfchpcbfdkaaGreatDoorTotals.lean).
  GIVEN WITH THE SEED: the statements are not yours to turn. If you find one false, say at which input.
  Laid BY PROGRAM, IN A SANDBOX (cutbox-rows.mjs): the forced cells as the released guide's own fill.sh prints them over the translation da461341bfa858c2… (all of the seat's roots in one cut). By AI agents, Wed Nov 11 2026. No macro, syntax, notation, axiom, sorry.
-/
import Derived.Test.YtcicfchpcbfdkaaGreatDoorChecked
import GoSem.Claim
import GoSem.ClaimJoined
import GoSem.ClaimMapViews
import Derived.JoinedTies
import Derived.KernelRfl
namespace Go.Proofs.YtcicfchpcbfdkaaGreatDoor
/- THE CELL 'sum', in the pinned program and in every row, IS THE sha256 OF THE DUMP (.gsa) THAT YtcicfchpcbfdkaaGreatDoorProg.lean LOADS. Nothing in Lean hashes anything: it is a label: what it is worth is what the hold of that sum in a sandbox is worth. -/
noncomputable def Tryz.pinned : Pinned := { name := "ytcicfchpcbfdkaagreatdoor", sum := "da461341bfa858c2f51e99b250f3ceebb48010a4eca4df9f4092faaae4deedf1", checked := Tryz.checked }
namespace Rows
def none {H : Type} : Left H := { results := [], args := [] }

/- WHAT THE LISTED PACKAGE-LEVEL VARIABLES READ AS WHEN THE CALL BEGINS. Each datum BY PROGRAM (the guide's laid-datum.mjs) off the statement by which the dump's own 'gosem.cut.vars' lays the variable. In a bare row this is a premise. The card (YtcicfchpcbfdkaaGreatDoorCards.lean) ties it to the program's text. -/
def laid_errors_errorType {H : Type} : DataW H := .iface "internal/reflectlite.rtype" (.agg [.ptr (.lit (.string [101, 114, 114, 111, 114]))])

/-- 'choirlaw4.NodePlans': WHATEVER THE INPUT: true; the input reads as it did. -/
def nodePlansSpec : ChangeSpec := { name := "nodePlans", fn := fun _ => fun
  | [d1, d2, d3, d4, d5, d6] => { results := [.lit (.bool true)], args := [d1, d2, d3, d4, d5, d6] }
  | _ => none }
def nodePlansRow : OpenClaim := { program := "ytcicfchpcbfdkaagreatdoor", sum := "da461341bfa858c2f51e99b250f3ceebb48010a4eca4df9f4092faaae4deedf1", func := "choirloft/choirlaw4.NodePlans", spec := "nodePlans", inPlace := ["internal/reflectlite.ValueOf", "(internal/reflectlite.Value).Type", "(internal/reflectlite.Value).IsNil", "internal/reflectlite.TypeOf", "(internal/reflectlite.Value).Elem", "(internal/reflectlite.Value).Set"], unfollowed := true, recurses := true, named := ["errors.errorType"], apart := false, laid := [("errors.errorType", laid_errors_errorType)] }
def NodePlansSaid : Prop := nodePlansRow.holds Tryz.pinned (OpenSpec.ofChange nodePlansSpec)

/-- ITS FALSE NEIGHBOUR: 'it returns false'. Refute it at one input. -/
def nodePlansWrong : ChangeSpec := { name := "nodePlans", fn := fun _ => fun
  | [d1, d2, d3, d4, d5, d6] => { results := [.lit (.bool false)], args := [d1, d2, d3, d4, d5, d6] }
  | _ => none }
def NodePlansWrongFalsely : Prop := nodePlansRow.holds Tryz.pinned (OpenSpec.ofChange nodePlansWrong)

/-- 'choirlaw5.NodeSubs': WHATEVER THE INPUT: true; the input reads as it did. -/
def nodeSubsSpec : ChangeSpec := { name := "nodeSubs", fn := fun _ => fun
  | [d1, d2] => { results := [.lit (.bool true)], args := [d1, d2] }
  | _ => none }
def nodeSubsRow : OpenClaim := { program := "ytcicfchpcbfdkaagreatdoor", sum := "da461341bfa858c2f51e99b250f3ceebb48010a4eca4df9f4092faaae4deedf1", func := "choirloft/choirlaw5.NodeSubs", spec := "nodeSubs", inPlace := ["internal/reflectlite.ValueOf", "(internal/reflectlite.Value).Type", "(internal/reflectlite.Value).IsNil", "internal/reflectlite.TypeOf", "(internal/reflectlite.Value).Elem", "(internal/reflectlite.Value).Set"], unfollowed := true, recurses := true, named := ["errors.errorType"], apart := false, laid := [("errors.errorType", laid_errors_errorType)] }
def NodeSubsSaid : Prop := nodeSubsRow.holds Tryz.pinned (OpenSpec.ofChange nodeSubsSpec)

/-- ITS FALSE NEIGHBOUR: 'it returns false'. Refute it at one input. -/
def nodeSubsWrong : ChangeSpec := { name := "nodeSubs", fn := fun _ => fun
  | [d1, d2] => { results := [.lit (.bool false)], args := [d1, d2] }
  | _ => none }
def NodeSubsWrongFalsely : Prop := nodeSubsRow.holds Tryz.pinned (OpenSpec.ofChange nodeSubsWrong)

/-- 'choirlaw4.NodePasses': WHATEVER THE INPUT: true; the input reads as it did. -/
def nodePassesSpec : ChangeSpec := { name := "nodePasses", fn := fun _ => fun
  | [d1, d2, d3, d4, d5] => { results := [.lit (.bool true)], args := [d1, d2, d3, d4, d5] }
  | _ => none }
def nodePassesRow : OpenClaim := { program := "ytcicfchpcbfdkaagreatdoor", sum := "da461341bfa858c2f51e99b250f3ceebb48010a4eca4df9f4092faaae4deedf1", func := "choirloft/choirlaw4.NodePasses", spec := "nodePasses", inPlace := ["internal/reflectlite.ValueOf", "(internal/reflectlite.Value).Type", "(internal/reflectlite.Value).IsNil", "internal/reflectlite.TypeOf", "(internal/reflectlite.Value).Elem", "(internal/reflectlite.Value).Set"], unfollowed := true, recurses := true, named := ["errors.errorType"], apart := false, laid := [("errors.errorType", laid_errors_errorType)] }
def NodePassesSaid : Prop := nodePassesRow.holds Tryz.pinned (OpenSpec.ofChange nodePassesSpec)

/-- ITS FALSE NEIGHBOUR: 'it returns false'. Refute it at one input. -/
def nodePassesWrong : ChangeSpec := { name := "nodePasses", fn := fun _ => fun
  | [d1, d2, d3, d4, d5] => { results := [.lit (.bool false)], args := [d1, d2, d3, d4, d5] }
  | _ => none }
def NodePassesWrongFalsely : Prop := nodePassesRow.holds Tryz.pinned (OpenSpec.ofChange nodePassesWrong)

/-- 'choirlaw4.NodeHands': WHATEVER THE INPUT: true; the input reads as it did. -/
def nodeHandsSpec : ChangeSpec := { name := "nodeHands", fn := fun _ => fun
  | [d1, d2] => { results := [.lit (.bool true)], args := [d1, d2] }
  | _ => none }
def nodeHandsRow : OpenClaim := { program := "ytcicfchpcbfdkaagreatdoor", sum := "da461341bfa858c2f51e99b250f3ceebb48010a4eca4df9f4092faaae4deedf1", func := "choirloft/choirlaw4.NodeHands", spec := "nodeHands", inPlace := ["internal/reflectlite.ValueOf", "(internal/reflectlite.Value).Type", "(internal/reflectlite.Value).IsNil", "internal/reflectlite.TypeOf", "(internal/reflectlite.Value).Elem", "(internal/reflectlite.Value).Set"], unfollowed := true, recurses := true, named := ["errors.errorType"], apart := false, laid := [("errors.errorType", laid_errors_errorType)] }
def NodeHandsSaid : Prop := nodeHandsRow.holds Tryz.pinned (OpenSpec.ofChange nodeHandsSpec)

/-- ITS FALSE NEIGHBOUR: 'it returns false'. Refute it at one input. -/
def nodeHandsWrong : ChangeSpec := { name := "nodeHands", fn := fun _ => fun
  | [d1, d2] => { results := [.lit (.bool false)], args := [d1, d2] }
  | _ => none }
def NodeHandsWrongFalsely : Prop := nodeHandsRow.holds Tryz.pinned (OpenSpec.ofChange nodeHandsWrong)

/- THE SECOND FORM. 'bulk': how many values and letters a reading holds, each counted each time it is reached (what is shared counts as often as it is met; a slice's spare places count too). A statement '..UptoSaid' is the law's where the arguments, and the package variables that the reading takes, are together of bulk at most 1048576: NARROWER than '..Said'. Prove '..Said' where nothing that the law and all that it calls make is longer than what came in: it says more and counts as full. Else prove '..UptoSaid'. A law counts once. -/
mutual
def uptoBulk {H : Type} : DataW H → Nat
  | .lit (.string bytes) => bytes.length + 1
  | .lit _ => 1
  | .nil => 1
  | .ptr d => uptoBulk d + 1
  | .slice elems spare => uptoBulkAll elems + uptoBulkAll spare + 1
  | .agg parts => uptoBulkAll parts + 1
  | .iface _ d => uptoBulk d + 1
  | .map entries => uptoBulkEntries entries + 1
  | .held _ => 1
def uptoBulkAll {H : Type} : List (DataW H) → Nat
  | [] => 0
  | d :: r => uptoBulk d + uptoBulkAll r
def uptoBulkEntries {H : Type} : List (Lit × DataW H) → Nat
  | [] => 0
  | x :: r => uptoBulkEntry x + uptoBulkEntries r
def uptoBulkEntry {H : Type} : Lit × DataW H → Nat
  | (.string bytes, d) => bytes.length + uptoBulk d + 1
  | (_, d) => uptoBulk d + 1
 end
def uptoSmall : (H : Type) → List (DataW H) → Bool := fun _ ds => decide (uptoBulkAll ds ≤ 1048576)
def OpenSpec.upto (s : _root_.Go.ChangeSpec) : _root_.Go.OpenSpec := { _root_.Go.OpenSpec.ofChange s with cond := some uptoSmall }

/-- 'choirlaw4.NodePlans', WHERE WHAT IT READS IS OF BULK AT MOST 1048576: true; the input reads as it did. -/
def nodePlansUptoRow : OpenClaim := { program := "ytcicfchpcbfdkaagreatdoor", sum := "da461341bfa858c2f51e99b250f3ceebb48010a4eca4df9f4092faaae4deedf1", func := "choirloft/choirlaw4.NodePlans", spec := "nodePlans", inPlace := ["internal/reflectlite.ValueOf", "(internal/reflectlite.Value).Type", "(internal/reflectlite.Value).IsNil", "internal/reflectlite.TypeOf", "(internal/reflectlite.Value).Elem", "(internal/reflectlite.Value).Set"], unfollowed := true, recurses := true, named := ["errors.errorType"], apart := false, laid := [("errors.errorType", laid_errors_errorType)], narrowed := true }
def NodePlansUptoSaid : Prop := nodePlansUptoRow.holds Tryz.pinned (OpenSpec.upto nodePlansSpec)

/-- 'choirlaw5.NodeSubs', WHERE WHAT IT READS IS OF BULK AT MOST 1048576: true; the input reads as it did. -/
def nodeSubsUptoRow : OpenClaim := { program := "ytcicfchpcbfdkaagreatdoor", sum := "da461341bfa858c2f51e99b250f3ceebb48010a4eca4df9f4092faaae4deedf1", func := "choirloft/choirlaw5.NodeSubs", spec := "nodeSubs", inPlace := ["internal/reflectlite.ValueOf", "(internal/reflectlite.Value).Type", "(internal/reflectlite.Value).IsNil", "internal/reflectlite.TypeOf", "(internal/reflectlite.Value).Elem", "(internal/reflectlite.Value).Set"], unfollowed := true, recurses := true, named := ["errors.errorType"], apart := false, laid := [("errors.errorType", laid_errors_errorType)], narrowed := true }
def NodeSubsUptoSaid : Prop := nodeSubsUptoRow.holds Tryz.pinned (OpenSpec.upto nodeSubsSpec)

/-- 'choirlaw4.NodePasses', WHERE WHAT IT READS IS OF BULK AT MOST 1048576: true; the input reads as it did. -/
def nodePassesUptoRow : OpenClaim := { program := "ytcicfchpcbfdkaagreatdoor", sum := "da461341bfa858c2f51e99b250f3ceebb48010a4eca4df9f4092faaae4deedf1", func := "choirloft/choirlaw4.NodePasses", spec := "nodePasses", inPlace := ["internal/reflectlite.ValueOf", "(internal/reflectlite.Value).Type", "(internal/reflectlite.Value).IsNil", "internal/reflectlite.TypeOf", "(internal/reflectlite.Value).Elem", "(internal/reflectlite.Value).Set"], unfollowed := true, recurses := true, named := ["errors.errorType"], apart := false, laid := [("errors.errorType", laid_errors_errorType)], narrowed := true }
def NodePassesUptoSaid : Prop := nodePassesUptoRow.holds Tryz.pinned (OpenSpec.upto nodePassesSpec)

/-- 'choirlaw4.NodeHands', WHERE WHAT IT READS IS OF BULK AT MOST 1048576: true; the input reads as it did. -/
def nodeHandsUptoRow : OpenClaim := { program := "ytcicfchpcbfdkaagreatdoor", sum := "da461341bfa858c2f51e99b250f3ceebb48010a4eca4df9f4092faaae4deedf1", func := "choirloft/choirlaw4.NodeHands", spec := "nodeHands", inPlace := ["internal/reflectlite.ValueOf", "(internal/reflectlite.Value).Type", "(internal/reflectlite.Value).IsNil", "internal/reflectlite.TypeOf", "(internal/reflectlite.Value).Elem", "(internal/reflectlite.Value).Set"], unfollowed := true, recurses := true, named := ["errors.errorType"], apart := false, laid := [("errors.errorType", laid_errors_errorType)], narrowed := true }
def NodeHandsUptoSaid : Prop := nodeHandsUptoRow.holds Tryz.pinned (OpenSpec.upto nodeHandsSpec)

end Rows
end Go.Proofs.YtcicfchpcbfdkaaGreatDoor
