/-
  No cell of these rows narrows 'for every input' (looked for: loops, veiled, ifaces, maps, wideKeys, modest, calm, conditions, laid).
  DERIVED. THE GIVEN ROWS OF THIS SEAT. 6 by the template 'for every input the law returns true; each argument reads behind the call as it read before'; 0 by the template 'total and deterministic' (their statements: YtnignokbenimlaaTotals.lean).
  GIVEN WITH THE SEED: the statements are not yours to turn. If you find one false, say at which input.
  Laid BY PROGRAM, IN A SANDBOX (cutbox-rows.mjs): the forced cells as the released guide's own fill.sh prints them over the translation e36fb4cb240b8d42… (all of the seat's roots in one cut). By AI agents, Wed Nov 11 2026. No macro, syntax, notation, axiom, sorry.
-/
import Derived.Test.YtnignokbenimlaaChecked
import GoSem.Claim
import GoSem.ClaimJoined
import GoSem.ClaimMapViews
import Derived.JoinedTies
import Derived.KernelRfl
namespace Go.Proofs.Ytnignokbenimlaa
/- THE CELL 'sum', in the pinned program and in every row, IS THE sha256 OF THE DUMP (.gsa) THAT YtnignokbenimlaaProg.lean LOADS. Nothing in Lean hashes anything: it is a label: what it is worth is what the hold of that sum in a sandbox is worth. -/
noncomputable def Try.pinned : Pinned := { name := "ytnignokbenimlaa", sum := "e36fb4cb240b8d424fa5c60f86b6f7f184d230e9d41f32226ccb71f510ecf10b", checked := Try.checked }
namespace Rows
def none {H : Type} : Left H := { results := [], args := [] }

/-- 'choirlaw5.CrcLinear': WHATEVER THE INPUT: true; the input reads as it did. -/
def crcLinearSpec : ChangeSpec := { name := "crcLinear", fn := fun _ => fun
  | [d1, d2] => { results := [.lit (.bool true)], args := [d1, d2] }
  | _ => none }
def crcLinearRow : OpenClaim := { program := "ytnignokbenimlaa", sum := "e36fb4cb240b8d424fa5c60f86b6f7f184d230e9d41f32226ccb71f510ecf10b", func := "choirloft/choirlaw5.CrcLinear", spec := "crcLinear", apart := false }
def CrcLinearSaid : Prop := crcLinearRow.holds Try.pinned (OpenSpec.ofChange crcLinearSpec)

/-- ITS FALSE NEIGHBOUR: 'it returns false'. Refute it at one input. -/
def crcLinearWrong : ChangeSpec := { name := "crcLinear", fn := fun _ => fun
  | [d1, d2] => { results := [.lit (.bool false)], args := [d1, d2] }
  | _ => none }
def CrcLinearWrongFalsely : Prop := crcLinearRow.holds Try.pinned (OpenSpec.ofChange crcLinearWrong)

/-- 'choirlaw5.SerialNearer': WHATEVER THE INPUT: true; the input reads as it did. -/
def serialNearerSpec : ChangeSpec := { name := "serialNearer", fn := fun _ => fun
  | [d1, d2] => { results := [.lit (.bool true)], args := [d1, d2] }
  | _ => none }
def serialNearerRow : OpenClaim := { program := "ytnignokbenimlaa", sum := "e36fb4cb240b8d424fa5c60f86b6f7f184d230e9d41f32226ccb71f510ecf10b", func := "choirloft/choirlaw5.SerialNearer", spec := "serialNearer", apart := false }
def SerialNearerSaid : Prop := serialNearerRow.holds Try.pinned (OpenSpec.ofChange serialNearerSpec)

/-- ITS FALSE NEIGHBOUR: 'it returns false'. Refute it at one input. -/
def serialNearerWrong : ChangeSpec := { name := "serialNearer", fn := fun _ => fun
  | [d1, d2] => { results := [.lit (.bool false)], args := [d1, d2] }
  | _ => none }
def SerialNearerWrongFalsely : Prop := serialNearerRow.holds Try.pinned (OpenSpec.ofChange serialNearerWrong)

/-- 'choirlaw1.SerialRound': WHATEVER THE INPUT: true; the input reads as it did. -/
def serialRoundSpec : ChangeSpec := { name := "serialRound", fn := fun _ => fun
  | [d1, d2, d3, d4] => { results := [.lit (.bool true)], args := [d1, d2, d3, d4] }
  | _ => none }
def serialRoundRow : OpenClaim := { program := "ytnignokbenimlaa", sum := "e36fb4cb240b8d424fa5c60f86b6f7f184d230e9d41f32226ccb71f510ecf10b", func := "choirloft/choirlaw1.SerialRound", spec := "serialRound", apart := false }
def SerialRoundSaid : Prop := serialRoundRow.holds Try.pinned (OpenSpec.ofChange serialRoundSpec)

/-- ITS FALSE NEIGHBOUR: 'it returns false'. Refute it at one input. -/
def serialRoundWrong : ChangeSpec := { name := "serialRound", fn := fun _ => fun
  | [d1, d2, d3, d4] => { results := [.lit (.bool false)], args := [d1, d2, d3, d4] }
  | _ => none }
def SerialRoundWrongFalsely : Prop := serialRoundRow.holds Try.pinned (OpenSpec.ofChange serialRoundWrong)

/-- 'choirlaw5.RateSettles': WHATEVER THE INPUT: true; the input reads as it did. -/
def rateSettlesSpec : ChangeSpec := { name := "rateSettles", fn := fun _ => fun
  | [d1, d2, d3] => { results := [.lit (.bool true)], args := [d1, d2, d3] }
  | _ => none }
def rateSettlesRow : OpenClaim := { program := "ytnignokbenimlaa", sum := "e36fb4cb240b8d424fa5c60f86b6f7f184d230e9d41f32226ccb71f510ecf10b", func := "choirloft/choirlaw5.RateSettles", spec := "rateSettles", apart := false }
def RateSettlesSaid : Prop := rateSettlesRow.holds Try.pinned (OpenSpec.ofChange rateSettlesSpec)

/-- ITS FALSE NEIGHBOUR: 'it returns false'. Refute it at one input. -/
def rateSettlesWrong : ChangeSpec := { name := "rateSettles", fn := fun _ => fun
  | [d1, d2, d3] => { results := [.lit (.bool false)], args := [d1, d2, d3] }
  | _ => none }
def RateSettlesWrongFalsely : Prop := rateSettlesRow.holds Try.pinned (OpenSpec.ofChange rateSettlesWrong)

/-- 'choirlaw1.Names': WHATEVER THE INPUT: true; the input reads as it did. -/
def namesSpec : ChangeSpec := { name := "names", fn := fun _ => fun
  | [] => { results := [.lit (.bool true)], args := [] }
  | _ => none }
def namesRow : OpenClaim := { program := "ytnignokbenimlaa", sum := "e36fb4cb240b8d424fa5c60f86b6f7f184d230e9d41f32226ccb71f510ecf10b", func := "choirloft/choirlaw1.Names", spec := "names", apart := false }
def NamesSaid : Prop := namesRow.holds Try.pinned (OpenSpec.ofChange namesSpec)

/-- ITS FALSE NEIGHBOUR: 'it returns false'. Refute it at one input. -/
def namesWrong : ChangeSpec := { name := "names", fn := fun _ => fun
  | [] => { results := [.lit (.bool false)], args := [] }
  | _ => none }
def NamesWrongFalsely : Prop := namesRow.holds Try.pinned (OpenSpec.ofChange namesWrong)

/-- 'choirlaw3.RateFair': WHATEVER THE INPUT: true; the input reads as it did. -/
def rateFairSpec : ChangeSpec := { name := "rateFair", fn := fun _ => fun
  | [d1, d2] => { results := [.lit (.bool true)], args := [d1, d2] }
  | _ => none }
def rateFairRow : OpenClaim := { program := "ytnignokbenimlaa", sum := "e36fb4cb240b8d424fa5c60f86b6f7f184d230e9d41f32226ccb71f510ecf10b", func := "choirloft/choirlaw3.RateFair", spec := "rateFair", unfollowed := true, recurses := true, apart := false }
def RateFairSaid : Prop := rateFairRow.holds Try.pinned (OpenSpec.ofChange rateFairSpec)

/-- ITS FALSE NEIGHBOUR: 'it returns false'. Refute it at one input. -/
def rateFairWrong : ChangeSpec := { name := "rateFair", fn := fun _ => fun
  | [d1, d2] => { results := [.lit (.bool false)], args := [d1, d2] }
  | _ => none }
def RateFairWrongFalsely : Prop := rateFairRow.holds Try.pinned (OpenSpec.ofChange rateFairWrong)

/- THE SECOND FORM. 'bulk': how many values and letters a reading holds, each counted each time it is reached (what is shared counts as often as it is met; a slice's spare places count too). A statement '..UptoSaid' is the law's where the arguments, and the package variables that the reading takes, are together of bulk at most 1048576: NARROWER than '..Said'. Prove '..Said' where nothing that the law and all that it calls make is longer than what came in: it says more and counts as full. Else prove '..UptoSaid'. A law counts once. -/
mutual
def uptoBulk {H : Type} : DataW H → Nat
  | .lit (.string bytes) => bytes.length + 1
  | .lit _ => 1
  | .nil => 1
  | .ptr d => uptoBulk d + 1
  | .slice elems spare => uptoBulkAll elems + uptoBulkAll spare + 1
  | .agg parts => uptoBulkAll parts + 1
  | .iface _ d => uptoBulk d + 1
  | .map entries => uptoBulkEntries entries + 1
  | .held _ => 1
def uptoBulkAll {H : Type} : List (DataW H) → Nat
  | [] => 0
  | d :: r => uptoBulk d + uptoBulkAll r
def uptoBulkEntries {H : Type} : List (Lit × DataW H) → Nat
  | [] => 0
  | x :: r => uptoBulkEntry x + uptoBulkEntries r
def uptoBulkEntry {H : Type} : Lit × DataW H → Nat
  | (.string bytes, d) => bytes.length + uptoBulk d + 1
  | (_, d) => uptoBulk d + 1
 end
def uptoSmall : (H : Type) → List (DataW H) → Bool := fun _ ds => decide (uptoBulkAll ds ≤ 1048576)
def OpenSpec.upto (s : _root_.Go.ChangeSpec) : _root_.Go.OpenSpec := { _root_.Go.OpenSpec.ofChange s with cond := some uptoSmall }

/-- 'choirlaw5.CrcLinear', WHERE WHAT IT READS IS OF BULK AT MOST 1048576: true; the input reads as it did. -/
def crcLinearUptoRow : OpenClaim := { program := "ytnignokbenimlaa", sum := "e36fb4cb240b8d424fa5c60f86b6f7f184d230e9d41f32226ccb71f510ecf10b", func := "choirloft/choirlaw5.CrcLinear", spec := "crcLinear", apart := false, narrowed := true }
def CrcLinearUptoSaid : Prop := crcLinearUptoRow.holds Try.pinned (OpenSpec.upto crcLinearSpec)

/-- 'choirlaw5.SerialNearer', WHERE WHAT IT READS IS OF BULK AT MOST 1048576: true; the input reads as it did. -/
def serialNearerUptoRow : OpenClaim := { program := "ytnignokbenimlaa", sum := "e36fb4cb240b8d424fa5c60f86b6f7f184d230e9d41f32226ccb71f510ecf10b", func := "choirloft/choirlaw5.SerialNearer", spec := "serialNearer", apart := false, narrowed := true }
def SerialNearerUptoSaid : Prop := serialNearerUptoRow.holds Try.pinned (OpenSpec.upto serialNearerSpec)

/-- 'choirlaw1.SerialRound', WHERE WHAT IT READS IS OF BULK AT MOST 1048576: true; the input reads as it did. -/
def serialRoundUptoRow : OpenClaim := { program := "ytnignokbenimlaa", sum := "e36fb4cb240b8d424fa5c60f86b6f7f184d230e9d41f32226ccb71f510ecf10b", func := "choirloft/choirlaw1.SerialRound", spec := "serialRound", apart := false, narrowed := true }
def SerialRoundUptoSaid : Prop := serialRoundUptoRow.holds Try.pinned (OpenSpec.upto serialRoundSpec)

/-- 'choirlaw5.RateSettles', WHERE WHAT IT READS IS OF BULK AT MOST 1048576: true; the input reads as it did. -/
def rateSettlesUptoRow : OpenClaim := { program := "ytnignokbenimlaa", sum := "e36fb4cb240b8d424fa5c60f86b6f7f184d230e9d41f32226ccb71f510ecf10b", func := "choirloft/choirlaw5.RateSettles", spec := "rateSettles", apart := false, narrowed := true }
def RateSettlesUptoSaid : Prop := rateSettlesUptoRow.holds Try.pinned (OpenSpec.upto rateSettlesSpec)

/-- 'choirlaw1.Names', WHERE WHAT IT READS IS OF BULK AT MOST 1048576: true; the input reads as it did. -/
def namesUptoRow : OpenClaim := { program := "ytnignokbenimlaa", sum := "e36fb4cb240b8d424fa5c60f86b6f7f184d230e9d41f32226ccb71f510ecf10b", func := "choirloft/choirlaw1.Names", spec := "names", apart := false, narrowed := true }
def NamesUptoSaid : Prop := namesUptoRow.holds Try.pinned (OpenSpec.upto namesSpec)

/-- 'choirlaw3.RateFair', WHERE WHAT IT READS IS OF BULK AT MOST 1048576: true; the input reads as it did. -/
def rateFairUptoRow : OpenClaim := { program := "ytnignokbenimlaa", sum := "e36fb4cb240b8d424fa5c60f86b6f7f184d230e9d41f32226ccb71f510ecf10b", func := "choirloft/choirlaw3.RateFair", spec := "rateFair", unfollowed := true, recurses := true, apart := false, narrowed := true }
def RateFairUptoSaid : Prop := rateFairUptoRow.holds Try.pinned (OpenSpec.upto rateFairSpec)

end Rows
end Go.Proofs.Ytnignokbenimlaa
