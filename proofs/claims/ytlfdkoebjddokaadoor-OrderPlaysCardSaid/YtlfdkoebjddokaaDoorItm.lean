import Derived.Test.YtlfdkoebjddokaaDoorRecs
/-! Items as records. -/
namespace Go.Proofs.YtlfdkoebjddokaaDoor
open Go.RowKit
set_option linter.unusedVariables false
set_option linter.unusedSimpArgs false
/-- an item as its cells say -/
structure Itm where
  num : Int
  gone : Bool
  s : Int
  t : Int
  l : Int
  lv : Int
  st : Bool
  oa : Option Addr
  bn : Nat
  bc : Nat
def Itm.cells (x : Itm) : List Value := [.int .i64 x.num, .bool x.gone, .int .i64 x.s, .int .i64 x.t, .int .i64 x.l, .int .i64 x.lv, .bool x.st, .slice x.oa x.bn x.bc]
theorem infoIt : (Tryd.prog.info? 81).map (fun i => (i.zero, i.size, i.bytes)) = some (some (.agg #[.int .i64 0, .bool false, .int .i64 0, .int .i64 0, .int .i64 0, .int .i64 0, .bool false, .slice none 0 0]), 8, 80) := by kernel_rfl
def itemK : RecK Itm := ⟨45, 81, 8, 80, Itm.cells⟩
theorem itemK_ok : itemK.Ok where
  und := Tryd.underlying45
  info := by
    obtain ⟨i0, hi, hz0, hz1, hz2⟩ := info_parts infoIt
    exact ⟨i0, _, hi, hz0, hz1, hz2, rfl⟩
  pos := by decide
  len := fun _ => rfl
  one := fun x u hu => by simp [itemK, Itm.cells] at hu; rcases hu with rfl | rfl | rfl | rfl | rfl | rfl | rfl | rfl <;> rfl
  small := by decide
end Go.Proofs.YtlfdkoebjddokaaDoor
