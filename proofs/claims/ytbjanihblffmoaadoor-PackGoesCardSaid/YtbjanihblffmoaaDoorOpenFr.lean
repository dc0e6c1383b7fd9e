import Derived.Test.YtbjanihblffmoaaDoorOpenPk
/-! Arguments that are a packet, a frame. -/
namespace Go.Proofs.YtbjanihblffmoaaDoor
open Go.ChangeShapes Go.WideShapes Go.ChangeAt Go.RowKit
set_option maxRecDepth 100000
set_option linter.unusedVariables false
set_option linter.unusedSimpArgs false
/-- a frame -/
structure Fr where
  t : Int
  o : Int
  ep : Int
  h : Int
  bv : Value
  body : List UInt8
namespace Fr
def cells (p : Fr) : List Value := [.int .i64 p.t, .int .i64 p.o, .int .i64 p.ep, .int .i64 p.h, p.bv]
def val (p : Fr) : Value := .agg #[.int .i64 p.t, .int .i64 p.o, .int .i64 p.ep, .int .i64 p.h, p.bv]
def Good (w : World) (p : Fr) : Prop := (-9223372036854775808 ≤ p.t ∧ p.t ≤ 9223372036854775807) ∧ (-9223372036854775808 ≤ p.o ∧ p.o ≤ 9223372036854775807) ∧ (-9223372036854775808 ≤ p.ep ∧ p.ep ≤ 9223372036854775807) ∧
  (-9223372036854775808 ≤ p.h ∧ p.h ≤ 9223372036854775807) ∧ IsBytes w p.bv p.body
end Fr
namespace Op
theorem pk1 {H : Type} {enc : TypeId × Value → H} {W : World} {base : Nat} {v : Value} {d : DataW H} {p : List MemPlace} (hv : Value.okWide Tryd.prog W .any base 24 v)
    (h : DataW.Trod enc Tryd.prog W 0 (fun _ => true) true 24 v d p) : ∃ l : Pk, (v = l.val ∧ l.Good W) ∧ l.body.length + 7 ≤ Rows.uptoBulk d := by
  obtain ⟨cs, rfl, _⟩ := okWide_struct Tryd.underlying24 hv
  obtain ⟨fuel, hf⟩ := h
  obtain ⟨q, e, g, hb⟩ := pk_read hf
  refine ⟨q, ⟨?_, g⟩, hb⟩
  have e2 : cs.toList = q.cells := e
  have e3 : cs = q.cells.toArray := by rw [← e2]
  rw [e3]; rfl
theorem list5 {α : Type} {l : List α} (h : l.length = 5) : ∃ a b c d e, l = [a, b, c, d, e] := by
  match l, h with
  | [a, b, c, d, e], _ => exact ⟨a, b, c, d, e, rfl⟩
end Op
end Go.Proofs.YtbjanihblffmoaaDoor
