import Derived.Test.YthbcdpckckellaaDoorSlN
import Derived.Test.YthbcdpckckellaaDoorCheck
/-! Packets and items: in memory, in slices. -/
namespace Go.Proofs.YthbcdpckckellaaDoor
open Go.RowKit
set_option linter.unusedVariables false
set_option linter.unusedSimpArgs false


/-- a packet -/
structure Pk where
  s : Int
  t : Int
  l : Int
  lv : Int
  st : Bool
  bv : Value
  body : List UInt8
namespace Pk
def cells (p : Pk) : List Value := [.int .i64 p.s, .int .i64 p.t, .int .i64 p.l, .int .i64 p.lv, .bool p.st, p.bv]
def val (p : Pk) : Value := pkV p.s p.t p.l p.lv p.st p.bv
def ok (p : Pk) : Prop := Pl.pkOk p.s p.t p.l p.lv p.body.length
instance (p : Pk) : Decidable p.ok := by unfold ok; infer_instance
/-- its numbers fit, its Body reads -/
def Good (w : World) (p : Pk) : Prop := (-9223372036854775808 ≤ p.s ∧ p.s ≤ 9223372036854775807) ∧ (-9223372036854775808 ≤ p.t ∧ p.t ≤ 9223372036854775807) ∧ (-9223372036854775808 ≤ p.l ∧ p.l ≤ 9223372036854775807) ∧
  (-9223372036854775808 ≤ p.lv ∧ p.lv ≤ 9223372036854775807) ∧ IsBytes w p.bv p.body
theorem Good.below {w w' : World} {p : Pk} (h : p.Good w) (hb : Below w.heap.size w w') : p.Good w' := ⟨h.1, h.2.1, h.2.2.1, h.2.2.2.1, h.2.2.2.2.below hb⟩
end Pk
/-- the Body's value is a slice of so many -/
theorem bytes_slice {w : World} {v : Value} {l : List UInt8} (h : IsBytes w v l) : ∃ oa c, v = .slice oa l.length c ∧ l.length ≤ maxLen := by
  rcases h with ⟨rfl, oa, cap, rfl, _, _⟩ | ⟨b, off, cap, rfl, h1, h2, _⟩
  · exact ⟨oa, cap, rfl, by simp⟩
  · exact ⟨_, cap, rfl, by omega⟩

/-- an item -/
structure It where
  num : Int
  gone : Bool
  pk : Pk
namespace It
def cells (x : It) : List Value := .int .i64 x.num :: .bool x.gone :: x.pk.cells
def Good (w : World) (x : It) : Prop := (-9223372036854775808 ≤ x.num ∧ x.num ≤ 9223372036854775807) ∧ x.pk.Good w
end It
abbrev IsPks (w : World) (v : Value) (l : List Pk) : Prop := SlN 6 Pk.cells w v l ∧ ∀ p ∈ l, p.Good w
abbrev IsIts (w : World) (v : Value) (l : List It) : Prop := SlN 8 It.cells w v l ∧ ∀ x ∈ l, x.Good w
end Go.Proofs.YthbcdpckckellaaDoor
