import Derived.Test.YtlfdkoebjddokaaDoorMapI
import Derived.Test.YtlfdkoebjddokaaDoorSlice
/-! An array of three ints; no map is a block of cells. -/
namespace Go.Proofs.YtlfdkoebjddokaaDoor
open Go.RowKit
set_option linter.unusedVariables false
set_option linter.unusedSimpArgs false
/-- an array of three ints -/
def Arr3 (w : World) (A : Nat) (a : Nat → Int) : Prop := w.heap[A]? = some (.cells #[.int .i64 (a 0), .int .i64 (a 1), .int .i64 (a 2)] 34 (0, 0))
namespace Arr3
variable {w : World} {A : Nat} {a : Nat → Int}
theorem cell (h : Arr3 w A a) (k : Nat) (hk : k < 3) : w.cell? ⟨A, k, none⟩ = some (.int .i64 (a k)) := by
  have : k = 0 ∨ k = 1 ∨ k = 2 := by omega
  rcases this with rfl | rfl | rfl <;> exact obj_cell h rfl
theorem set (h : Arr3 w A a) (k : Nat) (hk : k < 3) (x : Int) : Arr3 (w.setCell ⟨A, k, none⟩ (.int .i64 x)) A (fun j => if j = k then x else a j) := by
  unfold Arr3 at *; rw [obj_set h]
  have : k = 0 ∨ k = 1 ∨ k = 2 := by omega
  rcases this with rfl | rfl | rfl <;> rfl
end Arr3
/-- no map is a block of cells -/
theorem MapAt.ne_cells {P : Program} {k : TypeId} {w : World} {b c : Nat} {f : Int → Option Value} (h : MapAt P k w b c f) (cs : Array Value) (T : TypeId) (fz : Nat × Nat) : w.heap[b]? ≠ some (.cells cs T fz) := by
  obtain ⟨D, hown, _⟩ := h
  obtain ⟨es, clock, hb, _⟩ := hown
  rw [hb]; simp
end Go.Proofs.YtlfdkoebjddokaaDoor
