import Derived.Test.YtfpmekphkippdaaSlice
import Derived.Test.YtfpmekphkippdaaRows
import Derived.WalkKit
import Derived.ProofKit
import Derived.RegionTactic
import Derived.ChangeAlike
import Derived.BigQuiet
import Derived.Deep.QuietTactic
/-! Slices of slices of integers; choirsame.Ints. -/
namespace Go.Proofs.Ytfpmekphkippdaa
open Go.RowKit
set_option linter.unusedVariables false
set_option linter.unusedSimpArgs false
/-- v is a slice of slices of integers; l: their values, and what each reads as -/
def IsRows (w : World) (v : Value) (l : List (Value × List Int)) : Prop := Sl (fun x : Value × List Int => x.1) w v l ∧ ∀ x ∈ l, IsInts w x.1 x.2
/-- a slice that reads as a list: its value's form -/
theorem Sl.shape {α : Type} {enc : α → Value} {w : World} {v : Value} {l : List α} (h : Sl enc w v l) : ∃ (b off cap : Nat) (oa : Option Addr), v = .slice oa l.length cap ∧ (l ≠ [] → oa = some ⟨b, off, none⟩) ∧ ∀ i (h : i < l.length), w.cell? ⟨b, off + i, none⟩ = some (enc l[i]) := by
  rcases h with ⟨rfl, oa, cap, rfl, h1, h2⟩ | ⟨b, off, cap, rfl, h1, h2, h3⟩
  · exact ⟨0, 0, cap, oa, rfl, fun h => absurd rfl h, fun i h => by simp at h⟩
  · exact ⟨b, off, cap, _, rfl, fun _ => rfl, h3⟩
end Go.Proofs.Ytfpmekphkippdaa
