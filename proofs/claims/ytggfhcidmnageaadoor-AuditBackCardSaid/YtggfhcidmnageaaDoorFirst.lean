import Derived.Test.YtggfhcidmnageaaDoorPk
import Derived.Deep.DeepCutAuto
/-! The world forgotten; the first one of a list. -/
namespace Go.Proofs.YtggfhcidmnageaaDoor
open Go.RowKit
set_option linter.unusedVariables false
/-- the world is forgotten but for S -/
theorem abs_t {P : Program} {c : Code} {Q : Exit → Act → World → Prop} {a : Act} {W : World} (S : World → Prop) (h : S W) (k : ∀ wq, S wq → c.wp P Q a wq) : c.wp P Q a W := k W h
/-- the first of a list that is so -/
def FirstIx {α : Type} (p : α → Bool) (L : List α) (k : Int) : Prop := (k = -1 ∧ ∀ x ∈ L, p x = false) ∨ ∃ j, ∃ h : j < L.length, k = (j : Int) ∧ p L[j] = true ∧ ∀ i (hi : i < j), p (L[i]'(Nat.lt_trans hi h)) = false
theorem FirstIx.any {α : Type} {p : α → Bool} {L : List α} {k : Int} (h : FirstIx p L k) : decide (0 ≤ k) = L.any p := by
  rcases h with ⟨rfl, h⟩ | ⟨j, hj, rfl, h1, h2⟩
  · rw [List.any_eq_false.2 (fun x hx => by simp [h x hx])]; rfl
  · rw [List.any_eq_true.2 ⟨_, List.getElem_mem hj, h1⟩]; simp
end Go.Proofs.YtggfhcidmnageaaDoor
