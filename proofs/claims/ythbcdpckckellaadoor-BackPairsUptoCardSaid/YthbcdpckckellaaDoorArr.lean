import Derived.Test.YthbcdpckckellaaDoorWorld
/-! Arrays of one-cell elements in memory, as functions. Of whatever program. -/
namespace Go.Proofs.YthbcdpckckellaaDoor
open Go.RowKit
set_option linter.unusedVariables false
set_option linter.unusedSimpArgs false
/-- block b is an array of n elements; p tells them -/
def ArrAt {α : Type} (enc : α → Value) (n : Nat) (T : TypeId) (w : World) (b : Nat) (p : Nat → α) : Prop := ∃ cs : Array Value, w.heap[b]? = some (.cells cs T (0, 0)) ∧ cs.size = n ∧ ∀ j, j < n → cs[j]? = some (enc (p j))
namespace ArrAt
variable {α : Type} {enc : α → Value} {n : Nat} {T : TypeId} {w w' : World} {b : Nat} {p : Nat → α}
theorem cell (h : ArrAt enc n T w b p) (j : Nat) (hj : j < n) : w.cell? ⟨b, j, none⟩ = some (enc (p j)) := by
  obtain ⟨cs, h1, _, h3⟩ := h
  exact obj_cell h1 (h3 j hj)
theorem free (h : ArrAt enc n T w b p) (j : Nat) : w.frozen? ⟨b, j, none⟩ = false := by
  obtain ⟨cs, h1, _, h3⟩ := h
  exact obj_free h1 j
theorem lt (h : ArrAt enc n T w b p) : b < w.heap.size := by
  obtain ⟨cs, h1, _, h3⟩ := h
  exact lt_of_block h1
theorem block (h : ArrAt enc n T w b p) (e : w'.heap[b]? = w.heap[b]?) : ArrAt enc n T w' b p := by
  obtain ⟨cs, h1, h2, h3⟩ := h
  exact ⟨cs, by rw [e]; exact h1, h2, h3⟩
theorem keep {S : Nat → Prop} (h : ArrAt enc n T w b p) (k : Keeps S w w') (hn : ¬ S b) : ArrAt enc n T w' b p := h.block (k.block b h.lt hn)
theorem below {M : Nat} (h : ArrAt enc n T w b p) (k : Below M w w') (hn : b < M) : ArrAt enc n T w' b p := h.block (k.block b hn)
theorem set (h : ArrAt enc n T w b p) (k : Nat) (v : α) : ArrAt enc n T (w.setCell ⟨b, k, none⟩ (enc v)) b (fun j => if j = k then v else p j) := by
  obtain ⟨cs, h1, h2, h3⟩ := h
  refine ⟨_, obj_set h1 k _, by simpa using h2, fun j hj => ?_⟩
  by_cases e : j = k
  · subst e
    rw [Array.getElem?_setIfInBounds_self_of_lt (by omega)]; simp
  · rw [Array.getElem?_setIfInBounds_ne (fun h => e h.symm), h3 j hj]; simp [e]
theorem setOther (h : ArrAt enc n T w b p) {a : Addr} (ha : a.block ≠ b) (v : Value) : ArrAt enc n T (w.setCell a v) b p := h.block (Below.heap_setCell _ _ _ _ (Ne.symm ha))
theorem ext {q : Nat → α} (h : ArrAt enc n T w b p) (e : ∀ j, j < n → p j = q j) : ArrAt enc n T w b q := by
  obtain ⟨cs, h1, h2, h3⟩ := h
  exact ⟨cs, h1, h2, fun j hj => by rw [h3 j hj, e j hj]⟩
theorem new (w : World) (T : TypeId) (n : Nat) (v : α) : ArrAt enc n T (w.alloc (.cells (Array.replicate n (enc v)) T)) w.heap.size (fun _ => v) :=
  ⟨_, obj_new _ _, by simp, fun j hj => by simp [hj]⟩
end ArrAt
abbrev encBl (b : Bool) : Value := .bool b
end Go.Proofs.YthbcdpckckellaaDoor
