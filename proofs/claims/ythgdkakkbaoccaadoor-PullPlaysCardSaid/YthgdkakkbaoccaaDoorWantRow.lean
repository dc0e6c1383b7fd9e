import Derived.Test.YthgdkakkbaoccaaDoorIntRow
import Derived.Maps.AppendAt
/-! Slices of wants that the call has made: append; what they read as. -/
namespace Go.Proofs.YthgdkakkbaoccaaDoor
open Go.RowKit
set_option linter.unusedVariables false
set_option linter.unusedSimpArgs false
/-- a want -/
structure Wt where
  who : Int
  track : Int
  lay : Int
deriving DecidableEq
def Wt.cells (x : Wt) : List Value := [.int .i64 x.who, .int .i64 x.track, .int .i64 x.lay]
/-- one as a value -/
abbrev wtV (who track lay : Int) : Value := .agg #[.int .i64 who, .int .i64 track, .int .i64 lay]
def wcells (L : List Wt) : List Value := L.flatMap Wt.cells
theorem wcells_more (L : List Wt) (x : Wt) : wcells (L ++ [x]) = wcells L ++ x.cells := by simp [wcells]
theorem wcells_len (L : List Wt) : (wcells L).length = L.length * 3 := by
  induction L with
  | nil => rfl
  | cons x r ih => simp only [wcells, List.flatMap_cons, List.length_append, List.length_cons] at *; rw [ih]; simp [Wt.cells]; omega
theorem wcells_at (L : List Wt) (k : Nat) (x : Wt) (h : L[k]? = some x) (j : Nat) (hj : j < 3) : (wcells L)[k * 3 + j]? = x.cells[j]? := by
  induction L generalizing k with
  | nil => simp at h
  | cons y r ih =>
    have e : wcells (y :: r) = y.cells ++ wcells r := by simp [wcells]
    have hl : y.cells.length = 3 := rfl
    rw [e]
    cases k with
    | zero =>
      simp at h; subst h
      rw [List.getElem?_append_left (by omega)]; simp
    | succ k =>
      rw [List.getElem?_append_right (by omega), hl, show (k + 1) * 3 + j - 3 = k * 3 + j by omega]
      exact ih k (by simpa using h)
theorem infoWant : (Tryd.prog.info? 91).map (fun i => (i.zero, i.size, i.bytes)) = some (some (wtV 0 0 0), 3, 24) := by kernel_rfl
abbrev WRow (w : World) (M : Nat) (v : Value) (L : List Wt) : Prop := w.ownsRow M 91 3 v L.length (wcells L)
theorem run_moreWant (W : World) (M : Nat) (v : Value) (x : Wt) (L : List Wt) (hown : WRow W M v L) (g : Nat) (hg : W.heap[g]? = some (.cells #[.int .i64 x.who, .int .i64 x.track, .int .i64 x.lay] 91 (0, 0))) (hn : L.length ≤ 1000000) (hB : M ≤ W.heap.size) :
    ∃ v' w', (Builtin.append_ #[85, 85] 85 #[v, .slice (some ⟨g, 0, none⟩) 1 1]).run Tryd.prog W = .ok v' w' ∧ WRow w' M v' (L ++ [x]) ∧ W.grownBy w' v.ownBlock ∧ (v'.ownBlock = v.ownBlock ∨ v'.ownBlock = some W.heap.size) := by
  obtain ⟨i0, hi, hz0, hz1, hz2⟩ := info_parts infoWant
  obtain ⟨v', w', h1, h2, h3, _, h5⟩ := run_append_own_at (P := Tryd.prog) W M 85 85 91 i0 _ 3 24 Tryd.underlying85 hi hz0 hz1 hz2 rfl (by decide) v L.length (wcells L) hown ⟨g, 0, none⟩ 1 1 x.cells rfl
    (fun j u hu => by
      rw [Addr.add_lit, Nat.zero_add]
      exact obj_cell hg (by simpa [Wt.cells] using hu))
    (fun u hu => by simp [Wt.cells] at hu; rcases hu with rfl | rfl | rfl <;> rfl) (by unfold maxLen; omega) (by omega) hB
  refine ⟨v', w', h1, ?_, h3, h5⟩
  unfold WRow
  rw [wcells_more, List.length_append]
  exact h2
/-- its value, and its cells -/
theorem wantRow_read {w : World} {M : Nat} {v : Value} {L : List Wt} (h : WRow w M v L) :
    ∃ (oa : Option Addr) (cap : Nat), v = .slice oa L.length cap ∧ ∀ (k : Nat) (x : Wt), L[k]? = some x → ∃ g, oa = some ⟨g, 0, none⟩ ∧ M ≤ g ∧ g < w.heap.size ∧ w.cell? ⟨g, k * 3, none⟩ = some (.int .i64 x.who) ∧ w.cell? ⟨g, k * 3 + 1, none⟩ = some (.int .i64 x.track) ∧ w.cell? ⟨g, k * 3 + 2, none⟩ = some (.int .i64 x.lay) := by
  rcases Joins.ownsRow_forms h with ⟨rfl, h0⟩ | ⟨g, cap, rfl⟩
  · refine ⟨none, 0, by rw [h0], fun k x hx => ?_⟩
    rw [List.getElem?_eq_none (by omega)] at hx
    cases hx
  · have hc := h.cells (g := g) rfl
    refine ⟨_, cap, rfl, fun k x hx => ⟨g, rfl, (h.lt g rfl).1, (h.lt g rfl).2, ?_, ?_, ?_⟩⟩
    · have := hc (k * 3 + 0) _ (by rw [wcells_at L k x hx 0 (by omega)]; rfl)
      rw [Addr.add_lit, Nat.zero_add] at this; exact this
    · have := hc (k * 3 + 1) _ (by rw [wcells_at L k x hx 1 (by omega)]; rfl)
      rw [Addr.add_lit, Nat.zero_add] at this; exact this
    · have := hc (k * 3 + 2) _ (by rw [wcells_at L k x hx 2 (by omega)]; rfl)
      rw [Addr.add_lit, Nat.zero_add] at this; exact this
theorem wantRow_keep {w w' : World} {M n : Nat} {v : Value} {xs : List Value} (h : w.ownsRow M 91 3 v n xs) (hk : ∀ g, v.ownBlock = some g → M ≤ g → g < w.heap.size → w'.heap[g]? = w.heap[g]?) : w'.ownsRow M 91 3 v n xs := by
  obtain ⟨h1, h2⟩ := h
  refine ⟨h1, ?_⟩
  rcases h2 with h2 | ⟨g, cap, cur, rfl, hb, hg, hc, hm, hs, ht⟩
  · exact .inl h2
  · exact .inr ⟨g, cap, cur, rfl, hb, by rw [hk g rfl hb (lt_of_block hg)]; exact hg, hc, hm, hs, ht⟩
theorem wantRow_below {w w' : World} {M n : Nat} {v : Value} {xs : List Value} (h : w.ownsRow M 91 3 v n xs) (k : Below w.heap.size w w') : w'.ownsRow M 91 3 v n xs :=
  wantRow_keep h (fun g _ _ hl => k.block g hl)
end Go.Proofs.YthgdkakkbaoccaaDoor
