import Derived.Test.YthbcdpckckellaaDoorIntRow
import Derived.Maps.AppendAt
import Derived.Deep.Onto
/-! Slices of records that the call has made, of whatever make: append of one, of another slice's part; what they read as. -/
namespace Go.Proofs.YthbcdpckckellaaDoor
open Go.RowKit
set_option linter.unusedVariables false
set_option linter.unusedSimpArgs false
/-- the world is forgotten but for S -/
theorem abs_to {P : Program} {c : Code} {Q : Exit → Act → World → Prop} {a : Act} {W : World} (S : World → Prop) (h : S W) (k : ∀ wq, S wq → c.wp P Q a wq) : c.wp P Q a W := k W h
/-- a make of rows: the slice's type, the element's, how many cells and bytes one has, and which -/
structure RecK (α : Type) where
  sl : TypeId
  el : TypeId
  n : Nat
  bytes : Nat
  cells : α → List Value
namespace RecK
variable {α : Type} (R : RecK α)
def all (L : List α) : List Value := L.flatMap R.cells
structure Ok : Prop where
  und : Tryd.prog.underlying R.sl = some (.slice R.el)
  info : ∃ i z, Tryd.prog.info? R.el = some i ∧ i.zero = some z ∧ i.size = R.n ∧ i.bytes = R.bytes ∧ z.cells.size = R.n
  pos : 0 < R.n
  len : ∀ x, (R.cells x).length = R.n
  one : ∀ x, ∀ u ∈ R.cells x, u.oneCell' = true
  small : R.bytes ≤ 1000
abbrev Own (w : World) (M : Nat) (v : Value) (L : List α) : Prop := w.ownsRow M R.el R.n v L.length (R.all L)
theorem all_app (L L' : List α) : R.all (L ++ L') = R.all L ++ R.all L' := by simp [all]
theorem all_nil : R.all [] = [] := rfl
theorem all_one (x : α) : R.all [x] = R.cells x := by simp [all]
theorem all_len (h : R.Ok) (L : List α) : (R.all L).length = L.length * R.n := by
  induction L with
  | nil => simp [all]
  | cons x r ih => simp only [all, List.flatMap_cons, List.length_append, List.length_cons] at *; rw [ih, h.len, Nat.add_mul]; omega
theorem all_at (h : R.Ok) (L : List α) (k : Nat) (x : α) (hx : L[k]? = some x) (j : Nat) (hj : j < R.n) : (R.all L)[k * R.n + j]? = (R.cells x)[j]? := by
  induction L generalizing k with
  | nil => simp at hx
  | cons y r ih =>
    have e : R.all (y :: r) = R.cells y ++ R.all r := by simp [all]
    have hl := h.len y
    rw [e]
    cases k with
    | zero =>
      simp at hx; subst hx
      rw [List.getElem?_append_left (by omega)]; simp
    | succ k =>
      have q : (k + 1) * R.n = k * R.n + R.n := by rw [Nat.add_mul]; omega
      rw [List.getElem?_append_right (by omega), hl, show (k + 1) * R.n + j - R.n = k * R.n + j by omega]
      exact ih k (by simpa using hx)
theorem all_one' (h : R.Ok) (L : List α) : ∀ u ∈ R.all L, u.oneCell' = true := fun u hu => by
  obtain ⟨x, _, hx⟩ := List.mem_flatMap.1 hu
  exact h.one x u hx
variable {R}
/-- append: of what lies somewhere -/
theorem run_more (h : R.Ok) (W : World) (M : Nat) (v : Value) (L L' : List α) (hown : R.Own W M v L) (a : Addr) (c : Nat) (hc : ∀ j u, (R.all L')[j]? = some u → W.cell? (a.add j) = some u) (hn : L.length + L'.length ≤ 1000000) (hB : M ≤ W.heap.size) :
    ∃ v' w', (Builtin.append_ #[R.sl, R.sl] R.sl #[v, .slice (some a) L'.length c]).run Tryd.prog W = .ok v' w' ∧ R.Own w' M v' (L ++ L') ∧ W.grownBy w' v.ownBlock ∧ (v'.ownBlock = v.ownBlock ∨ v'.ownBlock = some W.heap.size) := by
  obtain ⟨i0, z, hi, hz0, hz1, hz2, hz3⟩ := h.info
  obtain ⟨v', w', h1, h2, h3, _, h5⟩ := run_append_own_at (P := Tryd.prog) W M R.sl R.sl R.el i0 z R.n R.bytes h.und hi hz0 hz1 hz2 hz3 h.pos v L.length (R.all L) hown a L'.length c (R.all L') (R.all_len h L') hc (R.all_one' h L') (by unfold maxLen; omega) (by
      have : (L.length + L'.length) * R.bytes ≤ 1000000 * 1000 := Nat.mul_le_mul hn h.small
      omega) hB
  refine ⟨v', w', h1, ?_, h3, h5⟩
  unfold Own
  rw [all_app, List.length_append]
  exact h2
/-- .. of one that lies in a block of its own -/
theorem run_one (h : R.Ok) (W : World) (M : Nat) (v : Value) (x : α) (L : List α) (hown : R.Own W M v L) (g : Nat) (hg : W.heap[g]? = some (.cells (R.cells x).toArray R.el (0, 0))) (hn : L.length ≤ 999999) (hB : M ≤ W.heap.size) :
    ∃ v' w', (Builtin.append_ #[R.sl, R.sl] R.sl #[v, .slice (some ⟨g, 0, none⟩) 1 1]).run Tryd.prog W = .ok v' w' ∧ R.Own w' M v' (L ++ [x]) ∧ W.grownBy w' v.ownBlock ∧ (v'.ownBlock = v.ownBlock ∨ v'.ownBlock = some W.heap.size) := by
  exact run_more h W M v L [x] hown ⟨g, 0, none⟩ 1 (fun j u hu => by
      rw [Addr.add_lit, Nat.zero_add]
      rw [all_one] at hu
      exact obj_cell hg (by simpa using hu)) (by simp; omega) hB
/-- its value, and its cells -/
theorem Own.read (h : R.Ok) {w : World} {M : Nat} {v : Value} {L : List α} (ho : R.Own w M v L) :
    ∃ (oa : Option Addr) (cap : Nat), v = .slice oa L.length cap ∧ ∀ (k : Nat) (x : α), L[k]? = some x → ∃ g, oa = some ⟨g, 0, none⟩ ∧ M ≤ g ∧ g < w.heap.size ∧ ∀ (j : Nat) (u : Value), (R.cells x)[j]? = some u → w.cell? ⟨g, k * R.n + j, none⟩ = some u := by
  rcases Joins.ownsRow_forms ho with ⟨rfl, h0⟩ | ⟨g, cap, rfl⟩
  · refine ⟨none, 0, by rw [h0], fun k x hx => ?_⟩
    rw [List.getElem?_eq_none (by omega)] at hx
    cases hx
  · have hc := ho.cells (g := g) rfl
    refine ⟨_, cap, rfl, fun k x hx => ⟨g, rfl, (ho.lt g rfl).1, (ho.lt g rfl).2, fun j u hu => ?_⟩⟩
    have hj : j < R.n := by have := (List.getElem?_eq_some_iff.1 hu).1; rw [h.len] at this; exact this
    have := hc (k * R.n + j) u (by rw [all_at R h L k x hx j hj]; exact hu)
    rw [Addr.add_lit, Nat.zero_add] at this; exact this
theorem Own.keep {w w' : World} {M : Nat} {v : Value} {L : List α} (ho : R.Own w M v L) (hk : ∀ g, v.ownBlock = some g → M ≤ g → g < w.heap.size → w'.heap[g]? = w.heap[g]?) : R.Own w' M v L := by
  obtain ⟨h1, h2⟩ := ho
  refine ⟨h1, ?_⟩
  rcases h2 with h2 | ⟨g, cap, cur, rfl, hb, hg, hc, hm, hs, ht⟩
  · exact .inl h2
  · exact .inr ⟨g, cap, cur, rfl, hb, by rw [hk g rfl hb (lt_of_block hg)]; exact hg, hc, hm, hs, ht⟩
theorem Own.below {w w' : World} {M : Nat} {v : Value} {L : List α} (ho : R.Own w M v L) (k : Below w.heap.size w w') : R.Own w' M v L :=
  ho.keep (fun g _ _ hl => k.block g hl)
theorem Own.nil (w : World) (M : Nat) : R.Own w M (.slice none 0 0) [] := World.ownsRow_nil _ _ _ _
/-- the blocks of others are as they were -/
theorem Own.grow {w w' : World} {S : Nat → Prop} {row : Option Nat} (k : w.grownBy w' row) (hS : ∀ g, row = some g → S g) : Keeps S w w' :=
  ⟨k.os, k.tape, k.output, k.size, fun j hj hne => k.block j hj (fun e => hne (hS j e.symm))⟩
end RecK
end Go.Proofs.YthbcdpckckellaaDoor
