import Derived.Test.YthgdkakkbaoccaaDoorRefPullA
import Derived.Test.YthgdkakkbaoccaaDoorTold
/-! What the law PullPlays keeps: both objects and the array of a step. -/
namespace Go.Proofs.YthgdkakkbaoccaaDoor
open Go.RowKit
set_option linter.unusedVariables false
set_option linter.unusedSimpArgs false
/-- a fault as an error -/
def errV (k : Int) : Value := if k = 0 then .nilIface else .iface 103 (.int .i64 k)
theorem errV_nil : errV 0 = .nilIface := rfl
theorem errV_hit (k : Int) (h : k ≠ 0) : errV k = .iface 103 (.int .i64 k) := by unfold errV; rw [if_neg h]
theorem error_same (k : Int) (w : World) (hg : Env w) : Calls Tryd.prog 9 #[errV k, .int .i64 k] w fun e w' => e = .returned (.bool true) ∧ Below w.heap.size w w' := by
  by_cases h : k = 0
  · subst h
    exact (error_nil 0 w).mono fun e w' ⟨h1, h2⟩ => ⟨by rw [h1]; simp, h2 ▸ Below.refl _ _⟩
  · rw [errV_hit k h]
    exact (error_hit k k w hg).mono fun e w' ⟨h1, h2⟩ => ⟨by rw [h1]; simp, h2⟩
/-- an array of four ints -/
def Arr4 (w : World) (A : Nat) (a : Nat → Int) : Prop := w.heap[A]? = some (.cells #[.int .i64 (a 0), .int .i64 (a 1), .int .i64 (a 2), .int .i64 (a 3)] 99 (0, 0))
namespace Arr4
variable {w : World} {A : Nat} {a : Nat → Int}
theorem cell (h : Arr4 w A a) (k : Nat) (hk : k < 4) : w.cell? ⟨A, k, none⟩ = some (.int .i64 (a k)) := by
  have : k = 0 ∨ k = 1 ∨ k = 2 ∨ k = 3 := by omega
  rcases this with rfl | rfl | rfl | rfl <;> exact obj_cell h rfl
theorem set (h : Arr4 w A a) (k : Nat) (hk : k < 4) (x : Int) : Arr4 (w.setCell ⟨A, k, none⟩ (.int .i64 x)) A (fun j => if j = k then x else a j) := by
  unfold Arr4 at *; rw [obj_set h]
  have : k = 0 ∨ k = 1 ∨ k = 2 ∨ k = 3 := by omega
  rcases this with rfl | rfl | rfl | rfl <;> rfl
end Arr4
/-- no map is a block of cells -/
theorem MapAt.ne_cells {P : Program} {k : TypeId} {w : World} {b c : Nat} {f : Int → Option Value} (h : MapAt P k w b c f) (cs : Array Value) (T : TypeId) (fz : Nat × Nat) : w.heap[b]? ≠ some (.cells cs T fz) := by
  obtain ⟨D, hown, _⟩ := h
  obtain ⟨es, clock, hb, _⟩ := hown
  rw [hb]; simp
structure QJ (M A : Nat) (w0 : World) (a : Nat → Int) (b : Nat) (mp : Nat → Nat) (rb : Nat) (th now : Int) (told asked : Nat → Int) (C : Nat → Nat) (F : Nat → Int → Option Int) (now' : Int) (told' asked' : Nat → Int) (v : Value) (L : List Wt) (y : World) : Prop where
  p : Pul M y b now th mp told asked C F
  r : RPul M y rb now' th v L told' asked'
  arr : Arr4 y A a
  kb : Below M w0 y
namespace QJ
variable {M A : Nat} {w0 : World} {a : Nat → Int} {b : Nat} {mp : Nat → Nat} {rb : Nat} {th now : Int} {told asked : Nat → Int} {C : Nat → Nat} {F : Nat → Int → Option Int} {now' : Int} {told' asked' : Nat → Int} {v : Value} {L : List Wt} {y y' : World}
theorem drew (h : QJ M A w0 a b mp rb th now told asked C F now' told' asked' v L y) : QJ M A w0 a b mp rb th now told asked C F now' told' asked' v L y.drew :=
  ⟨h.p.drewN 1, ⟨by exact h.r.at_, by exact h.r.row, h.r.low⟩, by exact h.arr, Below.drewN h.kb 1⟩
theorem size (h : QJ M A w0 a b mp rb th now told asked C F now' told' asked' v L y) (hM : M ≤ w0.heap.size) : M ≤ y.heap.size := Nat.le_trans hM h.kb.size
theorem below (h : QJ M A w0 a b mp rb th now told asked C F now' told' asked' v L y) (hM : M ≤ w0.heap.size) (k : Below y.heap.size y y') : QJ M A w0 a b mp rb th now told asked C F now' told' asked' v L y' :=
  ⟨h.p.below k, h.r.below k, Below.heapAt k h.arr (lt_of_block h.arr), h.kb.trans (k.mono (h.size hM))⟩
/-- the program's object has turned -/
theorem prog {now2 : Int} {told2 asked2 : Nat → Int} {C2 : Nat → Nat} {F2 : Nat → Int → Option Int} (h : QJ M A w0 a b mp rb th now told asked C F now' told' asked' v L y) (hM : M ≤ w0.heap.size) (p : Pul M y' b now2 th mp told2 asked2 C2 F2) (k : FP b mp y y') : QJ M A w0 a b mp rb th now2 told2 asked2 C2 F2 now' told' asked' v L y' := by
  have ne : ∀ (j : Nat) (cs : Array Value) (T : TypeId), (j = b ∨ ∃ i, i < 9 ∧ j = mp i) → T ≠ 146 → y.heap[j]? ≠ some (.cells cs T (0, 0)) := fun j cs T hj hT e => by
    rcases hj with rfl | ⟨i, hi, rfl⟩
    · have a := h.p.at_
      unfold PullAt at a
      rw [a] at e; simp at e; exact hT e.2.symm
    · exact (h.p.map i hi).ne_cells _ _ _ e
  refine ⟨p, h.r.keep k (fun j hj => .inr ⟨fun c => ne j c _ hj (by decide), fun c => ne j c _ hj (by decide)⟩), Keeps.heap k h.arr (fun e => ne A _ _ e (by decide) h.arr), h.kb.trans (k.below h.p (h.size hM))⟩
/-- the reference's has -/
theorem ref {now2 : Int} {told2 asked2 : Nat → Int} {v2 : Value} {L2 : List Wt} (h : QJ M A w0 a b mp rb th now told asked C F now' told' asked' v L y) (hM : M ≤ w0.heap.size) (r : RPul M y' rb now2 th v2 L2 told2 asked2) (k : RFP rb v y y') : QJ M A w0 a b mp rb th now told asked C F now2 told2 asked2 v2 L2 y' := by
  have own : ∀ j, (j = rb ∨ v.ownBlock = some j) → (∃ cs, y.heap[j]? = some (.cells cs 98 (0, 0))) ∨ (∃ cs, y.heap[j]? = some (.cells cs 91 (0, 0))) := fun j hj => by
    rcases hj with rfl | hj
    · exact .inl ⟨_, h.r.at_⟩
    · rcases h.r.row.2 with ⟨rfl, _⟩ | ⟨g', cap, cur, rfl, hb, hg', _⟩
      · cases hj
      · simp [Value.ownBlock] at hj
        subst hj
        exact .inr ⟨_, hg'⟩
  have ne : ∀ (j : Nat) (cs : Array Value) (T : TypeId), (j = rb ∨ v.ownBlock = some j) → T ≠ 98 → T ≠ 91 → y.heap[j]? ≠ some (.cells cs T (0, 0)) := fun j cs T hj h1 h2 e => by
    rcases own j hj with ⟨cs', e'⟩ | ⟨cs', e'⟩
    · rw [e] at e'; simp at e'; exact h1 e'.2
    · rw [e] at e'; simp at e'; exact h2 e'.2
  refine ⟨⟨Keeps.heap k h.p.at_ (fun e => ne b _ _ e (by decide) (by decide) h.p.at_), fun j hj => (h.p.map j hj).block (k.block (mp j) (h.p.map j hj).lt (fun e => ?_)), h.p.ne, h.p.inj, h.p.low⟩, r, Keeps.heap k h.arr (fun e => ne A _ _ e (by decide) (by decide) h.arr), h.kb.trans (k.below h.r (h.size hM))⟩
  rcases own _ e with ⟨cs', e'⟩ | ⟨cs', e'⟩ <;> exact (h.p.map j hj).ne_cells _ _ _ e'
end QJ
/-- no want of a track: its map is empty -/
theorem count_zero {P : Program} {k : TypeId} {w : World} {b c : Nat} {f : Int → Option Value} (h : MapAt P k w b c f) (K : Maps.Keyed P k) (hk : P.underlying k = some (.int .i64)) (hn : ∀ i, f i = none) : c = 0 := by
  obtain ⟨ks, _, hl, hm⟩ := h.keys K hk
  cases ks with
  | nil => simpa using hl.symm
  | cons x r =>
    have := (hm x).2 (.head _)
    rw [hn x] at this; cases this
end Go.Proofs.YthgdkakkbaoccaaDoor
