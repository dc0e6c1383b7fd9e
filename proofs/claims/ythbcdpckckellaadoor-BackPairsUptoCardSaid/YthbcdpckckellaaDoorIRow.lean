import Derived.Test.YthbcdpckckellaaDoorIntRow
/-! A row of ints that a call has made, and one more in it. -/
namespace Go.Proofs.YthbcdpckckellaaDoor
open Go.RowKit
set_option linter.unusedVariables false
set_option linter.unusedSimpArgs false
abbrev IRow (w : World) (M : Nat) (v : Value) (A : List Int) : Prop := w.ownsRow M 3 1 v A.length (A.map encI)
theorem IRow.sl {w : World} {M : Nat} {v : Value} {A : List Int} (h : IRow w M v A) : Sl encI w v A := by
  rcases h.2 with ⟨rfl, h0⟩ | ⟨g, cap, cur, rfl, hb, hg, hc, hm, hs, ht⟩
  · have : A = [] := by simpa using h0
    subst this
    exact .inl ⟨rfl, none, 0, rfl, by simp, fun _ => rfl⟩
  · refine .inr ⟨g, 0, cap, rfl, hc, hm, fun i hi => ?_⟩
    have := World.ownsRow.cells h (g := g) rfl i (encI A[i]) (by simp [hi])
    rw [Addr.add_lit, Nat.zero_add] at this
    rw [Nat.zero_add]; exact this
theorem IRow.nil (w : World) (M : Nat) : IRow w M (.slice none 0 0) [] := World.ownsRow_nil _ _ _ _
theorem IRow.below {w w' : World} {M : Nat} {v : Value} {A : List Int} (h : IRow w M v A) (k : Below w.heap.size w w') : IRow w' M v A := intRow_below h k
/-- one more -/
theorem IRow.more {W w0 : World} {M : Nat} {v : Value} {A : List Int} (h : IRow W M v A) (x : Int) (hn : A.length ≤ 1000000) (K : Below M w0 W) (hM : M ≤ w0.heap.size) :
    ∃ gN capN wN, (Builtin.append_ #[22, 22] 22 #[v, .slice (some ⟨W.heap.size, 0, none⟩) 1 1]).run Tryd.prog (W.alloc (.cells #[.int .i64 x] 3)) = .ok (.slice (some ⟨gN, 0, none⟩) (A.length + 1) capN) wN ∧ IRow wN M (.slice (some ⟨gN, 0, none⟩) (A.length + 1) capN) (A ++ [x]) ∧ Below M w0 wN := by
  have hMW : M ≤ W.heap.size := Nat.le_trans hM K.size
  have kA : Below M w0 (W.alloc (.cells #[.int .i64 x] 3)) := K.alloc hMW _
  obtain ⟨vN, wN, hr, ho, hgr, hbk⟩ := run_moreInt2 _ M v x A.length (A.map encI) (h.alloc _) W.heap.size (obj_new _ _) hn (by simp; omega)
  obtain ⟨gN, capN, rfl⟩ := Joins.ownsRow_form ho (by omega)
  refine ⟨gN, capN, wN, hr, by unfold IRow; rw [List.map_append, List.length_append]; exact ho, ?_⟩
  exact ⟨hgr.os.trans kA.os, hgr.tape.trans kA.tape, hgr.output.trans kA.output, Nat.le_trans kA.size hgr.size, fun j hj => (hgr.block j (Nat.lt_of_lt_of_le hj (by simp; omega)) (fun e => by have := (h.lt j e.symm).1; omega)).trans (kA.block j hj)⟩
theorem IRow.lower {w : World} {M M' : Nat} {v : Value} {A : List Int} (h : IRow w M v A) (hM : M' ≤ M) : IRow w M' v A := by
  obtain ⟨h1, h2⟩ := h
  refine ⟨h1, ?_⟩
  rcases h2 with h2 | ⟨g, cap, cur, e, hb, hg, hc, hm, hs, ht⟩
  · exact .inl h2
  · exact .inr ⟨g, cap, cur, e, by omega, hg, hc, hm, hs, ht⟩
end Go.Proofs.YthbcdpckckellaaDoor
