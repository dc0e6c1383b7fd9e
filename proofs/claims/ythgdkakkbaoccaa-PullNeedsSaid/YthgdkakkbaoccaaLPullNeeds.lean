import Derived.Test.YthgdkakkbaoccaaLPullNeedsR
/-! The law PullNeeds: its parameters opened. -/
namespace Go.Proofs.Ythgdkakkbaoccaa
open Go.RowKit Go.Maps Go.Proofs
set_option linter.unusedVariables false
theorem wts_read {w : World} {v : Value} {l : List Wt} (h : IsWts w v l) : ∃ (oa : Option Addr) (c : Nat), v = .slice oa l.length c ∧ l.length ≤ maxLen ∧ ∀ k, k < l.length → ∃ b f, oa = some ⟨b, f, none⟩ ∧ b < w.heap.size ∧ w.cell? ⟨b, f + k * 3, none⟩ = some (.int .i64 (l.getD k ⟨0, 0, 0⟩).who) ∧ w.cell? ⟨b, f + k * 3 + 1, none⟩ = some (.int .i64 (l.getD k ⟨0, 0, 0⟩).track) ∧ w.cell? ⟨b, f + k * 3 + 2, none⟩ = some (.int .i64 (l.getD k ⟨0, 0, 0⟩).lay) ∧ (l.getD k ⟨0, 0, 0⟩).Good := by
  obtain ⟨h1, h2⟩ := h
  have hl := h1.len
  rcases h1 with ⟨rfl, oa, cap, rfl, r1, _⟩ | ⟨b2, f2, c2, rfl, r1, r2, r3⟩
  · exact ⟨oa, cap, rfl, hl, fun k hk => by simp at hk⟩
  · refine ⟨_, c2, rfl, hl, fun k hk => ?_⟩
    have e : l.getD k ⟨0, 0, 0⟩ = l[k] := by simp [List.getD, hk]
    rw [e]
    have q0 := r3 k hk 0 _ rfl
    have q1 := r3 k hk 1 _ rfl
    have q2 := r3 k hk 2 _ rfl
    exact ⟨b2, f2, rfl, Sl.lt q0, q0, q1, q2, h2 _ (List.getElem_mem hk)⟩
theorem walk_PullNeeds (W : World) (a0 : Int) (w0 : (Lit.int .i64 a0).wf = true) (v1 : Value) (l1 : List Wt) (o1 : IsWts W v1 l1) (v2 : Value) (l2 : List Int) (o2 : IsInts W v2 l2) :
    Calls Try.prog 3 #[.int .i64 a0, v1, v2] W fun e w' => e = .returned (.bool true) ∧ Below W.heap.size W w' := by
  obtain ⟨oa1, c1, rfl, m1, z1⟩ := wts_read o1
  obtain ⟨oa2, c2, rfl, m2, z2⟩ := ints_read o2
  exact walk_PullNeeds_run W a0 oa1 _ c1 _ m1 z1 oa2 _ c2 _ m2 z2
end Go.Proofs.Ythgdkakkbaoccaa
