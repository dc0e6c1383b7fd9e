import Derived.Test.YtggfhcidmnageaaDoorPAuditB
/-! Audit, the plain law: the rounds of the law's own loops. -/
namespace Go.Proofs.YtggfhcidmnageaaDoor
set_option linter.unusedVariables false
set_option linter.unusedSimpArgs false
namespace Pl
def RowSt (G : List Pk) (i : Nat) (e a : Int) : Prop := (1000 < G.length ∧ e = 4 ∧ a = 0) ∨ (G.length ≤ 1000 ∧ ((e = 0 ∧ a = 0 ∧ ∀ j, j < i → rowF G j = 0) ∨ (e ≠ 0 ∧ ∃ k : Nat, k < G.length ∧ a = k ∧ rowF G k = e ∧ ∀ j, j < k → rowF G j = 0)))
theorem RowSt.start (G : List Pk) : RowSt G 0 (if 1000 < G.length then 4 else 0) 0 := by
  by_cases h : 1000 < G.length
  · rw [if_pos h]; exact .inl ⟨h, rfl, rfl⟩
  · rw [if_neg h]; exact .inr ⟨by omega, .inl ⟨rfl, rfl, fun j hj => by omega⟩⟩
theorem RowSt.zero {G : List Pk} {i : Nat} {a : Int} (h : RowSt G i 0 a) : G.length ≤ 1000 ∧ a = 0 ∧ ∀ j, j < i → rowF G j = 0 := by
  rcases h with ⟨_, e, _⟩ | ⟨h1, ⟨_, h2, h3⟩ | ⟨e, _⟩⟩
  · cases e
  · exact ⟨h1, h2, h3⟩
  · exact absurd rfl e
theorem RowSt.good {G : List Pk} {i : Nat} {a : Int} (h : RowSt G i 0 a) (hf : rowF G i = 0) : RowSt G (i + 1) 0 a := by
  obtain ⟨h1, h2, h3⟩ := h.zero
  exact .inr ⟨h1, .inl ⟨rfl, h2, fun j hj => by
    by_cases e : j = i
    · subst e; exact hf
    · exact h3 j (by omega)⟩⟩
theorem RowSt.bad {G : List Pk} {i : Nat} {a f : Int} (h : RowSt G i 0 a) (hi : i < G.length) (hf : rowF G i = f) (h0 : f ≠ 0) : RowSt G (i + 1) f i := by
  obtain ⟨h1, h2, h3⟩ := h.zero
  exact .inr ⟨h1, .inr ⟨h0, i, hi, rfl, hf, h3⟩⟩
theorem RowSt.done {G : List Pk} {i : Nat} {e a : Int} (h : RowSt G i e a) (hi : i ≤ G.length) (hd : ¬ (i < G.length ∧ e = 0)) : RowR G a e := by
  rcases h with ⟨h1, rfl, rfl⟩ | ⟨h1, ⟨rfl, rfl, h3⟩ | ⟨h2, k, h3, rfl, h4, h5⟩⟩
  · exact .inl ⟨h1, rfl, rfl⟩
  · exact .inr ⟨h1, .inl ⟨rfl, rfl, fun j hj => h3 j (by
      have : ¬ i < G.length := fun q => hd ⟨q, rfl⟩
      omega)⟩⟩
  · exact .inr ⟨h1, .inr ⟨h2, k, h3, rfl, h4, h5⟩⟩
def del0 (A B : List Int) : Int := if 1000 < A.length ∨ 1000 < B.length then 4 else if A.length ≠ B.length then 3 else if A.length = 0 then 5 else 0
def DelSt (A B : List Int) (i : Nat) (e x y : Int) : Prop := (del0 A B ≠ 0 ∧ e = del0 A B) ∨ (del0 A B = 0 ∧ ((e = 0 ∧ x = minD A B i ∧ y = maxD A B i ∧ ∀ j, j < i → delF A B j = 0) ∨ (e ≠ 0 ∧ ∃ k : Nat, k < A.length ∧ delF A B k = e ∧ ∀ j, j < k → delF A B j = 0)))
theorem del0_zero {A B : List Int} (h : del0 A B = 0) : A.length ≤ 1000 ∧ B.length ≤ 1000 ∧ A.length = B.length ∧ 0 < A.length := by
  unfold del0 at h
  split at h
  · cases h
  split at h
  · cases h
  split at h
  · cases h
  omega
theorem DelSt.start (A B : List Int) : DelSt A B 0 (del0 A B) 0 0 := by
  by_cases h : del0 A B = 0
  · exact .inr ⟨h, .inl ⟨h, rfl, rfl, fun j hj => by omega⟩⟩
  · exact .inl ⟨h, rfl⟩
theorem DelSt.zero {A B : List Int} {i : Nat} {x y : Int} (h : DelSt A B i 0 x y) : del0 A B = 0 ∧ x = minD A B i ∧ y = maxD A B i ∧ ∀ j, j < i → delF A B j = 0 := by
  rcases h with ⟨h1, h2⟩ | ⟨h1, ⟨_, h2⟩ | ⟨e, _⟩⟩
  · exact absurd h2.symm h1
  · exact ⟨h1, h2⟩
  · exact absurd rfl e
theorem DelSt.next {A B : List Int} {i : Nat} {x y d f : Int} (h : DelSt A B i 0 x y) (hi : i < A.length) (hf : delF A B i = f) (hd : f = 0 → d = B.getD i 0 - A.getD i 0) : DelSt A B (i + 1) f (if i = 0 ∨ d < x then d else x) (if y < d then d else y) := by
  obtain ⟨h1, h2, h3, h4⟩ := h.zero
  refine .inr ⟨h1, ?_⟩
  by_cases h0 : f = 0
  · left
    refine ⟨h0, ?_, ?_, fun j hj => ?_⟩
    · have e := hd h0
      show _ = if i = 0 then B.getD 0 0 - A.getD 0 0 else min (minD A B i) (B.getD i 0 - A.getD i 0)
      by_cases hz : i = 0
      · rw [if_pos (.inl hz), if_pos hz, e, hz]
      · rw [if_neg hz, ← h2, ← e]
        by_cases q : d < x
        · rw [if_pos (.inr q)]; omega
        · rw [if_neg (by rintro (q2 | q2); exact hz q2; exact q q2)]; omega
    · have e := hd h0
      show _ = max (maxD A B i) (B.getD i 0 - A.getD i 0)
      rw [← h3, ← e]
      split <;> omega
    · by_cases e : j = i
      · subst e; exact hf.trans h0
      · exact h4 j (by omega)
  · exact .inr ⟨h0, i, hi, hf, h4⟩
theorem DelSt.done {A B : List Int} {i : Nat} {e x y : Int} (h : DelSt A B i e x y) (hi : i ≤ A.length) (hd : ¬ (i < A.length ∧ e = 0)) : DelayR A B (if e = 0 then x else 0) (if e = 0 then y else 0) e := by
  rcases h with ⟨h1, rfl⟩ | ⟨h1, h2⟩
  · rw [if_neg h1, if_neg h1]
    unfold del0 at h1 ⊢
    split
    · rename_i q; exact .inl ⟨q, rfl, rfl, rfl⟩
    · rename_i q
      refine .inr ⟨by omega, ?_⟩
      split
      · rename_i q2; exact .inl ⟨q2, rfl, rfl, rfl⟩
      · rename_i q2
        refine .inr ⟨by omega, ?_⟩
        split
        · rename_i q3; exact .inl ⟨q3, rfl, rfl, rfl⟩
        · rename_i q3; rw [if_neg q, if_neg q2, if_neg q3] at h1; exact absurd rfl h1
  · obtain ⟨a1, a2, a3, a4⟩ := del0_zero h1
    refine .inr ⟨⟨a1, a2⟩, .inr ⟨a3, .inr ⟨a4, ?_⟩⟩⟩
    rcases h2 with ⟨rfl, rfl, rfl, h5⟩ | ⟨h0, k, h5, h6, h7⟩
    · have : i = A.length := by
        have : ¬ i < A.length := fun q => hd ⟨q, rfl⟩
        omega
      subst this
      exact ⟨⟨0, .inl ⟨rfl, rfl, h5⟩⟩, fun h => absurd rfl h, fun _ => ⟨by simp, by simp⟩⟩
    · rw [if_neg h0, if_neg h0]
      exact ⟨⟨k, .inr ⟨h0, k, h5, rfl, h6, h7⟩⟩, fun _ => ⟨rfl, rfl⟩, fun h => absurd h h0⟩
end Pl
end Go.Proofs.YtggfhcidmnageaaDoor
