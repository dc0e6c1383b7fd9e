import Derived.Test.YthmfmnoblobcoaaBackN
/-! back.Pairs, back.Numbers: by one fault. -/
namespace Go.Proofs.Ythmfmnoblobcoaa
open Go.RowKit
set_option linter.unusedVariables false
set_option linter.unusedSimpArgs false
theorem Pl.pairF_cases (A : List Int) : (Pl.pairF A = 4 ∧ 200 < A.length) ∨ ((Pl.pairF A = 0 ∨ Pl.pairF A = 1) ∧ A.length ≤ 200) := by
  unfold Pl.pairF
  split
  · exact .inl ⟨rfl, by assumption⟩
  · split
    · exact .inr ⟨.inl rfl, by omega⟩
    · exact .inr ⟨.inr rfl, by omega⟩
theorem Pl.numF_cases (L : List Pr) : (Pl.numF L = 4 ∧ 200 < L.length) ∨ ((Pl.numF L = 0 ∨ Pl.numF L = 1) ∧ L.length ≤ 200) := by
  unfold Pl.numF
  split
  · exact .inl ⟨rfl, by assumption⟩
  · split
    · exact .inr ⟨.inl rfl, by omega⟩
    · exact .inr ⟨.inr rfl, by omega⟩
theorem Pl.pairF_all {A : List Int} (h : Pl.pairF A = 0) : ∀ n ∈ A, Pl.Seq16 n := by
  unfold Pl.pairF at h
  split at h
  · cases h
  · split at h
    · assumption
    · cases h
theorem Pl.PairsOf.num {A : List Int} {L : List Pr} (h : Pl.PairsOf (· ∈ A) L) (hA : Pl.pairF A = 0) : ∀ p ∈ L, p.Num := fun p hp => by
  obtain ⟨a1, a2, a3, -⟩ := h.ok p hp
  have := Pl.pairF_all hA _ a1
  unfold Pl.Seq16 at this
  exact ⟨⟨by omega, by omega⟩, by omega, by omega⟩
theorem backPairs_ok (v : Value) (A : List Int) (hA : Pl.pairF A = 0) (w : World) (h : Sl encI w v A) :
    Calls Try.prog 4 #[v] w fun e w' => ∃ (L : List Pr) (oa : Option Addr) (c : Nat), e = .returned (.tuple #[.slice oa L.length c, .nilIface]) ∧ IsPrs w' (.slice oa L.length c) L ∧ Pl.PairsOf (· ∈ A) L ∧ L.length ≤ A.length ∧ A.length ≤ 200 ∧ Pl.numF L = 0 ∧ Below w.heap.size w w' := by
  rcases Pl.pairF_cases A with ⟨h1, _⟩ | ⟨_, hl⟩
  · rw [hA] at h1; cases h1
  · refine (backPairs_1 v A hl w h).mono fun e w' ⟨k, hh⟩ => ?_
    rcases hh with ⟨h1, _⟩ | ⟨_, v', L, rfl, h2, h3, h4⟩
    · rw [hA] at h1; cases h1
    · have hp := prK_prs h2 (h3.num hA)
      obtain ⟨oa, c, rfl, -⟩ := prs_read hp
      exact ⟨L, oa, c, rfl, hp, h3, h4, hl, h3.fault hA h4, k⟩
theorem backPairs_bad (v : Value) (A : List Int) (hA : Pl.pairF A ≠ 0) (w : World) (h : Sl encI w v A) :
    Calls Try.prog 4 #[v] w fun e w' => e = .returned (.tuple #[.slice none 0 0, .iface 43 (.int .i64 (Pl.pairF A))]) ∧ Below w.heap.size w w' := by
  rcases Pl.pairF_cases A with ⟨h1, hl⟩ | ⟨_, hl⟩
  · exact (backPairs_full v A hl w h).mono fun e w' ⟨h2, h3⟩ => ⟨by rw [h2, h1]; rfl, h3 ▸ Below.refl _ _⟩
  · refine (backPairs_1 v A hl w h).mono fun e w' ⟨k, hh⟩ => ?_
    rcases hh with ⟨h1, h2⟩ | ⟨h1, _⟩
    · exact ⟨by rw [h2, h1]; rfl, k⟩
    · exact absurd h1 hA
theorem backNums_ok (v : Value) (L : List Pr) (hL : Pl.numF L = 0) (w : World) (h : IsPrs w v L) :
    Calls Try.prog 5 #[v] w fun e w' => ∃ (R : List Int) (oa : Option Addr) (c : Nat), e = .returned (.tuple #[.slice oa R.length c, .nilIface]) ∧ IRow w' w.heap.size (.slice oa R.length c) R ∧ Rises R ∧ (∀ i, i ∈ R ↔ i ∈ Pl.numsOf L) ∧ Below w.heap.size w w' := by
  rcases Pl.numF_cases L with ⟨h1, _⟩ | ⟨_, hl⟩
  · rw [hL] at h1; cases h1
  · refine (backNums_1 v L hl w h).mono fun e w' ⟨k, hh⟩ => ?_
    rcases hh with ⟨h1, _⟩ | ⟨_, v', rfl, R, h2, h3, h4⟩
    · rw [hL] at h1; cases h1
    · obtain ⟨oa, c, rfl, -⟩ := intRow_read h2
      exact ⟨R, oa, c, rfl, h2, h3, h4, k⟩
theorem backNums_bad (v : Value) (L : List Pr) (hL : Pl.numF L ≠ 0) (w : World) (h : IsPrs w v L) :
    Calls Try.prog 5 #[v] w fun e w' => e = .returned (.tuple #[.slice none 0 0, .iface 43 (.int .i64 (Pl.numF L))]) ∧ Below w.heap.size w w' := by
  rcases Pl.numF_cases L with ⟨h1, hl⟩ | ⟨_, hl⟩
  · exact (backNums_full v L hl w h).mono fun e w' ⟨h2, h3⟩ => ⟨by rw [h2, h1]; rfl, h3 ▸ Below.refl _ _⟩
  · refine (backNums_1 v L hl w h).mono fun e w' ⟨k, hh⟩ => ?_
    rcases hh with ⟨h1, h2⟩ | ⟨h1, _⟩
    · exact ⟨by rw [h2, h1]; rfl, k⟩
    · exact absurd h1 hL
end Go.Proofs.Ythmfmnoblobcoaa
