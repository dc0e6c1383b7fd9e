import Derived.Test.YtefhbjkhmfmkaaaDoorPVoiceB
/-! The reference's choice of who speaks, the plain law. -/
namespace Go.Proofs.YtefhbjkhmfmkaaaDoor
set_option linter.unusedVariables false
set_option linter.unusedSimpArgs false
namespace Pl
/-- where the speaker stands among the first i -/
def AtOf (N : List Vc) (sp : Int) (i : Nat) (a : Int) : Prop := (a = -1 ∧ ∀ j (h : j < N.length), j < i → N[j].who ≠ sp) ∨ ∃ j, ∃ h : j < N.length, a = (j : Int) ∧ j < i ∧ N[j].who = sp
/-- where the greatest of the first i stands -/
def BestOf (N : List Vc) (i : Nat) (c : Int) : Prop := (i = 0 ∧ c = -1) ∨ ∃ j, ∃ h : j < N.length, c = (j : Int) ∧ j < i ∧ ∀ m (h' : m < N.length), m < i → N[m].lvl ≤ N[j].lvl ∧ (m < j → N[m].lvl < N[j].lvl)
theorem AtOf.start (N : List Vc) (sp : Int) : AtOf N sp 0 (-1) := .inl ⟨rfl, fun j h hj => by omega⟩
theorem BestOf.start (N : List Vc) : BestOf N 0 (-1) := .inl ⟨rfl, rfl⟩
theorem AtOf.hit {N : List Vc} {sp : Int} {i : Nat} (hi : i < N.length) (h : N[i].who = sp) : AtOf N sp (i + 1) (i : Int) := .inr ⟨i, hi, rfl, by omega, h⟩
theorem AtOf.miss {N : List Vc} {sp a : Int} {i : Nat} (H : AtOf N sp i a) (hi : i < N.length) (h : N[i].who ≠ sp) : AtOf N sp (i + 1) a := by
  rcases H with ⟨rfl, H⟩ | ⟨j, hj, rfl, h1, h2⟩
  · refine .inl ⟨rfl, fun j hj hji => ?_⟩
    by_cases e : j = i
    · subst e; exact h
    · exact H j hj (by omega)
  · exact .inr ⟨j, hj, rfl, by omega, h2⟩
theorem BestOf.first {N : List Vc} (hi : 0 < N.length) : BestOf N 1 0 := .inr ⟨0, hi, rfl, by omega, fun m hm h1 => by
  obtain rfl : m = 0 := by omega
  exact ⟨Int.le_refl _, fun h => by omega⟩⟩
theorem BestOf.new {N : List Vc} {i j : Nat} (H : BestOf N i (j : Int)) (hi : i < N.length) (hj : j < N.length) (h : N[j].lvl < N[i].lvl) : BestOf N (i + 1) (i : Int) := by
  rcases H with ⟨-, e⟩ | ⟨j', hj', e, h1, h2⟩
  · omega
  · obtain rfl : j = j' := by omega
    refine .inr ⟨i, hi, rfl, by omega, fun m hm hmi => ?_⟩
    by_cases e : m = i
    · subst e; exact ⟨Int.le_refl _, fun h => by omega⟩
    · have := (h2 m hm (by omega)).1
      exact ⟨by omega, fun _ => by omega⟩
theorem BestOf.old {N : List Vc} {i j : Nat} (H : BestOf N i (j : Int)) (hi : i < N.length) (hj : j < N.length) (h : ¬ N[j].lvl < N[i].lvl) : BestOf N (i + 1) (j : Int) := by
  rcases H with ⟨-, e⟩ | ⟨j', hj', e, h1, h2⟩
  · omega
  · obtain rfl : j = j' := by omega
    refine .inr ⟨j, hj, rfl, by omega, fun m hm hmi => ?_⟩
    by_cases e : m = i
    · subst e; exact ⟨by omega, fun h => by omega⟩
    · exact h2 m hm (by omega)
/-- the greatest is the head of the sorted ones -/
theorem BestOf.head {f : Sco} {N R : List Vc} {j : Nat} (hm : ∀ who lv, (⟨who, lv⟩ : Vc) ∈ N ↔ f who = some lv) (hr : N.Pairwise fun x y => x.who < y.who) (hR : SortedOf f R) (H : BestOf N N.length (j : Int)) (hj : j < N.length) : ∃ r, R = N[j] :: r := by
  rcases H with ⟨e, -⟩ | ⟨j', hj', e, h1, h2⟩
  · omega
  obtain rfl : j = j' := by omega
  have hin : N[j] ∈ R := (hR.2 N[j].who N[j].lvl).2 ((hm _ _).1 (List.getElem_mem hj))
  cases R with
  | nil => cases hin
  | cons b r =>
    refine ⟨r, ?_⟩
    rcases List.mem_cons.1 hin with q | q
    · rw [q]
    · exfalso
      have hb : b ∈ N := (hm b.who b.lvl).2 ((hR.2 b.who b.lvl).1 (by simp))
      obtain ⟨m, hmm, rfl⟩ := List.getElem_of_mem hb
      have h3 := (List.pairwise_cons.1 hR.1).1 _ q
      have h4 := h2 m hmm hmm
      unfold vBef at h3
      rcases Nat.lt_trichotomy m j with e | e | e
      · have := h4.2 e; omega
      · subst e; omega
      · have := (List.pairwise_iff_getElem.1 hr) j m hj hmm e; omega
/-- nobody is left -/
theorem next_none {f : Sco} {N R : List Vc} {sp : Int} (hm : ∀ who lv, (⟨who, lv⟩ : Vc) ∈ N ↔ f who = some lv) (hR : SortedOf f R) (h0 : N.length = 0) : nextSp f R sp = -1 := by
  have hn : N = [] := List.length_eq_zero_iff.1 h0
  subst hn
  have hf : ∀ i, f i = none := fun i => by
    cases e : f i with
    | none => rfl
    | some s => exact absurd ((hm i s).2 e) (by simp)
  obtain rfl := hR.eq (SortedOf.empty hf)
  unfold nextSp
  rw [if_neg (by rw [hf]; simp)]
/-- the speaker is gone -/
theorem next_gone {f : Sco} {N R : List Vc} {sp : Int} {j : Nat} (hm : ∀ who lv, (⟨who, lv⟩ : Vc) ∈ N ↔ f who = some lv) (hr : N.Pairwise fun x y => x.who < y.who) (hR : SortedOf f R) (hB : BestOf N N.length (j : Int)) (hj : j < N.length) (hA : AtOf N sp N.length (-1)) : nextSp f R sp = N[j].who := by
  obtain ⟨r, rfl⟩ := hB.head hm hr hR hj
  have : f sp = none := by
    cases e : f sp with
    | none => rfl
    | some s =>
      obtain ⟨m, hmm, h⟩ := List.getElem_of_mem ((hm sp s).2 e)
      rcases hA with ⟨-, hA⟩ | ⟨j', _, e', _⟩
      · exact absurd (by rw [h]) (hA m hmm hmm)
      · omega
  unfold nextSp
  simp only [this]
/-- the speaker is still there -/
theorem next_still {f : Sco} {N R : List Vc} {sp : Int} {j m : Nat} (hm : ∀ who lv, (⟨who, lv⟩ : Vc) ∈ N ↔ f who = some lv) (hr : N.Pairwise fun x y => x.who < y.who) (hR : SortedOf f R) (hB : BestOf N N.length (j : Int)) (hj : j < N.length) (hA : AtOf N sp N.length (m : Int)) (hmm : m < N.length) : nextSp f R sp = if N[m].lvl + 200 < N[j].lvl then N[j].who else sp := by
  obtain ⟨r, rfl⟩ := hB.head hm hr hR hj
  have : f sp = some N[m].lvl := by
    rcases hA with ⟨e, -⟩ | ⟨m', hm', e, -, h⟩
    · omega
    · obtain rfl : m = m' := by omega
      rw [← h]
      exact (hm _ _).1 (List.getElem_mem hmm)
  unfold nextSp
  simp only [this]
end Pl
end Go.Proofs.YtefhbjkhmfmkaaaDoor
