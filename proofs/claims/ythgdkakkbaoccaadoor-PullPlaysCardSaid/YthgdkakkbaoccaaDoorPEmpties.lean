import Derived.Test.YthgdkakkbaoccaaDoorPullWho
import Derived.Test.YthgdkakkbaoccaaDoorPNeeds
/-! What the law PullEmpties keeps of its track; plain. -/
namespace Go.Proofs.YthgdkakkbaoccaaDoor
open Go.RowKit Go.Maps
set_option linter.unusedVariables false
set_option linter.unusedSimpArgs false
theorem need_is (g : Int → Option Int) (h0 : ∀ i x, g i = some x → 0 ≤ x ∧ x ≤ 3) : ∃ n, IsNeed g n ∧ n ≤ 3 ∧ (n = -1 ↔ ∀ i, g i = none) := by
  have up : ∀ (n : Int), -1 ≤ n → n ≤ 3 → (∀ m, n < m → m ≤ 3 → ¬ ∃ i, g i = some m) → ∀ i x, g i = some x → x ≤ n := fun n h1 h2 h i x hx => by
    have := h0 i x hx
    by_cases e : n < x
    · exact absurd ⟨i, hx⟩ (h x e this.2)
    · omega
  have hit : ∀ (n : Int), 0 ≤ n → n ≤ 3 → (∃ i, g i = some n) → (∀ m, n < m → m ≤ 3 → ¬ ∃ i, g i = some m) → ∃ n, IsNeed g n ∧ n ≤ 3 ∧ (n = -1 ↔ ∀ i, g i = none) := fun n h1 h2 hx h => by
    refine ⟨n, ⟨by omega, up n (by omega) h2 h, .inr hx⟩, h2, fun e => by omega, fun e => ?_⟩
    obtain ⟨i, hi⟩ := hx
    rw [e i] at hi; cases hi
  by_cases h3 : ∃ i, g i = some 3
  · exact hit 3 (by omega) (by omega) h3 (fun m a b => by omega)
  by_cases h2 : ∃ i, g i = some 2
  · exact hit 2 (by omega) (by omega) h2 (fun m a b => by obtain rfl : m = 3 := by omega
                                                          exact h3)
  by_cases h1 : ∃ i, g i = some 1
  · exact hit 1 (by omega) (by omega) h1 (fun m a b => by
      have : m = 2 ∨ m = 3 := by omega
      rcases this with rfl | rfl
      · exact h2
      · exact h3)
  by_cases h4 : ∃ i, g i = some 0
  · exact hit 0 (by omega) (by omega) h4 (fun m a b => by
      have : m = 1 ∨ m = 2 ∨ m = 3 := by omega
      rcases this with rfl | rfl | rfl
      · exact h1
      · exact h2
      · exact h3)
  have no : ∀ i, g i = none := fun i => by
    cases e : g i with
    | none => rfl
    | some x =>
      have := h0 i x e
      have : x = 0 ∨ x = 1 ∨ x = 2 ∨ x = 3 := by omega
      rcases this with rfl | rfl | rfl | rfl
      · exact absurd ⟨i, e⟩ h4
      · exact absurd ⟨i, e⟩ h1
      · exact absurd ⟨i, e⟩ h2
      · exact absurd ⟨i, e⟩ h3
  exact ⟨-1, ⟨by omega, fun i x h => (by rw [no i] at h; cases h), .inl rfl⟩, by omega, fun _ => no, fun _ => rfl⟩
/-- one track alone is wanted -/
structure Emp (t : Nat) (many : Nat) (C : Nat → Nat) (F : Nat → Int → Option Int) : Prop where
  oth : ∀ j, j ≠ t → ∀ i, F j i = none
  bnd : ∀ j i x, F j i = some x → 0 ≤ x ∧ x ≤ 3
  rgt : ∀ i, (F t i).isSome = true → Pl.rightOk i t
  le : C t ≤ many
  pos : 0 < many → 0 < C t
theorem Emp.start (t : Nat) : Emp t 0 (fun _ => 0) (fun _ _ => none) := ⟨fun _ _ _ => rfl, fun _ _ _ h => (by cases h), fun _ h => (by cases h), Nat.le_refl _, fun h => h⟩
theorem Emp.want {t many : Nat} {C : Nat → Nat} {F : Nat → Int → Option Int} (h : Emp t many C F) (who lay : Int) (hr : Pl.rightOk who t) (hl : 0 ≤ lay ∧ lay ≤ 3) (hc : (F t who).isSome = true → 0 < C t) : Emp t (many + 1) (wantC C F t who) (wantF F t who lay) := by
  refine ⟨fun j hj i => ?_, fun j i x hx => ?_, fun i hi => ?_, ?_, fun _ => ?_⟩
  · unfold wantF; rw [if_neg hj]; exact h.oth j hj i
  · unfold wantF at hx
    split at hx
    · dsimp only at hx; split at hx
      · cases hx; exact hl
      · exact h.bnd t i x hx
    · exact h.bnd j i x hx
  · unfold wantF at hi
    rw [if_pos rfl] at hi
    try dsimp only at hi
    split at hi
    · rename_i e; subst e; exact hr
    · exact h.rgt i hi
  · have := h.le
    unfold wantC; rw [if_pos rfl]; split <;> omega
  · unfold wantC; rw [if_pos rfl]
    split
    · rename_i e; exact hc e
    · omega
/-- .. and given up, one by one -/
structure Dr (t : Nat) (S : List Int) (k : Nat) (C : Nat → Nat) (F : Nat → Int → Option Int) : Prop where
  oth : ∀ j, j ≠ t → ∀ i, F j i = none
  bnd : ∀ j i x, F j i = some x → 0 ≤ x ∧ x ≤ 3
  mem : ∀ i, (F t i).isSome = true ↔ i ∈ S.drop k
  cnt : C t = S.length - k
theorem Dr.at_ {t : Nat} {S : List Int} {k : Nat} {C : Nat → Nat} {F : Nat → Int → Option Int} (h : Dr t S k C F) (hk : k < S.length) : ∃ lay, F t S[k] = some lay := by
  have := (h.mem S[k]).2 (by rw [List.drop_eq_getElem_cons hk]; exact .head _)
  cases e : F t S[k] with
  | none => rw [e] at this; cases this
  | some x => exact ⟨x, rfl⟩
theorem dropF_gone (F : Nat → Int → Option Int) (t : Nat) (who : Int) : dropF F t who t who = none := by unfold dropF; rw [if_pos rfl, if_pos rfl]
theorem Dr.drop {t : Nat} {S : List Int} {k : Nat} {C : Nat → Nat} {F : Nat → Int → Option Int} (h : Dr t S k C F) (hS : Rises S) (hk : k < S.length) : Dr t S (k + 1) (dropC C t) (dropF F t S[k]) := by
  have e := List.drop_eq_getElem_cons hk
  refine ⟨fun j hj i => ?_, fun j i x hx => ?_, fun i => ?_, ?_⟩
  · unfold dropF; rw [if_neg hj]; exact h.oth j hj i
  · unfold dropF at hx
    split at hx
    · dsimp only at hx; split at hx
      · cases hx
      · exact h.bnd t i x hx
    · exact h.bnd j i x hx
  · unfold dropF; rw [if_pos rfl]
    try dsimp only
    have hp : (S.drop k).Pairwise (fun x y => x < y) := hS.sublist (List.drop_sublist k S)
    rw [e] at hp
    have hlt := (List.pairwise_cons.1 hp).1
    by_cases ei : i = S[k]
    · rw [if_pos ei]
      constructor
      · intro x; cases x
      · intro x; have := hlt i x; omega
    · rw [if_neg ei, h.mem i, e, List.mem_cons]
      constructor
      · rintro (x | x)
        · exact absurd x ei
        · exact x
      · exact .inr
  · have := h.cnt
    unfold dropC; rw [if_pos rfl]; omega
/-- what has changed: the one track -/
def oneNeed (t : Nat) (n : Int) : Nat → Int := fun j => if j = t then n else -1
theorem chg_len (t : Nat) (h1 : 1 ≤ t) (h2 : t ≤ 8) (n : Int) : (chgL (oneNeed t n) (fun _ => 0) 9).length = if n + 1 = 0 then 0 else 1 := by
  have : t = 1 ∨ t = 2 ∨ t = 3 ∨ t = 4 ∨ t = 5 ∨ t = 6 ∨ t = 7 ∨ t = 8 := by omega
  rcases this with rfl | rfl | rfl | rfl | rfl | rfl | rfl | rfl <;> by_cases h : n + 1 = 0 <;> simp [chgL, oneNeed, List.range_succ, h]
theorem chg_len2 (t : Nat) (h1 : 1 ≤ t) (h2 : t ≤ 8) (n : Int) : (chgL (fun _ => -1) (toldN (oneNeed t n) (fun _ => 0) 9) 9).length = if n + 1 = 0 then 0 else 1 := by
  have : t = 1 ∨ t = 2 ∨ t = 3 ∨ t = 4 ∨ t = 5 ∨ t = 6 ∨ t = 7 ∨ t = 8 := by omega
  rcases this with rfl | rfl | rfl | rfl | rfl | rfl | rfl | rfl 
  all_goals
    by_cases h : n + 1 = 0
    · simp [chgL, toldN, oneNeed, List.range_succ, h]
    · have h' : ¬ 0 = n + 1 := fun e => h e.symm
      simp [chgL, toldN, oneNeed, List.range_succ, h, h']
end Go.Proofs.YthgdkakkbaoccaaDoor
