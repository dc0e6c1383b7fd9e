import Derived.Test.YtmmfnalcdekkbaaDoorPTree
/-! Trees, the plain law: ways from the top down. -/
namespace Go.Proofs.YtmmfnalcdekkbaaDoor
set_option linter.unusedVariables false
set_option linter.unusedSimpArgs false
namespace Pl
theorem upL_zero (P : Nat → Int) (f : Nat) (x : Int) (h : 0 ≤ x) : (upL P (f + 1) x).getD 0 0 = x := by rw [upL, if_neg (by omega)]; rfl
theorem upL_step (P : Nat → Int) : ∀ (f : Nat) (x : Int) (i : Nat), i + 1 < (upL P f x).length → (upL P f x).getD (i + 1) 0 = P ((upL P f x).getD i 0).toNat := by
  intro f
  induction f with
  | zero => intro x i h; simp [upL] at h
  | succ f ih =>
    intro x i h
    unfold upL at h ⊢
    by_cases hx : x < 0
    · rw [if_pos hx] at h; simp at h
    · rw [if_neg hx] at h ⊢
      rw [List.length_cons] at h
      cases i with
      | zero =>
        cases f with
        | zero => simp [upL] at h
        | succ f =>
          unfold upL at h ⊢
          by_cases hy : P x.toNat < 0
          · rw [if_pos hy] at h; simp at h
          · rw [if_neg hy]; rfl
      | succ i =>
        have := ih (P x.toNat) i (by omega)
        simpa using this
theorem upL_last (P : Nat → Int) : ∀ (f : Nat) (x : Int), 0 ≤ x → (upL P f x).length < f → P ((upL P f x).getD ((upL P f x).length - 1) 0).toNat < 0 := by
  intro f
  induction f with
  | zero => intro x _ h; omega
  | succ f ih =>
    intro x hx h
    unfold upL at h ⊢
    rw [if_neg (by omega)] at h ⊢
    rw [List.length_cons] at h ⊢
    by_cases hy : P x.toNat < 0
    · rw [upL_neg _ _ _ hy]; simpa using hy
    · have := ih (P x.toNat) (by omega) (by omega)
      have hl : 0 < (upL P f (P x.toNat)).length := by
        cases f with
        | zero => simp [upL] at h
        | succ f => unfold upL; rw [if_neg hy]; simp
      obtain ⟨m, hm⟩ : ∃ m, (upL P f (P x.toNat)).length = m + 1 := ⟨_, (Nat.succ_pred_eq_of_pos hl).symm⟩
      rw [hm] at this ⊢
      simpa using this
theorem upL_rng (P : Nat → Int) (n : Nat) (hP : ∀ i, i < n → P i < n) : ∀ (f : Nat) (x : Int), x < n → ∀ y ∈ upL P f x, 0 ≤ y ∧ y < n := by
  intro f
  induction f with
  | zero => intro x _ y h; simp [upL] at h
  | succ f ih =>
    intro x hx y h
    unfold upL at h
    by_cases hy : x < 0
    · rw [if_pos hy] at h; simp at h
    · rw [if_neg hy] at h
      rcases List.mem_cons.1 h with rfl | h
      · omega
      · exact ih _ (hP _ (by omega)) y h
theorem upL_congr (P Q : Nat → Int) (n : Nat) (hP : ∀ i, i < n → P i < n) (hPQ : ∀ i, i < n → P i = Q i) : ∀ (f : Nat) (x : Int), x < n → upL P f x = upL Q f x := by
  intro f
  induction f with
  | zero => intro x _; rfl
  | succ f ih =>
    intro x hx
    unfold upL
    by_cases hy : x < 0
    · rw [if_pos hy, if_pos hy]
    · rw [if_neg hy, if_neg hy, ← hPQ _ (by omega), ih _ (hP _ (by omega))]
theorem up_short {n root : Nat} {C : Nat → Nat → Int} {D P : Nat → Int} (hC : COk n C) (hD : Dj n root C D) (hP : Par n root C D P) : ∀ (f : Nat) (x : Nat), x < n → 0 ≤ D x → (upL P f x).length ≤ cnt (fun i => decide (0 ≤ D i ∧ D i < D x)) n + 1 := by
  intro f
  induction f with
  | zero => intro x _ _; simp [upL]
  | succ f ih =>
    intro x hx h0
    unfold upL
    rw [if_neg (by omega), List.length_cons]
    simp only [Int.toNat_natCast]
    rcases hP.up hC hD x hx with ⟨_, h⟩ | ⟨k, h1, h2, h3, h4, h5, h6, h7⟩
    · rw [h, upL_neg _ _ _ (by omega)]; simp
    · rw [h1]
      have a := ih k h2 h4
      have b := cnt_lt (p := fun i => decide (0 ≤ D i ∧ D i < D k)) (q := fun i => decide (0 ≤ D i ∧ D i < D x)) n (fun i _ hi => by simp at hi ⊢; omega) k h2 (by simp) (by simp; omega)
      omega
theorem up_len {n root : Nat} {C : Nat → Nat → Int} {D P : Nat → Int} (hC : COk n C) (hD : Dj n root C D) (hP : Par n root C D P) (f x : Nat) (hx : x < n) : (upL P f x).length ≤ n := by
  by_cases h0 : 0 ≤ D x
  · have a := up_short hC hD hP f x hx h0
    have b := cnt_lt_n (p := fun i => decide (0 ≤ D i ∧ D i < D x)) n x hx (by simp)
    omega
  · cases f with
    | zero => simp [upL]
    | succ f =>
      unfold upL
      rw [if_neg (by omega), List.length_cons]
      simp only [Int.toNat_natCast]
      rcases hP.up hC hD x hx with ⟨_, h⟩ | ⟨k, h1, h2, h3, h4, h5, h6, h7⟩
      · rw [h, upL_neg _ _ _ (by omega)]; simp; omega
      · omega
/-- a way from the top down to a node -/
structure Way (n root : Nat) (C : Nat → Nat → Int) (D P : Nat → Int) (node : Nat) (W : List Int) : Prop where
  pos : 0 < W.length
  len : W.length ≤ n
  rng : ∀ i, i < W.length → 0 ≤ W.getD i 0 ∧ W.getD i 0 < n
  last : W.getD (W.length - 1) 0 = node
  step : ∀ i, i + 1 < W.length → P (W.getD (i + 1) 0).toNat = W.getD i 0 ∧ 0 < C (W.getD i 0).toNat (W.getD (i + 1) 0).toNat ∧ 0 ≤ D (W.getD i 0).toNat ∧ D (W.getD i 0).toNat + C (W.getD i 0).toNat (W.getD (i + 1) 0).toNat = D (W.getD (i + 1) 0).toNat
  top : (0 ≤ D node → W.getD 0 0 = root) ∧ (D node < 0 → W.length = 1)
theorem getD_rev (U : List Int) (i : Nat) (h : i < U.length) : U.reverse.getD i 0 = U.getD (U.length - 1 - i) 0 := by
  rw [List.getD, List.getD, List.getElem?_reverse h]
theorem way_of {n root : Nat} {C : Nat → Nat → Int} {D P : Nat → Int} (hC : COk n C) (hD : Dj n root C D) (hP : Par n root C D P) (x : Nat) (hx : x < n) : Way n root C D P x (upL P (n + 1) x).reverse := by
  have hlo : ∀ i, i < n → P i < n := fun i hi => by
    rcases hP.up hC hD i hi with ⟨_, h⟩ | ⟨k, h1, h2, _⟩ <;> omega
  have hl := up_len hC hD hP (n + 1) x hx
  have h0 := upL_zero P n x (by omega)
  have hst := upL_step P (n + 1) x
  have hla := upL_last P (n + 1) x (by omega) (by omega)
  have hrg := upL_rng P n hlo (n + 1) x (by omega)
  have hpos : 0 < (upL P (n + 1) x).length := by unfold upL; rw [if_neg (by omega)]; simp
  obtain ⟨U, hU⟩ : ∃ U, upL P (n + 1) x = U := ⟨_, rfl⟩
  rw [hU] at hl h0 hst hla hrg hpos ⊢
  have hr : ∀ i, i < U.length → 0 ≤ U.getD i 0 ∧ U.getD i 0 < n := fun i hi => by
    have e : U.getD i 0 = U[i] := by simp [List.getD, hi]
    rw [e]; exact hrg _ (List.getElem_mem hi)
  -- along the way up all are reached, if the first one is
  have hd : ∀ i, i < U.length → (0 ≤ D x ∨ 0 < i) → 0 ≤ D (U.getD i 0).toNat := by
    intro i
    induction i with
    | zero => intro _ h; rcases h with h | h
              · rw [h0]; simpa using h
              · omega
    | succ i ih =>
      intro hi _
      have e := hst i hi
      have r := hr i (by omega)
      have r2 := hr (i + 1) hi
      rcases hP.up hC hD (U.getD i 0).toNat (by omega) with ⟨_, h⟩ | ⟨k, h1, h2, h3, h4, h5, h6, h7⟩
      · rw [h] at e; omega
      · rw [h1] at e; rw [e]; simpa using h4
  refine ⟨by simpa using hpos, by simpa using hl, fun i hi => ?_, ?_, fun i hi => ?_, fun h => ?_, fun h => ?_⟩
  · rw [List.length_reverse] at hi
    rw [getD_rev U i hi]; exact hr _ (by omega)
  · rw [List.length_reverse, getD_rev U _ (by omega), show U.length - 1 - (U.length - 1) = 0 by omega]; exact h0
  · rw [List.length_reverse] at hi
    rw [getD_rev U i (by omega), getD_rev U (i + 1) hi]
    obtain ⟨j, hj⟩ : ∃ j, U.length - 1 - (i + 1) = j := ⟨_, rfl⟩
    rw [hj, show U.length - 1 - i = j + 1 by omega]
    have e := hst j (by omega)
    have r := hr j (by omega)
    have r2 := hr (j + 1) (by omega)
    rcases hP.up hC hD (U.getD j 0).toNat (by omega) with ⟨_, h⟩ | ⟨k, h1, h2, h3, h4, h5, h6, h7⟩
    · rw [h] at e; omega
    · rw [e, h1]
      simp only [Int.toNat_natCast]
      exact ⟨trivial, h6, h4, h7⟩
  · rw [getD_rev U 0 hpos, Nat.sub_zero]
    have r := hr (U.length - 1) (by omega)
    have d := hd (U.length - 1) (by omega) (.inl h)
    rcases hP.up hC hD (U.getD (U.length - 1) 0).toNat (by omega) with ⟨h1 | h1, _⟩ | ⟨k, h1, h2, h3, h4, h5, h6, h7⟩
    · omega
    · omega
    · omega
  · rw [List.length_reverse]
    by_cases e : U.length = 1
    · exact e
    · have := hd 1 (by omega) (.inr (by omega))
      have e := hst 0 (by omega)
      rw [h0] at e
      simp only [Int.toNat_natCast] at e
      rcases hP.up hC hD x hx with ⟨_, h⟩ | ⟨k, h1, h2, h3, h4, h5, h6, h7⟩
      · have := hr 1 (by omega); rw [e, h] at this; omega
      · omega
end Pl
end Go.Proofs.YtmmfnalcdekkbaaDoor
