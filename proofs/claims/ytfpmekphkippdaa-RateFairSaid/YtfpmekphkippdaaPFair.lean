import Derived.Sort.LotA
/-! The plain law of rate.Fair. No program in sight. -/
namespace Go.Proofs.Ytfpmekphkippdaa
open Go.Sort
set_option linter.unusedVariables false
set_option linter.unusedSimpArgs false
namespace Pl
/-- all get what they want, but no more than s; the first ones of those who want more get one more -/
def fairGo (s : Int) : Int → List Int → List Int
  | _, [] => []
  | left, a :: A => if s < a then (if 0 < left then (s + 1) :: fairGo s (left - 1) A else s :: fairGo s left A) else a :: fairGo s left A
def sumMin (s : Int) : List Int → Int
  | [] => 0
  | a :: A => (if s < a then s else a) + sumMin s A
def over (s : Int) : List Int → Int
  | [] => 0
  | a :: A => (if s < a then 1 else 0) + over s A
def tot : List Int → Int
  | [] => 0
  | a :: A => a + tot A
/-- how all is shared -/
structure FairS (A : List Int) (T s left : Int) : Prop where
  s0 : 0 ≤ s
  sum : left + sumMin s A = T
  l0 : 0 ≤ left
  lt : over s A = 0 ∨ left < over s A
theorem fairGo_len (s : Int) : ∀ (A : List Int) (left : Int), (fairGo s left A).length = A.length
  | [], _ => rfl
  | a :: A, left => by
    unfold fairGo
    split
    · split <;> simp [fairGo_len s A]
    · simp [fairGo_len s A]
theorem fairGo_at (s : Int) : ∀ (A : List Int) (left : Int) (i : Nat) (h : i < A.length) (h' : i < (fairGo s left A).length), (A[i] ≤ s ∧ (fairGo s left A)[i] = A[i]) ∨ (s < A[i] ∧ ((fairGo s left A)[i] = s ∨ (fairGo s left A)[i] = s + 1))
  | [], _, i, h, _ => by simp at h
  | a :: A, left, 0, _, h' => by
    unfold fairGo
    by_cases q : s < a
    · by_cases q2 : 0 < left
      · simp [q, q2]
      · simp [q, q2]
    · simp [q]; omega
  | a :: A, left, i + 1, h, h' => by
    have hi : i < A.length := by simpa using h
    by_cases q : s < a
    · by_cases q2 : 0 < left
      · have := fairGo_at s A (left - 1) i hi (by rw [fairGo_len]; exact hi)
        simpa [fairGo, q, q2] using this
      · have := fairGo_at s A left i hi (by rw [fairGo_len]; exact hi)
        simpa [fairGo, q, q2] using this
    · have := fairGo_at s A left i hi (by rw [fairGo_len]; exact hi)
      simpa [fairGo, q] using this
theorem over_nonneg (s : Int) : ∀ A : List Int, 0 ≤ over s A
  | [] => Int.le_refl _
  | a :: A => by have := over_nonneg s A; unfold over; split <;> omega
theorem fairGo_sum (s : Int) : ∀ (A : List Int) (left : Int), 0 ≤ left → left ≤ over s A → tot (fairGo s left A) = sumMin s A + left
  | [], left, h0, h => by simp only [over] at h; simp only [fairGo, tot, sumMin]; omega
  | a :: A, left, h0, h => by
    unfold fairGo sumMin
    unfold over at h
    by_cases q : s < a
    · rw [if_pos q] at h
      rw [if_pos q, if_pos q]
      by_cases q2 : 0 < left
      · rw [if_pos q2]
        unfold tot
        rw [fairGo_sum s A (left - 1) (by omega) (by omega)]; omega
      · rw [if_neg q2]
        unfold tot
        rw [fairGo_sum s A left h0 (by have := over_nonneg s A; omega)]; omega
    · rw [if_neg q] at h
      rw [if_neg q, if_neg q]
      unfold tot
      rw [fairGo_sum s A left h0 (by omega)]; omega
theorem fairGo_all (s : Int) : ∀ (A : List Int) (left : Int), over s A = 0 → fairGo s left A = A
  | [], _, _ => rfl
  | a :: A, left, h => by
    unfold over at h
    have := over_nonneg s A
    by_cases q : s < a
    · rw [if_pos q] at h; omega
    · rw [if_neg q] at h
      unfold fairGo
      rw [if_neg q, fairGo_all s A left (by omega)]
theorem sumMin_all (s : Int) : ∀ (A : List Int), over s A = 0 → sumMin s A = tot A
  | [], _ => rfl
  | a :: A, h => by
    unfold over at h
    have := over_nonneg s A
    by_cases q : s < a
    · rw [if_pos q] at h; omega
    · rw [if_neg q] at h
      unfold sumMin tot
      rw [if_neg q, sumMin_all s A (by omega)]
theorem over_pos {s : Int} : ∀ {A : List Int} {i : Nat} (h : i < A.length), s < A[i] → 0 < over s A
  | [], i, h, _ => by simp at h
  | a :: A, 0, _, q => by have := over_nonneg s A; unfold over; simp at q; rw [if_pos q]; omega
  | a :: A, i + 1, h, q => by
    have := over_pos (A := A) (i := i) (by simpa using h) (by simpa using q)
    unfold over; split <;> omega
/-- RateFair's own question -/
theorem FairS.fair {A : List Int} {T s left : Int} (h : FairS A T s left) (hA : ∀ x ∈ A, 0 ≤ x) : (∀ (i : Nat) (hi : i < A.length) (hi' : i < (fairGo s left A).length), 0 ≤ (fairGo s left A)[i] ∧ (fairGo s left A)[i] ≤ A[i]) ∧ tot (fairGo s left A) ≤ T ∧
    (∀ (i : Nat) (hi : i < A.length) (hi' : i < (fairGo s left A).length), (fairGo s left A)[i] ≠ A[i] → tot (fairGo s left A) = T ∧ ∀ (k : Nat) (hk : k < (fairGo s left A).length), (fairGo s left A)[k] ≤ (fairGo s left A)[i] + 1) := by
  have s0 := h.s0
  have l0 := h.l0
  have hsum := h.sum
  refine ⟨fun i hi hi' => ?_, ?_, fun i hi hi' hne => ?_⟩
  · have := hA _ (List.getElem_mem hi)
    rcases fairGo_at s A left i hi hi' with ⟨a, b⟩ | ⟨a, b | b⟩ <;> omega
  · rcases h.lt with q | q
    · rw [fairGo_all s A left q, ← sumMin_all s A q]; omega
    · rw [fairGo_sum s A left l0 (by omega)]; omega
  · have q1 : s < A[i] ∧ ((fairGo s left A)[i] = s ∨ (fairGo s left A)[i] = s + 1) := by
      rcases fairGo_at s A left i hi hi' with ⟨a, b⟩ | q
      · exact absurd b hne
      · exact q
    have q2 := over_pos hi q1.1
    have q3 : left < over s A := by rcases h.lt with q | q <;> omega
    refine ⟨by rw [fairGo_sum s A left l0 (by omega)]; omega, fun k hk => ?_⟩
    have hk' : k < A.length := by rw [fairGo_len] at hk; exact hk
    rcases fairGo_at s A left k hk' hk with ⟨a, b⟩ | ⟨a, b | b⟩ <;> omega
theorem sumMin_perm {s : Int} {A B : List Int} (h : A.Perm B) : sumMin s A = sumMin s B := by
  induction h with
  | nil => rfl
  | cons x _ ih => unfold sumMin; rw [ih]
  | swap x y l => simp only [sumMin]; omega
  | trans _ _ ih1 ih2 => rw [ih1, ih2]
theorem over_perm {s : Int} {A B : List Int} (h : A.Perm B) : over s A = over s B := by
  induction h with
  | nil => rfl
  | cons x _ ih => unfold over; rw [ih]
  | swap x y l => simp only [over]; omega
  | trans _ _ ih1 ih2 => rw [ih1, ih2]
theorem sumMin_append (s : Int) : ∀ A B : List Int, sumMin s (A ++ B) = sumMin s A + sumMin s B
  | [], B => by simp [sumMin]
  | a :: A, B => by simp only [List.cons_append, sumMin]; rw [sumMin_append s A B]; omega
theorem over_append (s : Int) : ∀ A B : List Int, over s (A ++ B) = over s A + over s B
  | [], B => by simp [over]
  | a :: A, B => by simp only [List.cons_append, over]; rw [over_append s A B]; omega
theorem tot_append : ∀ A B : List Int, tot (A ++ B) = tot A + tot B
  | [], B => by simp [tot]
  | a :: A, B => by simp only [List.cons_append, tot]; rw [tot_append A B]; omega
theorem low_all {s : Int} : ∀ {A : List Int}, (∀ x ∈ A, x ≤ s) → over s A = 0 ∧ sumMin s A = tot A
  | [], _ => ⟨rfl, rfl⟩
  | a :: A, h => by
    have h1 := h a (by simp)
    obtain ⟨h2, h3⟩ := low_all (A := A) fun x hx => h x (by simp [hx])
    unfold over sumMin tot
    rw [if_neg (by omega), if_neg (by omega), h2, h3]
    exact ⟨rfl, rfl⟩
theorem high_all {s : Int} : ∀ {A : List Int}, (∀ x ∈ A, s < x) → over s A = A.length ∧ sumMin s A = s * A.length
  | [], _ => ⟨rfl, by simp [sumMin]⟩
  | a :: A, h => by
    have h1 := h a (by simp)
    obtain ⟨h2, h3⟩ := high_all (A := A) fun x hx => h x (by simp [hx])
    unfold over sumMin
    rw [if_pos h1, if_pos h1, h2, h3, List.length_cons]
    refine ⟨by omega, ?_⟩
    rw [show ((A.length + 1 : Nat) : Int) = (A.length : Int) + 1 by omega, Int.mul_add, Int.mul_one]; omega
/-- the least ones have been served -/
structure Served (K : List Int) (T : Int) (at' : Nat) (left : Int) : Prop where
  sum : left + tot (K.take at') = T
  l0 : 0 ≤ left
  low : ∀ x ∈ K.take at', x * ((K.length : Int) - at') ≤ left
theorem Served.start (K : List Int) (T : Int) (h : 0 ≤ T) : Served K T 0 T := ⟨by simp [tot], h, by simp⟩
theorem share_le {left m x : Int} (hm : 0 < m) (hl : 0 ≤ left) : x ≤ left / m ↔ x * m ≤ left := Int.le_ediv_iff_mul_le hm
theorem Served.step {K : List Int} {T left : Int} {a : Nat} (h : Served K T a left) (ha : a < K.length) (h0 : 0 ≤ K[a]) (hk : K[a] ≤ left / ((K.length : Int) - a)) : Served K T (a + 1) (left - K[a]) := by
  have hm : (0 : Int) < (K.length : Int) - a := by omega
  have q := (share_le hm h.l0).1 hk
  have ht : K.take (a + 1) = K.take a ++ [K[a]] := by rw [List.take_add_one]; simp [ha]
  have key : ∀ x : Int, x * ((K.length : Int) - a) ≤ left → 0 ≤ left → x * ((K.length : Int) - (a + 1 : Nat)) ≤ left - K[a] := fun x hx _ => by
    -- x ≤ left / m, K[a] ≤ left / m; with the greater one of both
    have e : ((K.length : Int) - (a + 1 : Nat)) = ((K.length : Int) - a) - 1 := by omega
    rw [e]
    generalize (K.length : Int) - a = m at *
    have h1 : x ≤ left / m := (share_le hm h.l0).2 hx
    have h2 : left / m * m ≤ left := Int.ediv_mul_le _ (by omega)
    have h3 : x * (m - 1) ≤ left / m * (m - 1) := Int.mul_le_mul_of_nonneg_right h1 (by omega)
    have h4 : left / m * (m - 1) = left / m * m - left / m := by rw [Int.mul_sub, Int.mul_one]
    omega
  refine ⟨?_, ?_, fun x hx => ?_⟩
  · have := h.sum
    rw [ht, tot_append]; simp only [tot]; omega
  · have h5 : K[a] * 1 ≤ K[a] * ((K.length : Int) - a) := Int.mul_le_mul_of_nonneg_left (by omega) h0
    omega
  · rw [ht] at hx
    rcases List.mem_append.1 hx with hx | hx
    · exact key x (h.low x hx) h.l0
    · obtain rfl : x = K[a] := by simpa using hx
      exact key _ q h.l0
/-- all are served -/
theorem Served.all {K : List Int} {T left : Int} (h : Served K T K.length left) (A : List Int) (hp : A.Perm K) (M : Int) (h0 : 0 ≤ M) (hM : ∀ x ∈ A, x ≤ M) : FairS A T M left := by
  obtain ⟨h1, h2⟩ := low_all hM
  refine ⟨h0, ?_, h.l0, .inl h1⟩
  have h3 := (low_all (A := K) (s := M) fun x hx => hM x (hp.mem_iff.2 hx)).2
  have := h.sum
  rw [List.take_length] at this
  rw [sumMin_perm hp, h3]; exact this
/-- the others share what is left -/
theorem Served.break {K : List Int} {T left : Int} {a : Nat} (h : Served K T a left) (ha : a < K.length) (hk : ¬ K[a] ≤ left / ((K.length : Int) - a)) (hs : K.Pairwise (fun x y => x ≤ y)) (A : List Int) (hp : A.Perm K) :
    FairS A T (left / ((K.length : Int) - a)) (left - left / ((K.length : Int) - a) * ((K.length : Int) - a)) ∧ (∀ x ∈ K.take a, x ≤ left / ((K.length : Int) - a)) ∧ ∀ x ∈ K.drop a, left / ((K.length : Int) - a) < x := by
  have hm : (0 : Int) < (K.length : Int) - a := by omega
  have hlow : ∀ x ∈ K.take a, x ≤ left / ((K.length : Int) - a) := fun x hx => (share_le hm h.l0).2 (h.low x hx)
  have hhigh : ∀ x ∈ K.drop a, left / ((K.length : Int) - a) < x := fun x hx => by
    obtain ⟨i, hi, rfl⟩ := List.getElem_of_mem hx
    rw [List.length_drop] at hi
    rw [List.getElem_drop]
    have : K[a] ≤ K[a + i]'(by omega) := by
      rcases Nat.eq_zero_or_pos i with e | e
      · subst e; exact Int.le_refl _
      · exact (List.pairwise_iff_getElem.1 hs) a (a + i) ha (by omega) (by omega)
    omega
  refine ⟨⟨Int.ediv_nonneg h.l0 (by omega), ?_, ?_, .inr ?_⟩, hlow, hhigh⟩
  · have e := sumMin_append (left / ((K.length : Int) - a)) (K.take a) (K.drop a)
    rw [List.take_append_drop, (low_all hlow).2, (high_all hhigh).2, List.length_drop, show ((K.length - a : Nat) : Int) = (K.length : Int) - a by omega] at e
    rw [sumMin_perm hp, e]
    have := h.sum
    omega
  · have := Int.ediv_mul_le left (show (K.length : Int) - a ≠ 0 by omega)
    omega
  · have e := over_append (left / ((K.length : Int) - a)) (K.take a) (K.drop a)
    rw [List.take_append_drop, (low_all hlow).1, (high_all hhigh).1, List.length_drop, show ((K.length - a : Nat) : Int) = (K.length : Int) - a by omega] at e
    rw [over_perm hp, e]
    have := Int.lt_ediv_add_one_mul_self left hm
    rw [Int.add_mul, Int.one_mul] at this
    omega
theorem fairGo_step {s left lf : Int} {A : List Int} {j : Nat} (h : fairGo s lf (A.drop j) = (fairGo s left A).drop j) (hj : j < A.length) (hj' : j < (fairGo s left A).length) :
    (s < A[j] → 0 < lf → (fairGo s left A)[j] = s + 1 ∧ fairGo s (lf - 1) (A.drop (j + 1)) = (fairGo s left A).drop (j + 1)) ∧
    (s < A[j] → ¬ 0 < lf → (fairGo s left A)[j] = s ∧ fairGo s lf (A.drop (j + 1)) = (fairGo s left A).drop (j + 1)) ∧
    (¬ s < A[j] → (fairGo s left A)[j] = A[j] ∧ fairGo s lf (A.drop (j + 1)) = (fairGo s left A).drop (j + 1)) := by
  generalize fairGo s left A = R at *
  rw [List.drop_eq_getElem_cons hj, List.drop_eq_getElem_cons hj'] at h
  unfold fairGo at h
  refine ⟨fun h1 h2 => ?_, fun h1 h2 => ?_, fun h1 => ?_⟩
  · rw [if_pos h1, if_pos h2] at h
    injection h with a b
    exact ⟨a.symm, b⟩
  · rw [if_pos h1, if_neg h2] at h
    injection h with a b
    exact ⟨a.symm, b⟩
  · rw [if_neg h1] at h
    injection h with a b
    exact ⟨a.symm, b⟩
end Pl
end Go.Proofs.Ytfpmekphkippdaa
