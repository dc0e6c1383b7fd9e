import Derived.Test.YtefhbjkhmfmkaaaDoorPVoice
/-! Two voices, the plain law. -/
namespace Go.Proofs.YtefhbjkhmfmkaaaDoor
set_option linter.unusedVariables false
set_option linter.unusedSimpArgs false
namespace Pl
theorem SortedOf.nil {f : Sco} (h : SortedOf f []) (i : Int) : f i = none := by
  cases e : f i with
  | none => rfl
  | some s => exact absurd ((h.2 i s).2 e) (by simp)
theorem SortedOf.head {f : Sco} {b : Vc} {r : List Vc} (h : SortedOf f (b :: r)) : f b.who = some b.lvl ∧ ∀ i s, f i = some s → s ≤ b.lvl := by
  refine ⟨(h.2 b.who b.lvl).1 (by simp), fun i s hs => ?_⟩
  rcases List.mem_cons.1 ((h.2 i s).2 hs) with q | q
  · rw [← q]; exact Int.le_refl _
  · have := (List.pairwise_cons.1 h.1).1 _ q
    unfold vBef at this
    simp at this
    omega
theorem SortedOf.empty {f : Sco} (h : ∀ i, f i = none) : SortedOf f [] := ⟨List.Pairwise.nil, fun w l => by rw [h]; simp⟩
/-- two scores -/
def Two (a b : Int) (x y : Int) : Sco := fun j => if j = a ∧ x ≠ 0 then some x else if j = b ∧ y ≠ 0 then some y else none
theorem Two.start (a b : Int) : (fun _ => none) = Two a b 0 0 := by funext j; simp [Two]
theorem Two.go {a b x y : Int} (hab : a ≠ b) {g : Sco} (hg : ∀ i, i ≠ a → i ≠ b → g i = none) : sc2 (Two a b x y) g = Two a b (nsc x ((g a).getD 0)) (nsc y ((g b).getD 0)) := by
  have e0 : nsc 0 0 = 0 := by decide
  funext j
  by_cases ha : j = a
  · subst ha
    by_cases hx : x = 0
    · subst hx
      cases hg0 : g j with
      | none => simp [sc2, sc1, sc0, Two, hg0, hab, e0]
      | some l =>
        simp [sc2, sc1, sc0, Two, hg0, hab]
    · simp [sc2, sc1, sc0, Two, hx, hab]
  · by_cases hb : j = b
    · subst hb
      have hab' : ¬ j = a := ha
      by_cases hx : y = 0
      · subst hx
        cases hg0 : g j with
        | none => simp [sc2, sc1, sc0, Two, hg0, hab', e0]
        | some l =>
          simp [sc2, sc1, sc0, Two, hg0, hab']
      · simp [sc2, sc1, sc0, Two, hx, hab']
    · simp [sc2, sc1, sc0, Two, ha, hb, hg j ha hb]
theorem nodup_le : ∀ (ks ls : List Int), ks.Nodup → (∀ k ∈ ks, k ∈ ls) → ks.length ≤ ls.length := by
  intro ks
  induction ks with
  | nil => intro ls _ _; simp
  | cons k r ih =>
    intro ls h1 h2
    obtain ⟨a1, a2⟩ := List.nodup_cons.1 h1
    have hk : k ∈ ls := h2 k (by simp)
    have := ih (ls.erase k) a2 fun z hz => (List.mem_erase_of_ne (fun e => by subst e; exact a1 hz)).2 (h2 z (by simp [hz]))
    rw [List.length_erase_of_mem hk] at this
    have := List.length_pos_of_mem hk
    simp; omega
theorem Cnt.cnt2 {a b x y : Int} {c : Nat} (h : Cnt (Two a b x y) c) : c ≤ 2 := by
  obtain ⟨ks, h1, rfl, h3⟩ := h
  refine nodup_le ks [a, b] h1 fun k hk => ?_
  have := (h3 k).2 hk
  unfold Two at this
  by_cases e : k = a
  · simp [e]
  · by_cases e2 : k = b
    · simp [e2]
    · simp [e, e2] at this
/-- the first one speaks -/
theorem next_first {a b x sp : Int} {R : List Vc} (ha : 0 ≤ a) (hx : x ≠ 0) (hs : sp = -1 ∨ sp = a) (h : SortedOf (Two a b x 0) R) : nextSp (Two a b x 0) R sp = a := by
  cases R with
  | nil => have := h.nil a; simp [Two, hx] at this
  | cons v r =>
    obtain ⟨h1, h2⟩ := h.head
    have hv : v.who = a ∧ v.lvl = x := by
      unfold Two at h1
      by_cases e : v.who = a
      · simp [e, hx] at h1; exact ⟨e, h1.symm⟩
      · simp [e] at h1
    unfold nextSp
    rcases hs with rfl | rfl
    · have : Two a b x 0 (-1) = none := by simp [Two]; omega
      simp only [this]; exact hv.1
    · have : Two sp b x 0 sp = some x := by simp [Two, hx]
      simp only [this]
      rw [if_neg (by omega)]
/-- whose is the greatest -/
theorem Two.top {a b x y : Int} {v : Vc} {r : List Vc} (hab : a ≠ b) (h : SortedOf (Two a b x y) (v :: r)) : (v.who = a ∧ v.lvl = x ∧ x ≠ 0 ∧ (y ≠ 0 → y ≤ x)) ∨ (v.who = b ∧ v.lvl = y ∧ y ≠ 0 ∧ (x ≠ 0 → x ≤ y)) := by
  obtain ⟨h1, h2⟩ := h.head
  have ha : x ≠ 0 → Two a b x y a = some x := fun hx => by simp [Two, hx]
  have hb : y ≠ 0 → Two a b x y b = some y := fun hy => by
    have : ¬ b = a := fun e => hab e.symm
    simp [Two, hy, this]
  by_cases e : v.who = a
  · by_cases hx : x = 0
    · unfold Two at h1
      simp [e, hx, hab] at h1
    · have := ha hx
      rw [e, this] at h1
      obtain rfl := (Option.some.inj h1)
      exact .inl ⟨e, rfl, hx, fun hy => h2 _ _ (hb hy)⟩
  · by_cases e2 : v.who = b
    · by_cases hy : y = 0
      · unfold Two at h1
        simp [e, hy] at h1
      · have := hb hy
        rw [e2, this] at h1
        obtain rfl := (Option.some.inj h1)
        exact .inr ⟨e2, rfl, hy, fun hx => h2 _ _ (ha hx)⟩
    · unfold Two at h1
      simp [e, e2] at h1
/-- the other one is not yet loud enough, or is -/
theorem next_other {a b x y : Int} {R : List Vc} (hab : a ≠ b) (hx : 0 ≤ x) (hy : 0 < y) (h : SortedOf (Two a b x y) R) : nextSp (Two a b x y) R a = if x = 0 ∨ x + 200 < y then b else a := by
  have hb : Two a b x y b = some y := by
    have : ¬ b = a := fun e => hab e.symm
    have : y ≠ 0 := by omega
    simp [Two, *]
  cases R with
  | nil => have := h.nil b; rw [hb] at this; cases this
  | cons v r =>
    have ht := Two.top hab h
    unfold nextSp
    by_cases hx0 : x = 0
    · have : Two a b x y a = none := by simp [Two, hx0, hab]
      simp only [this]
      rw [if_pos (show x = 0 ∨ x + 200 < y from .inl hx0)]
      rcases ht with ht | ht
      · exact absurd hx0 ht.2.2.1
      · exact ht.1
    · have : Two a b x y a = some x := by simp [Two, hx0]
      simp only [this]
      by_cases q : x + 200 < y
      · rw [if_pos (show x = 0 ∨ x + 200 < y from .inr q)]
        rcases ht with ht | ht
        · have := ht.2.2.2 (by omega); omega
        · rw [if_pos (by omega)]; exact ht.1
      · rw [if_neg (by omega), if_neg (by omega)]
/-- the other one speaks on -/
theorem next_stays {a b x y : Int} {R : List Vc} (hab : a ≠ b) (hx : 0 ≤ x) (hy : 0 < y) (hxy : x ≤ y + 200) (h : SortedOf (Two a b x y) R) : nextSp (Two a b x y) R b = b := by
  have hb : Two a b x y b = some y := by
    have : ¬ b = a := fun e => hab e.symm
    have : y ≠ 0 := by omega
    simp [Two, *]
  cases R with
  | nil => have := h.nil b; rw [hb] at this; cases this
  | cons v r =>
    have ht := Two.top hab h
    unfold nextSp
    simp only [hb]
    rw [if_neg (by omega)]
/-- a score, in natural numbers -/
def nscN (s l : Nat) : Nat := s - (s + 7) / 8 + 16 * l
theorem nscN_eq (s l : Nat) : nsc s l = (nscN s l : Nat) := by unfold nsc nscN; omega
/-- the second rounds -/
def chk2 (l : Nat) : Nat → Nat → Nat → Bool → Bool
  | 0, _, _, t => t
  | n + 1, x, y, t => decide (0 < nscN y l) && ((!t) || decide (nscN x 0 ≤ nscN y l + 200)) && chk2 l n (nscN x 0) (nscN y l) (t || decide (nscN x 0 = 0 ∨ nscN x 0 + 200 < nscN y l))
/-- the first rounds -/
def chk1 (l : Nat) : Nat → Nat → Bool
  | 0, x => chk2 l 40 x 0 false
  | n + 1, x => decide (0 < nscN x l) && chk1 l n (nscN x l)
theorem chk_all : ∀ l : Fin 128, 20 ≤ l.val → chk1 l.val 10 0 = true := by decide +kernel
end Pl
end Go.Proofs.YtefhbjkhmfmkaaaDoor
