import Derived.Sort.LotA
/-! The plain law of Go's stable sort: blocks, merged where they lie. No program in sight. -/
namespace Go.Proofs.Ytfpmekphkippdaa
open Go.Sort
set_option linter.unusedVariables false
set_option linter.unusedSimpArgs false
set_option linter.unusedSectionVars false
variable {α : Type} [Inhabited α]
/-- n places from a on and n from b on change places -/
def swapR (d : Array α) (a b : Nat) : Nat → Array α
  | 0 => d
  | n + 1 => swp (swapR d a b n) (a + n) (b + n)
theorem size_swapR (d : Array α) (a b n : Nat) : (swapR d a b n).size = d.size := by
  induction n with
  | zero => rfl
  | succ n ih => rw [swapR, size_swp, ih]
theorem swapR_get (d : Array α) (a b n : Nat) (hab : a + n ≤ b) (hb : b + n ≤ d.size) (k : Nat) :
    (swapR d a b n)[k]! = if a ≤ k ∧ k < a + n then d[k + (b - a)]! else if b ≤ k ∧ k < b + n then d[k - (b - a)]! else d[k]! := by
  induction n with
  | zero => rw [if_neg (by omega), if_neg (by omega)]; rfl
  | succ n ih =>
    rw [swapR]
    by_cases h1 : k = a + n
    · subst h1
      rw [swp_left _ _ _ (by rw [size_swapR]; omega) (by omega), if_pos (by omega)]
      rw [show (swapR d a b n)[b + n]! = d[b + n]! from ?_]
      · congr 1; omega
      · have hq := swapR_aux d a b n (b + n) (by omega) (by omega)
        exact hq
    · by_cases h2 : k = b + n
      · subst h2
        rw [swp_right _ _ _ (by rw [size_swapR]; omega), if_neg (by omega), if_pos (by omega)]
        have hq := swapR_aux d a b n (a + n) (by omega) (by omega)
        rw [hq]; congr 1; omega
      · rw [swp_other _ _ _ _ h1 h2, ih (by omega) (by omega)]
        by_cases q1 : a ≤ k ∧ k < a + n
        · rw [if_pos q1, if_pos (by omega)]
        · rw [if_neg q1]
          by_cases q2 : b ≤ k ∧ k < b + n
          · rw [if_pos q2, if_neg (by omega), if_pos (by omega)]
          · rw [if_neg q2, if_neg (by omega), if_neg (by omega)]
where
  swapR_aux (d : Array α) (a b n k : Nat) (h1 : ¬ (a ≤ k ∧ k < a + n)) (h2 : ¬ (b ≤ k ∧ k < b + n)) : (swapR d a b n)[k]! = d[k]! := by
    induction n with
    | zero => rfl
    | succ n ih => rw [swapR, swp_other _ _ _ _ (by omega) (by omega), ih (by omega) (by omega)]
theorem swapR_perm (d : Array α) (a b n lo hi : Nat) (h1 : lo ≤ a) (h2 : a ≤ b) (h3 : b + n ≤ hi) (h4 : hi ≤ d.size) : PermIn lo hi d (swapR d a b n) := by
  induction n with
  | zero => exact permIn_refl _ _ _
  | succ n ih =>
    refine permIn_trans _ _ _ _ _ (ih (by omega)) ?_
    rw [swapR]
    exact swp_permIn _ _ _ _ _ (by omega) (by omega) (by omega) (by omega) (by rw [size_swapR]; exact h4)
/-- what lies from a to m and what lies from m to b change places -/
def Rot (a m b : Nat) (d D : Array α) : Prop := ∀ k, D[k]! = if a ≤ k ∧ k < a + (b - m) then d[k + (m - a)]! else if a + (b - m) ≤ k ∧ k < b then d[k - (b - m)]! else d[k]!
theorem Rot.none (a b : Nat) (d : Array α) (h : a ≤ b) : Rot a a b d d := fun k => by
  split
  · rw [Nat.sub_self, Nat.add_zero]
  · rw [if_neg (by omega)]
theorem Rot.none' (a b : Nat) (d : Array α) (h : a ≤ b) : Rot a b b d d := fun k => by
  rw [if_neg (by omega)]
  split
  · rw [Nat.sub_self, Nat.sub_zero]
  · rfl
theorem Rot.last (m i : Nat) (d : Array α) (h : i ≤ m) (hs : m + i ≤ d.size) : Rot (m - i) m (m + i) d (swapR d (m - i) m i) := fun k => by
  rw [swapR_get d _ _ _ (by omega) hs]
  by_cases h1 : m - i ≤ k ∧ k < m - i + i
  · rw [if_pos h1, if_pos (by omega)]
  · rw [if_neg h1]
    by_cases h2 : m ≤ k ∧ k < m + i
    · rw [if_pos h2, if_neg (by omega), if_pos (by omega)]; congr 1; omega
    · rw [if_neg h2, if_neg (by omega), if_neg (by omega)]
theorem Rot.left {m i j : Nat} {d D : Array α} (h : i ≤ m) (hij : j < i) (hs : m + j ≤ d.size) (hD : Rot (m - (i - j)) m (m + j) (swapR d (m - i) m j) D) : Rot (m - i) m (m + j) d D := fun k => by
  rw [hD k]
  have g := swapR_get d (m - i) m j (by omega) hs
  by_cases c1 : m - (i - j) ≤ k ∧ k < m - (i - j) + (m + j - m)
  · rw [if_pos c1, g, if_neg (by omega)]
    by_cases e : m ≤ k + (m - (m - (i - j))) ∧ k + (m - (m - (i - j))) < m + j
    · rw [if_pos e, if_neg (by omega), if_pos (by omega)]; congr 1; omega
    · omega
  · rw [if_neg c1]
    by_cases c2 : m - (i - j) + (m + j - m) ≤ k ∧ k < m + j
    · rw [if_pos c2, g, if_neg (by omega), if_neg (by omega), if_neg (by omega), if_pos (by omega)]
    · rw [if_neg c2, g]
      by_cases c3 : m - i ≤ k ∧ k < m - i + j
      · rw [if_pos c3, if_pos (by omega)]
      · rw [if_neg c3, if_neg (by omega), if_neg (by omega), if_neg (by omega)]
theorem Rot.right {m i j : Nat} {d D : Array α} (h : i ≤ m) (hij : i < j) (hs : m + j ≤ d.size) (hD : Rot (m - i) m (m + (j - i)) (swapR d (m - i) (m + j - i) i) D) : Rot (m - i) m (m + j) d D := fun k => by
  rw [hD k]
  have g := swapR_get d (m - i) (m + j - i) i (by omega) (by omega)
  by_cases c1 : m - i ≤ k ∧ k < m - i + (m + (j - i) - m)
  · rw [if_pos c1, g, if_neg (by omega)]
    by_cases e : m + j - i ≤ k + (m - (m - i)) ∧ k + (m - (m - i)) < m + j - i + i
    · omega
    · rw [if_neg e, if_pos (by omega)]
  · rw [if_neg c1]
    by_cases c2 : m - i + (m + (j - i) - m) ≤ k ∧ k < m + (j - i)
    · rw [if_pos c2, g, if_pos (by omega), if_pos (by omega)]; congr 1; omega
    · rw [if_neg c2, g, if_neg (by omega)]
      by_cases c3 : m + j - i ≤ k ∧ k < m + j - i + i
      · rw [if_pos c3, if_neg (by omega), if_pos (by omega)]; congr 1; omega
      · rw [if_neg c3, if_neg (by omega), if_neg (by omega)]
/-- the first of c + 1 goes behind the others -/
def upR (d : Array α) (a : Nat) : Nat → Array α
  | 0 => d
  | c + 1 => swp (upR d a c) (a + c) (a + c + 1)
theorem size_upR (d : Array α) (a c : Nat) : (upR d a c).size = d.size := by
  induction c with
  | zero => rfl
  | succ c ih => rw [upR, size_swp, ih]
theorem upR_get (d : Array α) (a c : Nat) (h : a + c < d.size) : ∀ k, (upR d a c)[k]! = if a ≤ k ∧ k < a + c then d[k + 1]! else if k = a + c then d[a]! else d[k]! := by
  induction c with
  | zero =>
    intro k
    rw [if_neg (by omega)]
    by_cases e : k = a + 0
    · rw [if_pos e, e]; rfl
    · rw [if_neg e]; rfl
  | succ c ih =>
    intro k
    have ih := ih (by omega)
    rw [upR]
    by_cases h1 : k = a + c
    · subst h1
      rw [swp_left _ _ _ (by rw [size_upR]; omega) (by omega), ih, if_neg (by omega), if_neg (by omega), if_pos (by omega)]
    · by_cases h2 : k = a + c + 1
      · subst h2
        rw [swp_right _ _ _ (by rw [size_upR]; omega), ih, if_neg (by omega), if_pos rfl, if_neg (by omega), if_pos (by omega)]
      · rw [swp_other _ _ _ _ h1 h2, ih]
        by_cases q : a ≤ k ∧ k < a + c
        · rw [if_pos q, if_pos (by omega)]
        · rw [if_neg q, if_neg h1, if_neg (by omega), if_neg (by omega)]
theorem upR_perm (d : Array α) (a c lo hi : Nat) (h1 : lo ≤ a) (h3 : a + c < hi) (h4 : hi ≤ d.size) : PermIn lo hi d (upR d a c) := by
  induction c with
  | zero => exact permIn_refl _ _ _
  | succ c ih =>
    refine permIn_trans _ _ _ _ _ (ih (by omega)) ?_
    rw [upR]
    exact swp_permIn _ _ _ _ _ (by omega) (by omega) (by omega) (by omega) (by rw [size_upR]; exact h4)
/-- the one at m goes c places to the front -/
def dnR (d : Array α) (m : Nat) : Nat → Array α
  | 0 => d
  | c + 1 => swp (dnR d m c) (m - c) (m - c - 1)
theorem size_dnR (d : Array α) (m c : Nat) : (dnR d m c).size = d.size := by
  induction c with
  | zero => rfl
  | succ c ih => rw [dnR, size_swp, ih]
theorem dnR_get (d : Array α) (m c : Nat) (h : c ≤ m) (hm : m < d.size) : ∀ k, (dnR d m c)[k]! = if k = m - c then d[m]! else if m - c < k ∧ k ≤ m then d[k - 1]! else d[k]! := by
  induction c with
  | zero =>
    intro k
    by_cases e : k = m - 0
    · rw [if_pos e, e]; rfl
    · rw [if_neg e, if_neg (by omega)]; rfl
  | succ c ih =>
    intro k
    have ih := ih (by omega)
    rw [dnR]
    by_cases h1 : k = m - c
    · subst h1
      rw [swp_left _ _ _ (by rw [size_dnR]; omega) (by omega), ih, if_neg (by omega), if_neg (by omega), if_neg (by omega), if_pos (by omega)]
    · by_cases h2 : k = m - c - 1
      · subst h2
        rw [swp_right _ _ _ (by rw [size_dnR]; omega), ih, if_pos rfl, if_pos (by omega)]
      · rw [swp_other _ _ _ _ h1 h2, ih, if_neg h1]
        by_cases q : m - c < k ∧ k ≤ m
        · rw [if_pos q, if_neg (by omega), if_pos (by omega)]
        · rw [if_neg q, if_neg (by omega), if_neg (by omega)]
theorem dnR_perm (d : Array α) (m c lo hi : Nat) (h1 : lo + c ≤ m) (h3 : m < hi) (h4 : hi ≤ d.size) : PermIn lo hi d (dnR d m c) := by
  induction c with
  | zero => exact permIn_refl _ _ _
  | succ c ih =>
    refine permIn_trans _ _ _ _ _ (ih (by omega)) ?_
    rw [dnR]
    exact swp_permIn _ _ _ _ _ (by omega) (by omega) (by omega) (by omega) (by rw [size_dnR]; exact h4)
section
variable {lt : α → α → Bool}
/-- merged -/
structure Mg (lt : α → α → Bool) (a b : Nat) (d d' : Array α) : Prop where
  perm : PermIn a b d d'
  sort : SortedIn lt a b d'
theorem le_of (hS : SWO lt) {x y : α} (h : lt x y = true) : lt y x = false := by
  cases e : lt y x
  · rfl
  · exact absurd (hS.trans _ _ _ h e) (by rw [hS.irrefl]; decide)
/-- one, and a row behind it -/
theorem merge_up (hS : SWO lt) {a b i : Nat} {d : Array α} (hi : a + 1 ≤ i) (hib : i ≤ b) (hb : b ≤ d.size) (hs : SortedIn lt (a + 1) b d) (h1 : ∀ k, a + 1 ≤ k → k < i → lt d[k]! d[a]! = true) (h2 : ∀ k, i ≤ k → k < b → lt d[k]! d[a]! = false) : Mg lt a b d (upR d a (i - 1 - a)) := by
  refine ⟨upR_perm d a _ a b (Nat.le_refl _) (by omega) hb, fun x y hx hxy hy => ?_⟩
  have g := upR_get d a (i - 1 - a) (by omega)
  rw [g x, g y]
  by_cases c1 : a ≤ y ∧ y < a + (i - 1 - a)
  · rw [if_pos c1, if_pos (by omega)]; exact hs _ _ (by omega) (by omega) (by omega)
  · rw [if_neg c1]
    by_cases c2 : y = a + (i - 1 - a)
    · rw [if_pos c2, if_pos (by omega)]
      exact le_of hS (h1 _ (by omega) (by omega))
    · rw [if_neg c2]
      by_cases d1 : a ≤ x ∧ x < a + (i - 1 - a)
      · rw [if_pos d1]; exact hs _ _ (by omega) (by omega) hy
      · rw [if_neg d1]
        by_cases d2 : x = a + (i - 1 - a)
        · rw [if_pos d2]; exact h2 _ (by omega) hy
        · rw [if_neg d2]; exact hs _ _ (by omega) hxy hy
/-- a row, and one behind it -/
theorem merge_dn (hS : SWO lt) {a m i : Nat} {d : Array α} (hi : a ≤ i) (him : i ≤ m) (hb : m + 1 ≤ d.size) (hs : SortedIn lt a m d) (h1 : ∀ k, a ≤ k → k < i → lt d[m]! d[k]! = false) (h2 : ∀ k, i ≤ k → k < m → lt d[m]! d[k]! = true) : Mg lt a (m + 1) d (dnR d m (m - i)) := by
  refine ⟨dnR_perm d m _ a (m + 1) (by omega) (by omega) hb, fun x y hx hxy hy => ?_⟩
  have g := dnR_get d m (m - i) (by omega) (by omega)
  rw [g x, g y]
  by_cases c1 : y = m - (m - i)
  · rw [if_pos c1, if_neg (by omega), if_neg (by omega)]; exact h1 _ hx (by omega)
  · rw [if_neg c1]
    by_cases c2 : m - (m - i) < y ∧ y ≤ m
    · rw [if_pos c2]
      by_cases d1 : x = m - (m - i)
      · rw [if_pos d1]; exact le_of hS (h2 _ (by omega) (by omega))
      · rw [if_neg d1]
        by_cases d2 : m - (m - i) < x ∧ x ≤ m
        · rw [if_pos d2]; exact hs _ _ (by omega) (by omega) (by omega)
        · rw [if_neg d2]; exact hs _ _ (by omega) (by omega) (by omega)
    · rw [if_neg c2, if_neg (by omega), if_neg (by omega)]
      exact hs _ _ hx hxy (by omega)
/-- parts, and the places between them -/
theorem merge_join {a mid b : Nat} {d D E : Array α} (ha : a ≤ mid) (hm : mid ≤ b) (hb : b ≤ d.size) (hsz : D.size = d.size) (hx : ∀ i j, a ≤ i → i < mid → mid ≤ j → j < b → lt d[j]! d[i]! = false) (h1 : Mg lt a mid d D) (h2 : Mg lt mid b D E) : Mg lt a b d E := by
  refine ⟨permIn_trans _ _ _ _ _ (permIn_mono _ _ _ _ _ _ (Nat.le_refl _) hm hb h1.perm) (permIn_mono _ _ _ _ _ _ ha (Nat.le_refl _) (by rw [hsz]; exact hb) h2.perm), fun x y hx1 hxy hy => ?_⟩
  by_cases c1 : y < mid
  · rw [h2.perm.2.1 x (by omega), h2.perm.2.1 y (by omega)]; exact h1.sort _ _ hx1 hxy c1
  · by_cases c2 : mid ≤ x
    · exact h2.sort _ _ c2 hxy hy
    · rw [h2.perm.2.1 x (by omega)]
      have q1 : ∀ j, mid ≤ j → j < b → lt D[j]! D[x]! = false := by
        have q2 : ∀ i, a ≤ i → i < mid → ∀ j, mid ≤ j → j < b → lt d[j]! D[i]! = false := fun i hi hi2 j hj hj2 => permIn_all _ _ _ _ (fun z => lt d[j]! z = false) (by omega) h1.perm (fun i' h3 h4 => hx i' j h3 h4 hj hj2) i hi hi2
        intro j hj hj2
        rw [h1.perm.2.1 j (by omega)]
        exact q2 x hx1 (by omega) j hj hj2
      exact permIn_all _ _ _ _ (fun z => lt z D[x]! = false) (by rw [hsz]; exact hb) h2.perm (fun j hj hj2 => q1 j hj hj2) y (by omega) hy
/-- what the rotation makes of two rows: two pairs of rows, one pair below the other -/
theorem sym_rot (hS : SWO lt) {a m b s e : Nat} {d D : Array α} (ham : a ≤ s) (hsm : s ≤ m) (hme : m ≤ e) (heb : e ≤ b) (hb : b ≤ d.size) (h1 : SortedIn lt a m d) (h2 : SortedIn lt m b d)
    (hA : a < s → e < b → lt d[e]! d[s - 1]! = false) (hB : m < e → s < m → lt d[e - 1]! d[s]! = true) (hR : Rot s m e d D) :
    SortedIn lt a s D ∧ SortedIn lt s (s + (e - m)) D ∧ SortedIn lt (s + (e - m)) e D ∧ SortedIn lt e b D ∧ ∀ i j, a ≤ i → i < s + (e - m) → s + (e - m) ≤ j → j < b → lt D[j]! D[i]! = false := by
  have low : ∀ i, i < s → D[i]! = d[i]! := fun i hi => by rw [hR, if_neg (by omega), if_neg (by omega)]
  have high : ∀ i, e ≤ i → D[i]! = d[i]! := fun i hi => by rw [hR, if_neg (by omega), if_neg (by omega)]
  have one : ∀ i, s ≤ i → i < s + (e - m) → D[i]! = d[i + (m - s)]! := fun i hi hi2 => by rw [hR, if_pos (by omega)]
  have two : ∀ i, s + (e - m) ≤ i → i < e → D[i]! = d[i - (e - m)]! := fun i hi hi2 => by rw [hR, if_neg (by omega), if_pos (by omega)]
  have le1 : ∀ x y, a ≤ x → x ≤ y → y < m → lt d[y]! d[x]! = false := fun x y p q r => by
    rcases Nat.lt_or_ge x y with h | h
    · exact h1 x y p h r
    · obtain rfl : x = y := by omega
      exact hS.irrefl _
  have le2 : ∀ x y, m ≤ x → x ≤ y → y < b → lt d[y]! d[x]! = false := fun x y p q r => by
    rcases Nat.lt_or_ge x y with h | h
    · exact h2 x y p h r
    · obtain rfl : x = y := by omega
      exact hS.irrefl _
  refine ⟨fun x y hx hxy hy => ?_, fun x y hx hxy hy => ?_, fun x y hx hxy hy => ?_, fun x y hx hxy hy => ?_, fun i j hi hi2 hj hj2 => ?_⟩
  · rw [low x (by omega), low y hy]; exact h1 _ _ hx hxy (by omega)
  · rw [one x hx (by omega), one y (by omega) hy]; exact h2 _ _ (by omega) (by omega) (by omega)
  · rw [two x hx (by omega), two y (by omega) hy]; exact h1 _ _ (by omega) (by omega) (by omega)
  · rw [high x hx, high y (by omega)]; exact h2 _ _ (by omega) hxy hy
  · by_cases c1 : i < s
    · rw [low i c1]
      by_cases c2 : j < e
      · rw [two j hj c2]; exact le1 _ _ hi (by omega) (by omega)
      · rw [high j (by omega)]
        have q := hA (by omega) (by omega)
        have q2 := le1 i (s - 1) hi (by omega) (by omega)
        have q3 := le2 e j (by omega) (by omega) hj2
        exact hS.ntrans _ _ _ q3 (hS.ntrans _ _ _ q q2)
    · rw [one i (by omega) hi2]
      by_cases c2 : j < e
      · rw [two j hj c2]
        have q := le_of hS (hB (by omega) (by omega))
        have q2 := le1 s (j - (e - m)) (by omega) (by omega) (by omega)
        have q3 := le2 (i + (m - s)) (e - 1) (by omega) (by omega) (by omega)
        exact hS.ntrans _ _ _ q2 (hS.ntrans _ _ _ q q3)
      · rw [high j (by omega)]
        exact le2 _ _ (by omega) (by omega) hj2
end
end Go.Proofs.Ytfpmekphkippdaa
