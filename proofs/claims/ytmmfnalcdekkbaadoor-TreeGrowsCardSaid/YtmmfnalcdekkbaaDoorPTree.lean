import Derived.WalkKit
/-! Trees, the plain law: edges, costs between nodes, the least ways, parents. -/
namespace Go.Proofs.YtmmfnalcdekkbaaDoor
set_option linter.unusedVariables false
set_option linter.unusedSimpArgs false
/-- an edge -/
structure Ed where
  a : Int
  b : Int
  c : Int
namespace Pl
/-- how many below n -/
def cnt (p : Nat → Bool) : Nat → Nat
  | 0 => 0
  | n + 1 => cnt p n + if p n = true then 1 else 0
theorem cnt_le (p : Nat → Bool) (n : Nat) : cnt p n ≤ n := by
  induction n with
  | zero => simp [cnt]
  | succ n ih => unfold cnt; split <;> omega
theorem cnt_mono {p q : Nat → Bool} (n : Nat) (h : ∀ i, i < n → p i = true → q i = true) : cnt p n ≤ cnt q n := by
  induction n with
  | zero => simp [cnt]
  | succ n ih =>
    have := ih (fun i hi => h i (by omega))
    have h2 := h n (by omega)
    unfold cnt
    by_cases e : p n = true
    · rw [if_pos e, if_pos (h2 e)]; omega
    · rw [if_neg e]; omega
theorem cnt_lt {p q : Nat → Bool} (n : Nat) (h : ∀ i, i < n → p i = true → q i = true) (x : Nat) (hx : x < n) (h1 : p x = false) (h2 : q x = true) : cnt p n < cnt q n := by
  induction n with
  | zero => omega
  | succ n ih =>
    unfold cnt
    by_cases e : x = n
    · subst e
      have := cnt_mono (p := p) (q := q) x (fun i hi => h i (by omega))
      rw [if_neg (by rw [h1]; decide), if_pos h2]; omega
    · have := ih (fun i hi => h i (by omega)) (by omega)
      have h3 := h n (by omega)
      by_cases e : p n = true
      · rw [if_pos e, if_pos (h3 e)]; omega
      · rw [if_neg e]; omega
theorem cnt_lt_n {p : Nat → Bool} (n x : Nat) (hx : x < n) (h1 : p x = false) : cnt p n < n := by
  have h := cnt_lt (p := p) (q := fun _ => true) n (fun _ _ _ => rfl) x hx h1 rfl
  have := cnt_le (fun _ => true) n
  omega
theorem cnt_set {p : Nat → Bool} (n x : Nat) (hx : x < n) (h1 : p x = false) : cnt (fun j => if j = x then true else p j) n = cnt p n + 1 := by
  induction n with
  | zero => omega
  | succ n ih =>
    unfold cnt
    by_cases e : x = n
    · subst e
      have : cnt (fun j => if j = x then true else p j) x = cnt p x := by
        have : ∀ m, m ≤ x → cnt (fun j => if j = x then true else p j) m = cnt p m := by
          intro m
          induction m with
          | zero => intro _; rfl
          | succ m ihm => intro hm; unfold cnt; rw [ihm (by omega), if_neg (c := m = x) (by omega)]
        exact this x (Nat.le_refl _)
      rw [this]; simp [h1]
    · rw [ih (by omega), if_neg (c := n = x) (by omega)]; omega
theorem cnt_none (n : Nat) : cnt (fun _ => false) n = 0 := by
  induction n with
  | zero => rfl
  | succ n ih => unfold cnt; rw [ih]; simp
/-- an edge that is right -/
def edOk (n : Int) (e : Ed) : Bool := decide (0 ≤ e.a ∧ e.a < n ∧ 0 ≤ e.b ∧ e.b < n ∧ e.a ≠ e.b ∧ 1 ≤ e.c ∧ e.c ≤ 1000000)
/-- two between the same -/
def edSame (e f : Ed) : Bool := decide ((e.a = f.a ∧ e.b = f.b) ∨ (e.a = f.b ∧ e.b = f.a))
def edFault (n : Int) (L : List Ed) (k : Nat) (e : Ed) : Int := if edOk n e = true then (if (L.take k).any (edSame e) = true then 7 else 0) else 1
/-- the fault of some edges -/
def EdgesF (n : Int) (L : List Ed) (f : Int) : Prop :=
  if n < 1 ∨ 16 < n then f = 1 else if 200 < L.length then f = 4 else
  (f = 0 ∧ ∀ k (h : k < L.length), edFault n L k L[k] = 0) ∨ (f ≠ 0 ∧ ∃ k, ∃ h : k < L.length, edFault n L k L[k] = f ∧ ∀ j (hj : j < k), edFault n L j (L[j]'(Nat.lt_trans hj h)) = 0)
theorem EdgesF.eq {n : Int} {L : List Ed} {f g : Int} (h : EdgesF n L f) (k : EdgesF n L g) : f = g := by
  unfold EdgesF at h k
  by_cases h1 : n < 1 ∨ 16 < n
  · rw [if_pos h1] at h k; omega
  rw [if_neg h1] at h k
  by_cases h2 : 200 < L.length
  · rw [if_pos h2] at h k; omega
  rw [if_neg h2] at h k
  rcases h with ⟨rfl, h⟩ | ⟨hf, i, hi, h3, h4⟩
  · rcases k with ⟨rfl, k⟩ | ⟨kf, j, hj, k3, k4⟩
    · rfl
    · have := h j hj; omega
  · rcases k with ⟨rfl, k⟩ | ⟨kf, j, hj, k3, k4⟩
    · have := k i hi; omega
    · rcases Nat.lt_trichotomy i j with q | q | q
      · have := k4 i q; omega
      · subst q; omega
      · have := h4 j q; omega
structure GoodE (n : Int) (L : List Ed) : Prop where
  n1 : 1 ≤ n
  n2 : n ≤ 16
  len : L.length ≤ 200
  ok : ∀ k (h : k < L.length), edFault n L k L[k] = 0
theorem EdgesF.good {n : Int} {L : List Ed} : EdgesF n L 0 ↔ GoodE n L := by
  unfold EdgesF
  constructor
  · intro h
    by_cases h1 : n < 1 ∨ 16 < n
    · rw [if_pos h1] at h; omega
    rw [if_neg h1] at h
    by_cases h2 : 200 < L.length
    · rw [if_pos h2] at h; omega
    rw [if_neg h2] at h
    rcases h with ⟨_, h⟩ | ⟨hf, _⟩
    · exact ⟨by omega, by omega, by omega, h⟩
    · exact absurd rfl hf
  · rintro ⟨h1, h2, h3, h4⟩
    rw [if_neg (by omega), if_neg (by omega)]
    exact .inl ⟨rfl, h4⟩
theorem GoodE.edge {n : Int} {L : List Ed} (h : GoodE n L) (k : Nat) (hk : k < L.length) : (0 ≤ L[k].a ∧ L[k].a < n ∧ 0 ≤ L[k].b ∧ L[k].b < n ∧ L[k].a ≠ L[k].b ∧ 1 ≤ L[k].c ∧ L[k].c ≤ 1000000) := by
  have := h.ok k hk
  unfold edFault at this
  by_cases e : edOk n L[k] = true
  · unfold edOk at e; exact of_decide_eq_true e
  · rw [if_neg e] at this; omega
theorem GoodE.diff {n : Int} {L : List Ed} (h : GoodE n L) (k j : Nat) (hk : k < L.length) (hj : j < k) : edSame L[k] (L[j]'(Nat.lt_trans hj hk)) = false := by
  have := h.ok k hk
  unfold edFault at this
  by_cases e : edOk n L[k] = true
  · rw [if_pos e] at this
    by_cases e2 : (L.take k).any (edSame L[k]) = true
    · rw [if_pos e2] at this; omega
    · cases q : edSame L[k] (L[j]'(Nat.lt_trans hj hk)) with
      | false => rfl
      | true =>
        exfalso
        refine e2 (List.any_eq_true.2 ⟨_, ?_, q⟩)
        exact List.mem_take_iff_getElem.2 ⟨j, by omega, rfl⟩
  · rw [if_neg e] at this; omega
/-- an edge between two -/
def edM (i j : Int) (e : Ed) : Bool := decide ((e.a = i ∧ e.b = j) ∨ (e.b = i ∧ e.a = j))
/-- the cost between two nodes; 0: there is no edge -/
def costF (L : List Ed) (i j : Int) : Int := L.foldl (fun c e => if edM i j e = true then e.c else c) 0
theorem costF_snoc (L : List Ed) (e : Ed) (i j : Int) : costF (L ++ [e]) i j = if edM i j e = true then e.c else costF L i j := by simp [costF]
theorem costF_nil (i j : Int) : costF [] i j = 0 := rfl
theorem edM_symm (i j : Int) (e : Ed) : edM i j e = edM j i e := by
  unfold edM
  rw [decide_eq_decide]
  omega
theorem costF_symm (L : List Ed) (i j : Int) : costF L i j = costF L j i := by
  unfold costF
  congr 1
  funext c e
  rw [edM_symm]
theorem take_succ' {α : Type} (L : List α) (k : Nat) (hk : k < L.length) : L.take (k + 1) = L.take k ++ [L[k]] := by
  rw [List.take_succ_eq_append_getElem hk]
theorem costF_take (L : List Ed) (i j : Int) (m : Nat) (hm : m ≤ L.length) : (costF (L.take m) i j = 0 ∧ ∀ k (h : k < m), edM i j (L[k]'(by omega)) = false) ∨ ∃ k, ∃ h : k < m, edM i j (L[k]'(by omega)) = true ∧ costF (L.take m) i j = (L[k]'(by omega)).c := by
  induction m with
  | zero => exact .inl ⟨by simp [costF], fun k h => by omega⟩
  | succ m ih =>
    rw [take_succ' L m (by omega), costF_snoc]
    cases e : edM i j L[m] with
    | true => exact .inr ⟨m, by omega, e, by simp⟩
    | false =>
      rcases ih (by omega) with ⟨h1, h2⟩ | ⟨k, hk, h1, h2⟩
      · refine .inl ⟨by simpa using h1, fun k hk => ?_⟩
        by_cases q : k = m
        · subst q; exact e
        · exact h2 k (by omega)
      · exact .inr ⟨k, by omega, h1, by simpa using h2⟩
theorem edM_same {i j : Int} {e f : Ed} (h : edM i j e = true) (k : edM i j f = true) : edSame e f = true := by
  unfold edM at h k
  unfold edSame
  have h := of_decide_eq_true h
  have k := of_decide_eq_true k
  exact decide_eq_true (by omega)
theorem edSame_symm (e f : Ed) : edSame e f = edSame f e := by
  unfold edSame
  rw [decide_eq_decide]
  omega
theorem GoodE.cost {n : Int} {L : List Ed} (h : GoodE n L) {i j : Int} {m : Nat} (hm : m < L.length) (hx : edM i j L[m] = true) : costF L i j = L[m].c := by
  rcases costF_take L i j L.length (Nat.le_refl _) with ⟨h1, h2⟩ | ⟨k, hk, h1, h2⟩
  · rw [h2 m hm] at hx; cases hx
  · rw [List.take_length] at h2
    rw [h2]
    have hs := edM_same hx h1
    rcases Nat.lt_trichotomy k m with q | q | q
    · rw [h.diff m k hm q] at hs; cases hs
    · subst q; rfl
    · rw [edSame_symm, h.diff k m hk q] at hs; cases hs
theorem GoodE.hit {n : Int} {L : List Ed} (h : GoodE n L) {i j : Int} (hp : costF L i j ≠ 0) : ∃ m, ∃ hm : m < L.length, edM i j L[m] = true ∧ costF L i j = L[m].c := by
  rcases costF_take L i j L.length (Nat.le_refl _) with ⟨h1, h2⟩ | ⟨k, hk, h1, h2⟩
  · rw [List.take_length] at h1; exact absurd h1 hp
  · rw [List.take_length] at h2; exact ⟨k, hk, h1, h2⟩
theorem GoodE.cost_lo {n : Int} {L : List Ed} (h : GoodE n L) (i j : Int) : 0 ≤ costF L i j ∧ costF L i j ≤ 1000000 := by
  by_cases e : costF L i j = 0
  · omega
  · obtain ⟨m, hm, _, h2⟩ := h.hit e
    have := h.edge m hm
    omega
theorem GoodE.cost_in {n : Int} {L : List Ed} (h : GoodE n L) {i j : Int} (hp : costF L i j ≠ 0) : 0 ≤ i ∧ i < n ∧ 0 ≤ j ∧ j < n ∧ i ≠ j := by
  obtain ⟨m, hm, h1, h2⟩ := h.hit hp
  have h3 := h.edge m hm
  have h4 := of_decide_eq_true h1
  omega
/-- costs that are right -/
structure COk (n : Nat) (C : Nat → Nat → Int) : Prop where
  lo : ∀ i j, 0 ≤ C i j
  hi : ∀ i j, C i j ≤ 1000000
  self : ∀ i, C i i = 0
  symm : ∀ i j, C i j = C j i
def costN (L : List Ed) (i j : Nat) : Int := costF L i j
theorem GoodE.cok {n : Int} {L : List Ed} (h : GoodE n L) (k : Nat) : COk k (costN L) :=
  ⟨fun i j => (h.cost_lo i j).1, fun i j => (h.cost_lo i j).2, fun i => by
    by_cases e : costN L i i = 0
    · exact e
    · exact absurd rfl (h.cost_in e).2.2.2.2, fun i j => costF_symm L i j⟩
/-- ways in the making -/
structure DInv (n root : Nat) (C : Nat → Nat → Int) (D : Nat → Int) (dn : Nat → Bool) : Prop where
  d0 : D root = 0
  lo : ∀ i, i < n → -1 ≤ D i
  hi : ∀ i, i < n → D i ≤ 1000000 * (cnt dn n : Int)
  don : ∀ i, i < n → dn i = true → 0 ≤ D i
  rel : ∀ i j, i < n → j < n → dn i = true → 0 < C i j → 0 ≤ D j ∧ D j ≤ D i + C i j
  tig : ∀ i, i < n → i ≠ root → 0 ≤ D i → ∃ k, k < n ∧ dn k = true ∧ 0 < C k i ∧ D k + C k i = D i
  ord : ∀ i j, i < n → j < n → dn i = true → dn j = false → 0 ≤ D j → D i ≤ D j
/-- a step of them -/
def stepD (C : Nat → Nat → Int) (D : Nat → Int) (at_ : Nat) (j : Nat) : Int := if 0 < C at_ j ∧ (D j < 0 ∨ D at_ + C at_ j < D j) then D at_ + C at_ j else D j
theorem DInv.start (n root : Nat) (C : Nat → Nat → Int) : DInv n root C (fun j => if j = root then 0 else -1) (fun _ => false) := by
  refine ⟨if_pos rfl, fun i _ => ?_, fun i _ => ?_, fun _ _ h => (by cases h), fun _ _ _ _ h => (by cases h), fun i _ hr h => ?_, fun _ _ _ _ h => (by cases h)⟩
  · by_cases e : i = root
    · rw [if_pos e]; omega
    · rw [if_neg e]; omega
  · rw [cnt_none]
    by_cases e : i = root
    · rw [if_pos e]; omega
    · rw [if_neg e]; omega
  · rw [if_neg hr] at h; omega
theorem DInv.step {n root : Nat} {C : Nat → Nat → Int} {D : Nat → Int} {dn : Nat → Bool} (hC : COk n C) (h : DInv n root C D dn) (x : Nat) (hx : x < n) (h1 : dn x = false) (h2 : 0 ≤ D x) (h3 : ∀ j, j < n → dn j = false → 0 ≤ D j → D x ≤ D j) :
    DInv n root C (stepD C D x) (fun j => if j = x then true else dn j) := by
  have sx : stepD C D x x = D x := by unfold stepD; rw [if_neg]; have := hC.self x; omega
  have sd : ∀ i, i < n → dn i = true → stepD C D x i = D i := fun i hi hd => by
    unfold stepD
    rw [if_neg]
    have a1 := h.don i hi hd
    have a2 := h.ord i x hi hx hd h1 h2
    omega
  have se : ∀ i, stepD C D x i = D i ∨ (0 < C x i ∧ stepD C D x i = D x + C x i) := fun i => by
    unfold stepD
    by_cases q : 0 < C x i ∧ (D i < 0 ∨ D x + C x i < D i)
    · rw [if_pos q]; exact .inr ⟨q.1, rfl⟩
    · rw [if_neg q]; exact .inl rfl
  have sle : ∀ i, 0 ≤ D i → 0 ≤ stepD C D x i ∧ stepD C D x i ≤ D i := fun i hi => by
    unfold stepD
    have := hC.lo x i
    by_cases q : 0 < C x i ∧ (D i < 0 ∨ D x + C x i < D i)
    · rw [if_pos q]; omega
    · rw [if_neg q]; omega
  have sge : ∀ i, i < n → dn i = false → 0 ≤ stepD C D x i → D x ≤ stepD C D x i := fun i hi hd hs => by
    have := hC.lo x i
    rcases se i with q | ⟨q1, q2⟩
    · rw [q] at hs ⊢; exact h3 i hi hd hs
    · omega
  have hcn := cnt_set n x hx h1
  refine ⟨?_, fun i hi => ?_, fun i hi => ?_, fun i hi hd => ?_, fun i j hi hj hd hc => ?_, fun i hi hr hd => ?_, fun i j hi hj hd hdj hs => ?_⟩
  · have := sle root (by rw [h.d0]; omega)
    rw [h.d0] at this; omega
  · have := h.lo i hi
    have := hC.lo x i
    rcases se i with q | ⟨q1, q2⟩ <;> omega
  · rw [hcn]
    have := h.hi i hi
    have := h.hi x hx
    have := hC.hi x i
    rcases se i with q | ⟨q1, q2⟩ <;> omega
  · by_cases e : i = x
    · subst e; rw [sx]; exact h2
    · simp [e] at hd; rw [sd i hi hd]; exact h.don i hi hd
  · by_cases e : i = x
    · subst e
      rw [sx]
      unfold stepD
      by_cases q : 0 < C i j ∧ (D j < 0 ∨ D i + C i j < D j)
      · rw [if_pos q]; omega
      · rw [if_neg q]; omega
    · simp [e] at hd
      rw [sd i hi hd]
      have r := h.rel i j hi hj hd hc
      have s := sle j r.1
      omega
  · rcases se i with q | ⟨q1, q2⟩
    · rw [q] at hd ⊢
      obtain ⟨k, hk, a1, a2, a3⟩ := h.tig i hi hr hd
      exact ⟨k, hk, by simp [a1], a2, by rw [sd k hk a1]; exact a3⟩
    · exact ⟨x, hx, by simp, q1, by rw [sx, q2]⟩
  · have hjx : j ≠ x := fun e => by subst e; simp at hdj
    simp [hjx] at hdj
    have g := sge j hj hdj hs
    by_cases e : i = x
    · subst e; rw [sx]; exact g
    · simp [e] at hd
      rw [sd i hi hd]
      have := h.ord i x hi hx hd h1 h2
      omega
/-- the least ways -/
structure Dj (n root : Nat) (C : Nat → Nat → Int) (D : Nat → Int) : Prop where
  d0 : D root = 0
  lo : ∀ i, i < n → -1 ≤ D i
  hi : ∀ i, i < n → D i ≤ 1000000 * (n : Int)
  rel : ∀ i j, i < n → j < n → 0 ≤ D i → 0 < C i j → 0 ≤ D j ∧ D j ≤ D i + C i j
  tig : ∀ i, i < n → i ≠ root → 0 ≤ D i → ∃ k, k < n ∧ 0 ≤ D k ∧ 0 < C k i ∧ D k + C k i = D i
theorem DInv.done {n root : Nat} {C : Nat → Nat → Int} {D : Nat → Int} {dn : Nat → Bool} (h : DInv n root C D dn) (hd : ∀ j, j < n → dn j = false → D j < 0) : Dj n root C D := by
  refine ⟨h.d0, h.lo, fun i hi => ?_, fun i j hi hj h0 hc => ?_, fun i hi hr h0 => ?_⟩
  · have := h.hi i hi; have := cnt_le dn n; omega
  · refine h.rel i j hi hj ?_ hc
    cases q : dn i with
    | true => rfl
    | false => have := hd i hi q; omega
  · obtain ⟨k, hk, a1, a2, a3⟩ := h.tig i hi hr h0
    exact ⟨k, hk, h.don k hk a1, a2, a3⟩
/-- there is one least of those that are not done, or none -/
theorem least_some (n : Nat) (D : Nat → Int) (dn : Nat → Bool) : (∀ j, j < n → dn j = false → D j < 0) ∨ ∃ x, x < n ∧ dn x = false ∧ 0 ≤ D x ∧ ∀ j, j < n → dn j = false → 0 ≤ D j → D x ≤ D j := by
  induction n with
  | zero => exact .inl fun j hj => by omega
  | succ n ih =>
    by_cases q : dn n = false ∧ 0 ≤ D n
    · rcases ih with h | ⟨x, hx, h1, h2, h3⟩
      · refine .inr ⟨n, by omega, q.1, q.2, fun j hj hd h0 => ?_⟩
        by_cases e : j = n
        · subst e; omega
        · have := h j (by omega) hd; omega
      · by_cases e : D n ≤ D x
        · refine .inr ⟨n, by omega, q.1, q.2, fun j hj hd h0 => ?_⟩
          by_cases e : j = n
          · subst e; omega
          · have := h3 j (by omega) hd h0; omega
        · refine .inr ⟨x, by omega, h1, h2, fun j hj hd h0 => ?_⟩
          by_cases e : j = n
          · subst e; omega
          · exact h3 j (by omega) hd h0
    · rcases ih with h | ⟨x, hx, h1, h2, h3⟩
      · refine .inl fun j hj hd => ?_
        by_cases e : j = n
        · subst e
          by_cases e2 : 0 ≤ D j
          · exact absurd ⟨hd, e2⟩ q
          · omega
        · exact h j (by omega) hd
      · refine .inr ⟨x, by omega, h1, h2, fun j hj hd h0 => ?_⟩
        by_cases e : j = n
        · subst e; exact absurd ⟨hd, h0⟩ q
        · exact h3 j (by omega) hd h0
theorem dj_from {n root : Nat} {C : Nat → Nat → Int} (hC : COk n C) : ∀ (m : Nat) (D : Nat → Int) (dn : Nat → Bool), n - cnt dn n ≤ m → DInv n root C D dn → ∃ D, Dj n root C D := by
  intro m
  induction m with
  | zero =>
    intro D dn hm h
    rcases least_some n D dn with hd | ⟨x, hx, h1, h2, h3⟩
    · exact ⟨D, h.done hd⟩
    · have := cnt_lt_n (p := dn) n x hx h1; omega
  | succ m ih =>
    intro D dn hm h
    rcases least_some n D dn with hd | ⟨x, hx, h1, h2, h3⟩
    · exact ⟨D, h.done hd⟩
    · exact ih _ _ (by rw [cnt_set n x hx h1]; omega) (h.step hC x hx h1 h2 h3)
theorem dj_some {n : Nat} (root : Nat) {C : Nat → Nat → Int} (hC : COk n C) : ∃ D, Dj n root C D := dj_from hC n _ _ (by omega) (DInv.start n root C)
/-- there is but one -/
theorem Dj.le {n root : Nat} {C : Nat → Nat → Int} {D E : Nat → Int} (hC : COk n C) (h : Dj n root C D) (k : Dj n root C E) (hr : root < n) : ∀ (m : Nat) (i : Nat), i < n → 0 ≤ E i → E i < m → 0 ≤ D i ∧ D i ≤ E i := by
  intro m
  induction m with
  | zero => intro i _ h1 h2; omega
  | succ m ih =>
    intro i hi h1 h2
    by_cases e : i = root
    · subst e; rw [h.d0]; omega
    · obtain ⟨q, hq, a1, a2, a3⟩ := k.tig i hi e h1
      have b := ih q hq a1 (by omega)
      have c := h.rel q i hq hi b.1 a2
      omega
theorem Dj.uniq {n root : Nat} {C : Nat → Nat → Int} {D E : Nat → Int} (hC : COk n C) (h : Dj n root C D) (k : Dj n root C E) (hr : root < n) (i : Nat) (hi : i < n) : D i = E i := by
  have h1 := h.lo i hi
  have h2 := k.lo i hi
  by_cases e : 0 ≤ E i
  · have a := h.le hC k hr (E i).toNat.succ i hi e (by omega)
    have b := k.le hC h hr (D i).toNat.succ i hi a.1 (by omega)
    omega
  · by_cases e2 : 0 ≤ D i
    · have b := k.le hC h hr (D i).toNat.succ i hi e2 (by omega)
      omega
    · omega
/-- a way may come by k -/
def Tgt (C : Nat → Nat → Int) (D : Nat → Int) (k i : Nat) : Prop := 0 < C k i ∧ D k + C k i = D i
/-- the least one that a way may come by, of those from k on -/
def PBest (n : Nat) (C : Nat → Nat → Int) (D : Nat → Int) (i k : Nat) (b : Int) : Prop :=
  (b = -1 ∧ ∀ j, k ≤ j → j < n → ¬ Tgt C D j i) ∨ ∃ m : Nat, b = m ∧ k ≤ m ∧ m < n ∧ Tgt C D m i ∧ ∀ j, k ≤ j → j < m → ¬ Tgt C D j i
theorem PBest.hit {n : Nat} {C : Nat → Nat → Int} {D : Nat → Int} {i k : Nat} (hk : k < n) (h : Tgt C D k i) : PBest n C D i k (k : Int) :=
  .inr ⟨k, rfl, Nat.le_refl _, hk, h, fun j h1 h2 => by omega⟩
theorem PBest.miss {n : Nat} {C : Nat → Nat → Int} {D : Nat → Int} {i k : Nat} {b : Int} (h : PBest n C D i (k + 1) b) (hn : ¬ Tgt C D k i) : PBest n C D i k b := by
  rcases h with ⟨h1, h2⟩ | ⟨m, h1, h2, h3, h4, h5⟩
  · exact .inl ⟨h1, fun j hj hl => by
      by_cases e : j = k
      · subst e; exact hn
      · exact h2 j (by omega) hl⟩
  · exact .inr ⟨m, h1, by omega, h3, h4, fun j hj hl => by
      by_cases e : j = k
      · subst e; exact hn
      · exact h5 j (by omega) hl⟩
theorem PBest.none {n : Nat} {C : Nat → Nat → Int} {D : Nat → Int} {i : Nat} : PBest n C D i n (-1) := .inl ⟨rfl, fun j h1 h2 => by omega⟩
theorem PBest.eq {n : Nat} {C : Nat → Nat → Int} {D : Nat → Int} {i k : Nat} {b b' : Int} (h : PBest n C D i k b) (h' : PBest n C D i k b') : b = b' := by
  rcases h with ⟨h1, h2⟩ | ⟨m, h1, h2, h3, h4, h5⟩
  · rcases h' with ⟨k1, k2⟩ | ⟨m', k1, k2, k3, k4, k5⟩
    · omega
    · exact absurd k4 (h2 m' k2 k3)
  · rcases h' with ⟨k1, k2⟩ | ⟨m', k1, k2, k3, k4, k5⟩
    · exact absurd h4 (k2 m h2 h3)
    · rcases Nat.lt_trichotomy m m' with q | q | q
      · exact absurd h4 (k5 m h2 q)
      · omega
      · exact absurd k4 (h5 m' k2 q)
/-- the parents of least ways -/
def Par (n root : Nat) (C : Nat → Nat → Int) (D : Nat → Int) (P : Nat → Int) : Prop := ∀ i, i < n → if i ≠ root ∧ 0 ≤ D i then PBest n C D i 0 (P i) else P i = -1
theorem Par.up {n root : Nat} {C : Nat → Nat → Int} {D P : Nat → Int} (hC : COk n C) (hD : Dj n root C D) (h : Par n root C D P) (i : Nat) (hi : i < n) : (i = root ∨ D i < 0) ∧ P i = -1 ∨ ∃ k : Nat, P i = k ∧ k < n ∧ i ≠ root ∧ 0 ≤ D k ∧ D k < D i ∧ 0 < C k i ∧ D k + C k i = D i := by
  have := h i hi
  by_cases e : i ≠ root ∧ 0 ≤ D i
  · rw [if_pos e] at this
    rcases this with ⟨h1, h2⟩ | ⟨m, h1, h2, h3, ⟨h4, h6⟩, h5⟩
    · obtain ⟨k, hk, a1, a2, a3⟩ := hD.tig i hi e.1 e.2
      exact absurd ⟨a2, a3⟩ (h2 k (by omega) hk)
    · have := hD.rel i m hi h3 e.2 (by rw [hC.symm]; exact h4)
      exact .inr ⟨m, h1, h3, e.1, this.1, by omega, h4, h6⟩
  · rw [if_neg e] at this
    exact .inl ⟨by omega, this⟩
/-- the way up from a node -/
def upL (P : Nat → Int) : Nat → Int → List Int
  | 0, _ => []
  | f + 1, x => if x < 0 then [] else x :: upL P f (P x.toNat)
theorem upL_neg (P : Nat → Int) (f : Nat) (x : Int) (h : x < 0) : upL P f x = [] := by cases f <;> simp [upL, h]
theorem upL_len (P : Nat → Int) (f : Nat) (x : Int) : (upL P f x).length ≤ f := by
  induction f generalizing x with
  | zero => simp [upL]
  | succ f ih => unfold upL; split <;> simp; exact ih _
end Pl
end Go.Proofs.YtmmfnalcdekkbaaDoor
