import Derived.Test.YthbcdpckckellaaDoorWorld
import Derived.Test.YthbcdpckckellaaDoorPSerial
/-! Pairs of numbers, and the numbers of pairs: in plain Lean. -/
namespace Go.Proofs.YthbcdpckckellaaDoor
set_option linter.unusedVariables false
set_option linter.unusedSimpArgs false
/-- a pair -/
structure Pr where
  base : Int
  mask : Int
namespace Pl
def Seq16 (n : Int) : Prop := 0 ≤ n ∧ n ≤ 65535
instance (n : Int) : Decidable (Seq16 n) := by unfold Seq16; infer_instance
def bit (p : Pr) (k : Nat) : Bool := p.mask.toNat.testBit k
/-- L says just S: each pair begins beyond what the one ahead reaches -/
structure PairsOf (S : Int → Prop) (L : List Pr) : Prop where
  gap : L.Pairwise fun p q => p.base + 16 < q.base
  ok : ∀ p ∈ L, S p.base ∧ 0 ≤ p.mask ∧ p.mask ≤ 65535 ∧ ∀ k, k < 16 → (bit p k = true ↔ S (p.base + k + 1))
  cov : ∀ n, S n → ∃ p ∈ L, p.base ≤ n ∧ n ≤ p.base + 16
theorem PairsOf.congr {S S' : Int → Prop} {L : List Pr} (h : PairsOf S L) (e : ∀ n, S n ↔ S' n) : PairsOf S' L := by
  have : S = S' := funext fun n => propext (e n)
  rw [← this]; exact h
theorem PairsOf.nil {S : Int → Prop} (h : ∀ n, ¬ S n) : PairsOf S [] := ⟨List.Pairwise.nil, fun p hp => by simp at hp, fun n hn => absurd hn (h n)⟩
theorem mask_eq {a b : Int} (ha : 0 ≤ a ∧ a ≤ 65535) (hb : 0 ≤ b ∧ b ≤ 65535) (h : ∀ k, k < 16 → a.toNat.testBit k = b.toNat.testBit k) : a = b := by
  have : a.toNat = b.toNat := by
    apply Nat.eq_of_testBit_eq
    intro k
    by_cases hk : k < 16
    · exact h k hk
    · have e : ∀ c : Nat, c < 65536 → c.testBit k = false := fun c hc => Nat.testBit_lt_two_pow (Nat.lt_of_lt_of_le hc (by
        calc 65536 = 2 ^ 16 := by decide
          _ ≤ 2 ^ k := Nat.pow_le_pow_right (by decide) (by omega)))
      rw [e _ (by omega), e _ (by omega)]
  omega
theorem PairsOf.tail {S : Int → Prop} {p : Pr} {L : List Pr} (h : PairsOf S (p :: L)) : PairsOf (fun n => S n ∧ p.base + 16 < n) L := by
  obtain ⟨g1, g2⟩ := List.pairwise_cons.1 h.gap
  refine ⟨g2, fun q hq => ?_, fun n hn => ?_⟩
  · obtain ⟨a, b, c, d⟩ := h.ok q (List.mem_cons_of_mem _ hq)
    have := g1 q hq
    refine ⟨⟨a, this⟩, b, c, fun k hk => (d k hk).trans ⟨fun e => ⟨e, by omega⟩, fun e => e.1⟩⟩
  · obtain ⟨q, hq, h1, h2⟩ := h.cov n hn.1
    rcases List.mem_cons.1 hq with rfl | hq
    · omega
    · exact ⟨q, hq, h1, h2⟩
theorem PairsOf.head_le {S : Int → Prop} {p : Pr} {L : List Pr} (h : PairsOf S (p :: L)) (n : Int) (hn : S n) : p.base ≤ n := by
  obtain ⟨q, hq, h1, h2⟩ := h.cov n hn
  rcases List.mem_cons.1 hq with rfl | hq
  · exact h1
  · have := (List.pairwise_cons.1 h.gap).1 q hq; omega
theorem PairsOf.eq : ∀ {L M : List Pr} {S : Int → Prop}, PairsOf S L → PairsOf S M → L = M
  | [], [], _, _, _ => rfl
  | [], q :: M, S, h, k => by
    obtain ⟨p, hp, _⟩ := h.cov q.base (k.ok q (by simp)).1
    simp at hp
  | p :: L, [], S, h, k => by
    obtain ⟨q, hq, _⟩ := k.cov p.base (h.ok p (by simp)).1
    simp at hq
  | p :: L, q :: M, S, h, k => by
    obtain ⟨a1, a2, a3, a4⟩ := h.ok p (by simp)
    obtain ⟨b1, b2, b3, b4⟩ := k.ok q (by simp)
    have e1 : p.base = q.base := by
      have := h.head_le q.base b1
      have := k.head_le p.base a1
      omega
    have e2 : p.mask = q.mask := mask_eq ⟨a2, a3⟩ ⟨b2, b3⟩ fun i hi => by
      have h1 := a4 i hi
      have h2 := b4 i hi
      rw [← e1] at h2
      rw [Bool.eq_iff_iff]
      exact h1.trans h2.symm
    have e : p = q := by cases p; cases q; simp at e1 e2; simp [e1, e2]
    subst e
    rw [PairsOf.eq h.tail k.tail]
/-- one that is there -/
theorem PairsOf.same {S : Int → Prop} {L : List Pr} (h : PairsOf S L) {n : Int} (hn : S n) : PairsOf (fun s => S s ∨ s = n) L :=
  h.congr fun m => ⟨.inl, fun e => e.elim id (fun e => e ▸ hn)⟩
/-- one within what the last reaches -/
theorem PairsOf.more {S : Int → Prop} {A : List Pr} {b m : Int} (h : PairsOf S (A ++ [⟨b, m⟩])) {d : Nat} (hd : d < 16) (hmax : ∀ s, S s → s ≤ b + d + 1) : PairsOf (fun s => S s ∨ s = b + d + 1) (A ++ [⟨b, ((m.toNat ||| 2 ^ d : Nat) : Int)⟩]) := by
  obtain ⟨g1, g2, g3⟩ := List.pairwise_append.1 h.gap
  obtain ⟨o1, o2, o3, o4⟩ := h.ok ⟨b, m⟩ (by simp)
  dsimp only at o1 o2 o3 o4
  refine ⟨?_, fun p hp => ?_, fun n hn => ?_⟩
  · rw [List.pairwise_append]
    refine ⟨g1, List.pairwise_singleton _ _, fun x hx y hy => ?_⟩
    simp at hy; subst hy
    exact g3 x hx ⟨b, m⟩ (by simp)
  · rcases List.mem_append.1 hp with hp | hp
    · obtain ⟨a1, a2, a3, a4⟩ := h.ok p (by simp [hp])
      have := g3 p hp ⟨b, m⟩ (by simp)
      dsimp only at this
      refine ⟨.inl a1, a2, a3, fun k hk => (a4 k hk).trans ⟨.inl, fun e => e.elim id (fun e => by omega)⟩⟩
    · simp at hp; subst hp
      dsimp only
      have hlt : m.toNat ||| 2 ^ d < 2 ^ 16 := Nat.or_lt_two_pow (by omega) (Nat.pow_lt_pow_right (by decide) hd)
      refine ⟨.inl o1, by omega, by omega, fun k hk => ?_⟩
      unfold bit at o4 ⊢
      dsimp only at o4 ⊢
      rw [Int.toNat_natCast, Nat.testBit_or, Bool.or_eq_true, o4 k hk, Nat.testBit_two_pow, decide_eq_true_iff]
      constructor
      · rintro (e | e)
        · exact .inl e
        · right; omega
      · rintro (e | e)
        · exact .inl e
        · right; omega
  · rcases hn with hn | rfl
    · obtain ⟨p, hp, h1, h2⟩ := h.cov n hn
      rcases List.mem_append.1 hp with hp | hp
      · exact ⟨p, by simp [hp], h1, h2⟩
      · simp at hp; subst hp
        exact ⟨⟨b, ((m.toNat ||| 2 ^ d : Nat) : Int)⟩, by simp, h1, h2⟩
    · exact ⟨⟨b, ((m.toNat ||| 2 ^ d : Nat) : Int)⟩, by simp, by dsimp only; omega, by dsimp only; omega⟩
/-- one beyond all -/
theorem PairsOf.next {S : Int → Prop} {L : List Pr} (h : PairsOf S L) {n : Int} (hmax : ∀ s, S s → s < n) (hg : ∀ p ∈ L, p.base + 16 < n) : PairsOf (fun s => S s ∨ s = n) (L ++ [⟨n, 0⟩]) := by
  refine ⟨?_, fun p hp => ?_, fun m hm => ?_⟩
  · rw [List.pairwise_append]
    refine ⟨h.gap, List.pairwise_singleton _ _, fun x hx y hy => ?_⟩
    simp at hy; subst hy
    exact hg x hx
  · rcases List.mem_append.1 hp with hp | hp
    · obtain ⟨a1, a2, a3, a4⟩ := h.ok p hp
      have := hg p hp
      refine ⟨.inl a1, a2, a3, fun k hk => (a4 k hk).trans ⟨.inl, fun e => e.elim id (fun e => by omega)⟩⟩
    · simp at hp; subst hp
      refine ⟨.inr rfl, Int.le_refl 0, by dsimp only; omega, fun k hk => ?_⟩
      unfold bit
      simp only [Int.toNat_zero, Nat.zero_testBit, Bool.false_eq_true, false_iff]
      rintro (e | e)
      · have := hmax _ e; omega
      · omega
  · rcases hm with hm | rfl
    · obtain ⟨p, hp, h1⟩ := h.cov m hm
      exact ⟨p, by simp [hp], h1⟩
    · exact ⟨⟨m, 0⟩, by simp, by simp, by dsimp only; omega⟩
/-- what lies in the pairs ahead is ahead of the last -/
theorem PairsOf.last {S : Int → Prop} {A : List Pr} {p : Pr} (h : PairsOf S (A ++ [p])) : ∀ q ∈ A ++ [p], q.base ≤ p.base := fun q hq => by
  rcases List.mem_append.1 hq with hq | hq
  · have := (List.pairwise_append.1 h.gap).2.2 q hq p (by simp); omega
  · simp at hq; subst hq; exact Int.le_refl _
/-- the numbers of one, of many -/
def numOf (p : Pr) : List Int := p.base :: ((List.range 16).filter (bit p)).map fun k : Nat => p.base + (k : Int) + 1
def numsOf (L : List Pr) : List Int := L.flatMap numOf
theorem mem_numOf {p : Pr} {n : Int} : n ∈ numOf p ↔ n = p.base ∨ ∃ k, k < 16 ∧ bit p k = true ∧ n = p.base + (k : Int) + 1 := by
  unfold numOf
  rw [List.mem_cons, List.mem_map]
  constructor
  · rintro (h | ⟨k, hk, rfl⟩)
    · exact .inl h
    · rw [List.mem_filter, List.mem_range] at hk
      exact .inr ⟨k, hk.1, hk.2, rfl⟩
  · rintro (h | ⟨k, h1, h2, rfl⟩)
    · exact .inl h
    · exact .inr ⟨k, by rw [List.mem_filter, List.mem_range]; exact ⟨h1, h2⟩, rfl⟩
theorem numOf_len (p : Pr) : 1 ≤ (numOf p).length ∧ (numOf p).length ≤ 17 := by
  unfold numOf
  have := List.length_filter_le (bit p) (List.range 16)
  simp at *
  omega
theorem numsOf_len (L : List Pr) : L.length ≤ (numsOf L).length ∧ (numsOf L).length ≤ 17 * L.length := by
  induction L with
  | nil => simp [numsOf]
  | cons p r ih =>
    have := numOf_len p
    unfold numsOf at *
    rw [List.flatMap_cons, List.length_append, List.length_cons]
    omega
theorem numOf_rises (p : Pr) : (numOf p).Pairwise (· < ·) := by
  unfold numOf
  rw [List.pairwise_cons]
  refine ⟨fun x hx => ?_, ?_⟩
  · obtain ⟨k, _, rfl⟩ := List.mem_map.1 hx
    omega
  · rw [List.pairwise_map]
    refine (List.Pairwise.filter _ List.pairwise_lt_range).imp fun {a b} h => by omega
theorem PairsOf.mem {S : Int → Prop} {L : List Pr} (h : PairsOf S L) (n : Int) : n ∈ numsOf L ↔ S n := by
  unfold numsOf
  rw [List.mem_flatMap]
  constructor
  · rintro ⟨p, hp, hn⟩
    obtain ⟨a1, a2, a3, a4⟩ := h.ok p hp
    rcases mem_numOf.1 hn with rfl | ⟨k, h1, h2, rfl⟩
    · exact a1
    · exact (a4 k h1).1 h2
  · intro hn
    obtain ⟨p, hp, h1, h2⟩ := h.cov n hn
    obtain ⟨a1, a2, a3, a4⟩ := h.ok p hp
    refine ⟨p, hp, mem_numOf.2 ?_⟩
    by_cases e : n = p.base
    · exact .inl e
    · refine .inr ⟨(n - p.base - 1).toNat, by omega, ?_, by omega⟩
      refine (a4 _ (by omega)).2 ?_
      rw [show p.base + ((n - p.base - 1).toNat : Int) + 1 = n by omega]
      exact hn
theorem PairsOf.rises {S : Int → Prop} {L : List Pr} (h : PairsOf S L) : (numsOf L).Pairwise (· < ·) := by
  have hg := h.gap
  clear h
  induction L with
  | nil => simp [numsOf]
  | cons p r ih =>
    obtain ⟨g1, g2⟩ := List.pairwise_cons.1 hg
    unfold numsOf at *
    rw [List.flatMap_cons, List.pairwise_append]
    refine ⟨numOf_rises p, ih g2, fun x hx y hy => ?_⟩
    obtain ⟨q, hq, hy⟩ := List.mem_flatMap.1 hy
    have := g1 q hq
    have hx1 : x ≤ p.base + 16 := by
      rcases mem_numOf.1 hx with rfl | ⟨k, h1, h2, rfl⟩ <;> omega
    have hy1 : q.base ≤ y := by
      rcases mem_numOf.1 hy with rfl | ⟨k, h1, h2, rfl⟩ <;> omega
    omega
/-- of numbers that follow each other -/
theorem PairsOf.row {a : Int} {many : Nat} {L : List Pr} (h : PairsOf (fun n => a ≤ n ∧ n < a + many) L) : L.length = (many + 16) / 17 := by
  induction L generalizing a many with
  | nil =>
    by_cases h0 : many = 0
    · subst h0; rfl
    · obtain ⟨p, hp, _⟩ := h.cov a ⟨by omega, by omega⟩
      simp at hp
  | cons p r ih =>
    have hp := (h.ok p (by simp)).1
    have hpa : p.base = a := by
      have := h.head_le a ⟨by omega, by omega⟩
      omega
    by_cases h17 : many ≤ 17
    · have hr : r = [] := by
        cases r with
        | nil => rfl
        | cons q s =>
          have h1 := (h.ok q (by simp)).1
          have h2 := (List.pairwise_cons.1 h.gap).1 q (by simp)
          omega
      subst hr
      have : 1 ≤ many := by omega
      have : (many + 16) / 17 = 1 := by omega
      rw [this]; rfl
    · have ht := h.tail.congr (S' := fun n => a + 17 ≤ n ∧ n < (a + 17) + ((many - 17 : Nat) : Int)) (fun n => by omega)
      have := ih ht
      rw [List.length_cons, this]
      omega
theorem nums_eq {S : Int → Prop} {L : List Pr} {R : List Int} (h : PairsOf S L) (hR : R.Pairwise (· < ·)) (hm : ∀ i, i ∈ R ↔ i ∈ numsOf L) : R = numsOf L := by
  have key : ∀ {A B : List Int}, A.Pairwise (· < ·) → B.Pairwise (· < ·) → (∀ i, i ∈ A ↔ i ∈ B) → A = B := by
    intro A
    induction A with
    | nil =>
      intro B _ _ hm
      cases B with
      | nil => rfl
      | cons y s => exact absurd ((hm y).2 (by simp)) (by simp)
    | cons x r ih =>
      intro B h1 h2 hm
      cases B with
      | nil => exact absurd ((hm x).1 (by simp)) (by simp)
      | cons y s =>
        obtain ⟨a1, a2⟩ := List.pairwise_cons.1 h1
        obtain ⟨b1, b2⟩ := List.pairwise_cons.1 h2
        have e : x = y := by
          rcases List.mem_cons.1 ((hm x).1 (by simp)) with q | q
          · exact q
          · rcases List.mem_cons.1 ((hm y).2 (by simp)) with q' | q'
            · exact q'.symm
            · have := a1 y q'; have := b1 x q; omega
        subst e
        congr 1
        refine ih a2 b2 fun z => ⟨fun hz => ?_, fun hz => ?_⟩
        · rcases List.mem_cons.1 ((hm z).1 (by simp [hz])) with q | q
          · subst q; have := a1 z hz; omega
          · exact q
        · rcases List.mem_cons.1 ((hm z).2 (by simp [hz])) with q | q
          · subst q; have := b1 z hz; omega
          · exact q
  exact key hR h.rises hm
/-- a pair that may be -/
def prOk (p : Pr) : Prop := Seq16 p.base ∧ Seq16 p.mask ∧ ∀ x ∈ numOf p, x ≤ 65535
instance (p : Pr) : Decidable (prOk p) := by unfold prOk; infer_instance
/-- the fault of pairs -/
def numF (L : List Pr) : Int := if 200 < L.length then 4 else if ∀ p ∈ L, prOk p then 0 else 1
/-- the fault of numbers -/
def pairF (A : List Int) : Int := if 200 < A.length then 4 else if ∀ n ∈ A, Seq16 n then 0 else 1
theorem PairsOf.fault {A : List Int} {L : List Pr} (h : PairsOf (· ∈ A) L) (hA : pairF A = 0) (hL : L.length ≤ A.length) : numF L = 0 := by
  unfold pairF at hA
  split at hA
  · cases hA
  · split at hA
    · rename_i h1 h2
      unfold numF
      rw [if_neg (by omega), if_pos]
      intro p hp
      obtain ⟨a1, a2, a3, a4⟩ := h.ok p hp
      refine ⟨h2 _ a1, ⟨a2, a3⟩, fun x hx => ?_⟩
      have := (h.mem x).1 (by unfold numsOf; rw [List.mem_flatMap]; exact ⟨p, hp, hx⟩)
      exact (h2 _ this).2
    · cases hA
end Pl
end Go.Proofs.YthbcdpckckellaaDoor
