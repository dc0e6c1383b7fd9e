import Derived.Test.YtmmfnalcdekkbaaDoorPTreeW
/-! Trees, the plain law: ways that are made shorter as long as they can be; the least of those that a way may come by. -/
namespace Go.Proofs.YtmmfnalcdekkbaaDoor
set_option linter.unusedVariables false
set_option linter.unusedSimpArgs false
namespace Pl
/-- reached by r steps -/
def Rch (n root : Nat) (C : Nat → Nat → Int) (D : Nat → Int) : Nat → Nat → Prop
  | 0, i => i = root
  | r + 1, i => Rch n root C D r i ∨ ∃ k, k < n ∧ Rch n root C D r k ∧ 0 ≤ D k ∧ 0 < C k i ∧ D k + C k i = D i
theorem Rch.mono {n root : Nat} {C : Nat → Nat → Int} {D : Nat → Int} {r r' i : Nat} (h : Rch n root C D r i) (hr : r ≤ r') : Rch n root C D r' i := by
  induction r' with
  | zero => obtain rfl : r = 0 := by omega
            exact h
  | succ m ih =>
    by_cases e : r = m + 1
    · subst e; exact h
    · exact Or.inl (ih (by omega))
theorem rch_cnt {n root : Nat} {C : Nat → Nat → Int} {D : Nat → Int} (hD : Dj n root C D) : ∀ (m i : Nat), i < n → 0 ≤ D i → D i < m → Rch n root C D (cnt (fun j => decide (0 ≤ D j ∧ D j < D i)) n) i := by
  intro m
  induction m with
  | zero => intro i _ h1 h2; omega
  | succ m ih =>
    intro i hi h0 h1
    by_cases e : i = root
    · exact Rch.mono (r := 0) e (by omega)
    · obtain ⟨k, hk, a1, a2, a3⟩ := hD.tig i hi e h0
      have hr := ih k hk a1 (by omega)
      have hlt := cnt_lt (p := fun j => decide (0 ≤ D j ∧ D j < D k)) (q := fun j => decide (0 ≤ D j ∧ D j < D i)) n (fun j _ hj => by simp at hj ⊢; omega) k hk (by simp) (by simp; omega)
      have hs : Rch n root C D (cnt (fun j => decide (0 ≤ D j ∧ D j < D k)) n + 1) i := Or.inr ⟨k, hk, hr, a1, a2, a3⟩
      exact Rch.mono hs hlt
theorem rch_all {n root : Nat} {C : Nat → Nat → Int} {D : Nat → Int} (hD : Dj n root C D) (i : Nat) (hi : i < n) (h0 : 0 ≤ D i) : Rch n root C D n i :=
  Rch.mono (rch_cnt hD (D i).toNat.succ i hi h0 (by omega)) (Nat.le_of_lt (cnt_lt_n n i hi (by simp)))
/-- one edge, one way -/
def relax (B : Nat → Int) (x y : Nat) (c : Int) (j : Nat) : Int := if j = y ∧ 0 ≤ B x ∧ (B y < 0 ∨ B x + c < B y) then B x + c else B j
/-- no way is shorter than the least -/
structure BLo (n : Nat) (D B : Nat → Int) : Prop where
  lo : ∀ i, i < n → B i = -1 ∨ (0 ≤ D i ∧ D i ≤ B i)
theorem BLo.relax {n root : Nat} {C : Nat → Nat → Int} {D B : Nat → Int} (hD : Dj n root C D) (h : BLo n D B) (x y : Nat) (hx : x < n) (hy : y < n) (hc : 0 < C x y) : BLo n D (relax B x y (C x y)) := by
  refine ⟨fun i hi => ?_⟩
  unfold Pl.relax
  by_cases q : i = y ∧ 0 ≤ B x ∧ (B y < 0 ∨ B x + C x y < B y)
  · rw [if_pos q]
    rcases h.lo x hx with a | a
    · omega
    · have := hD.rel x y hx hy a.1 hc
      rw [q.1]; omega
  · rw [if_neg q]; exact h.lo i hi
/-- what is least already stays -/
theorem relax_keep {n root : Nat} {C : Nat → Nat → Int} {D B : Nat → Int} (hD : Dj n root C D) (h : BLo n D B) (x y : Nat) (hx : x < n) (hy : y < n) (hc : 0 < C x y) (i : Nat) (hi : i < n) (h0 : 0 ≤ D i) (he : B i = D i) : relax B x y (C x y) i = D i := by
  unfold Pl.relax
  by_cases q : i = y ∧ 0 ≤ B x ∧ (B y < 0 ∨ B x + C x y < B y)
  · rcases h.lo x hx with a | a
    · omega
    · have := hD.rel x y hx hy a.1 hc
      have e := q.1
      subst e
      omega
  · rw [if_neg q]; exact he
/-- .. and what comes by one that is least becomes so -/
theorem relax_hit {n root : Nat} {C : Nat → Nat → Int} {D B : Nat → Int} (hD : Dj n root C D) (h : BLo n D B) (x y : Nat) (hx : x < n) (hy : y < n) (h0 : 0 ≤ D x) (he : B x = D x) (hc : 0 < C x y) (ht : D x + C x y = D y) : relax B x y (C x y) y = D y := by
  unfold Pl.relax
  by_cases q : y = y ∧ 0 ≤ B x ∧ (B y < 0 ∨ B x + C x y < B y)
  · rw [if_pos q]; omega
  · rw [if_neg q]
    rcases h.lo y hy with a | a
    · exfalso; exact q ⟨rfl, by omega, .inl (by omega)⟩
    · by_cases e : B x + C x y < B y
      · exact absurd ⟨rfl, by omega, .inr e⟩ q
      · omega
/-- where it stands: r rounds, k edges of the next one -/
structure BF (n root : Nat) (L : List Ed) (D B : Nat → Int) (r k : Nat) : Prop where
  blo : BLo n D B
  up : ∀ i, i < n → B i ≤ 1000000 * (400 * (r : Int) + 2 * k)
  rch : ∀ i, i < n → 0 ≤ D i → Rch n root (costN L) D r i → B i = D i
  new : ∀ m (hm : m < L.length), m < k → ∀ x y : Nat, x < n → y < n → edM x y L[m] = true → 0 ≤ D x → Rch n root (costN L) D r x → D x + costN L x y = D y → B y = D y
theorem BF.start {n root : Nat} {L : List Ed} {D : Nat → Int} (hn : ∀ x y, 0 ≤ costN L x y) (hD : Dj n root (costN L) D) : BF n root L D (fun j => if j = root then 0 else -1) 0 0 := by
  refine ⟨⟨fun i hi => ?_⟩, fun i hi => ?_, fun i hi h0 hr => ?_, fun m hm h => by omega⟩
  · by_cases e : i = root
    · subst e; rw [if_pos rfl]; right; rw [hD.d0]; omega
    · rw [if_neg e]; exact .inl rfl
  · by_cases e : i = root
    · rw [if_pos e]; omega
    · rw [if_neg e]; omega
  · have e : i = root := hr
    subst e; rw [if_pos rfl, hD.d0]
/-- an edge, both ways -/
theorem BF.step {n root : Nat} {L : List Ed} {D B : Nat → Int} {r k : Nat} (hg : GoodE n L) (hD : Dj n root (costN L) D) (h : BF n root L D B r k) (hk : k < L.length) (a b : Nat) (ha : L[k].a = a) (hb : L[k].b = b) :
    BF n root L D (relax (relax B a b L[k].c) b a L[k].c) r (k + 1) := by
  have hE := hg.edge k hk
  have c1 : costN L a b = L[k].c := hg.cost hk (by unfold edM; simp [ha, hb])
  have c2 : costN L b a = L[k].c := hg.cost hk (by unfold edM; simp [ha, hb])
  have han : a < n := by omega
  have hbn : b < n := by omega
  have hp : 0 < L[k].c := by omega
  have p1 : 0 < costN L a b := by rw [c1]; exact hp
  have p2 : 0 < costN L b a := by rw [c2]; exact hp
  have b1 := h.blo.relax hD a b han hbn p1
  have b2 := b1.relax hD b a hbn han p2
  have keep : ∀ i, i < n → 0 ≤ D i → B i = D i → Pl.relax (Pl.relax B a b (costN L a b)) b a (costN L b a) i = D i := fun i hi h0 he =>
    relax_keep hD b1 b a hbn han p2 i hi h0 (relax_keep hD h.blo a b han hbn p1 i hi h0 he)
  rw [c1] at b2 keep
  rw [c2] at b2 keep
  refine ⟨b2, fun i hi => ?_, fun i hi h0 hr => keep i hi h0 (h.rch i hi h0 hr), fun m hm hmk x y hx hy hxy h0 hr ht => ?_⟩
  · have u : ∀ i, i < n → Pl.relax B a b L[k].c i ≤ 1000000 * (400 * (r : Int) + 2 * k) + 1000000 := fun i hi => by
      unfold Pl.relax
      have := h.up i hi
      have := h.up a han
      split <;> omega
    have := u i hi
    have := u b hbn
    unfold Pl.relax at *
    split <;> omega
  · have hy0 : 0 ≤ D y := by
      have : 0 ≤ costN L x y := (hg.cost_lo x y).1
      omega
    by_cases e : m < k
    · exact keep y hy hy0 (h.new m hm e x y hx hy hxy h0 hr ht)
    · obtain rfl : m = k := by omega
      have hm2 := of_decide_eq_true hxy
      rw [ha, hb] at hm2
      have hex := h.rch x hx h0 hr
      rcases hm2 with ⟨e1, e2⟩ | ⟨e1, e2⟩
      · obtain rfl : a = x := by omega
        obtain rfl : b = y := by omega
        have s1 := relax_hit hD h.blo a b han hbn h0 hex p1 ht
        have s2 := relax_keep hD b1 b a hbn han p2 b hbn hy0 s1
        rw [c1, c2] at s2
        exact s2
      · obtain rfl : b = x := by omega
        obtain rfl : a = y := by omega
        have s1 := relax_keep hD h.blo a b han hbn p1 b hbn h0 hex
        have s2 := relax_hit hD b1 b a hbn han h0 s1 p2 ht
        rw [c1, c2] at s2
        exact s2
/-- a round is done -/
theorem BF.round {n root : Nat} {L : List Ed} {D B : Nat → Int} {r : Nat} (hg : GoodE n L) (hD : Dj n root (costN L) D) (h : BF n root L D B r L.length) : BF n root L D B (r + 1) 0 := by
  refine ⟨h.blo, fun i hi => ?_, fun i hi h0 hr => ?_, fun m hm hmk => by omega⟩
  · have := h.up i hi
    have := hg.len
    omega
  · rcases hr with hr | ⟨k, hk, hr, hk0, hc, ht⟩
    · exact h.rch i hi h0 hr
    · obtain ⟨m, hm, h1, h2⟩ := hg.hit (i := k) (j := i) (by unfold costN at hc; omega)
      exact h.new m hm hm k i hk hi h1 hk0 hr ht
/-- all rounds are done -/
theorem BF.done {n root : Nat} {L : List Ed} {D B : Nat → Int} {k : Nat} (hD : Dj n root (costN L) D) (h : BF n root L D B n k) (i : Nat) (hi : i < n) : B i = D i := by
  by_cases h0 : 0 ≤ D i
  · exact h.rch i hi h0 (rch_all hD i hi h0)
  · have := hD.lo i hi
    rcases h.blo.lo i hi with a | a <;> omega
/-- the least one of the first k edges' other ends that a way may come by -/
def RBest (n : Nat) (L : List Ed) (D : Nat → Int) (i k : Nat) (b : Int) : Prop :=
  (b = -1 ∧ ∀ m (hm : m < L.length), m < k → ∀ o : Nat, edM o i L[m] = true → ¬ Tgt (costN L) D o i) ∨
  ∃ o : Nat, b = o ∧ o < n ∧ Tgt (costN L) D o i ∧ ∀ m (hm : m < L.length), m < k → ∀ o' : Nat, edM o' i L[m] = true → Tgt (costN L) D o' i → o ≤ o'
theorem RBest.par {n : Nat} {L : List Ed} {D : Nat → Int} {i : Nat} {b : Int} (hg : GoodE n L) (h : RBest n L D i L.length b) : PBest n (costN L) D i 0 b := by
  have key : ∀ o, Tgt (costN L) D o i → ∃ m, ∃ hm : m < L.length, edM o i L[m] = true := fun o ho => by
    obtain ⟨m, hm, h1, _⟩ := hg.hit (i := o) (j := i) (by have := ho.1; unfold costN at this; omega)
    exact ⟨m, hm, h1⟩
  rcases h with ⟨rfl, h⟩ | ⟨o, rfl, h1, h2, h3⟩
  · exact .inl ⟨rfl, fun j _ _ hj => by
      obtain ⟨m, hm, q⟩ := key j hj
      exact h m hm hm j q hj⟩
  · exact .inr ⟨o, rfl, by omega, h1, h2, fun j _ hj hjt => by
      obtain ⟨m, hm, q⟩ := key j hjt
      have := h3 m hm hm j q hjt
      omega⟩
end Pl
end Go.Proofs.YtmmfnalcdekkbaaDoor
