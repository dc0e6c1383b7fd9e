import Derived.Test.YtggfhcidmnageaaDoorPk
/-! Audit, the plain law: places of what was got in what was sent. -/
namespace Go.Proofs.YtggfhcidmnageaaDoor
set_option linter.unusedVariables false
set_option linter.unusedSimpArgs false
namespace Pl
/-- is a packet one that was sent? -/
def alikeP (a b : Pk) : Bool := decide (a.l = b.l ∧ a.lv = b.lv ∧ a.st = b.st ∧ a.body = b.body)
/-- the first one from f on -/
def NextAt (S : List Pk) (g : Pk) (f k : Nat) : Prop := f ≤ k ∧ (∃ x, S[k]? = some x ∧ alikeP x g = true) ∧ ∀ j x, f ≤ j → j < k → S[j]? = some x → alikeP x g = false
def NoneAt (S : List Pk) (g : Pk) (f : Nat) : Prop := ∀ j x, f ≤ j → S[j]? = some x → alikeP x g = false
theorem NextAt.eq {S : List Pk} {g : Pk} {f k k' : Nat} (h : NextAt S g f k) (h' : NextAt S g f k') : k = k' := by
  obtain ⟨h1, ⟨x, h2, h3⟩, h4⟩ := h
  obtain ⟨q1, ⟨y, q2, q3⟩, q4⟩ := h'
  rcases Nat.lt_trichotomy k k' with q | q | q
  · have := q4 k x h1 q h2; rw [this] at h3; cases h3
  · exact q
  · have := h4 k' y q1 q q2; rw [this] at q3; cases q3
theorem NextAt.not {S : List Pk} {g : Pk} {f k : Nat} (h : NextAt S g f k) (h' : NoneAt S g f) : False := by
  obtain ⟨h1, ⟨x, h2, h3⟩, h4⟩ := h
  have := h' k x h1 h2; rw [this] at h3; cases h3
theorem NextAt.lt {S : List Pk} {g : Pk} {f k : Nat} (h : NextAt S g f k) : k < S.length := by
  obtain ⟨h1, ⟨x, h2, h3⟩, h4⟩ := h
  exact (List.getElem?_eq_some_iff.1 h2).1
/-- the places of the first n that were got; from where on the next one is looked for -/
inductive Chn (S G : List Pk) : Nat → List Nat → Nat → Prop
  | nil : Chn S G 0 [] 0
  | snoc {n f k : Nat} {c : List Nat} {g : Pk} : Chn S G n c f → G[n]? = some g → NextAt S g f k → Chn S G (n + 1) (c ++ [k]) (k + 1)
theorem Chn.eq {S G : List Pk} {n f : Nat} {c : List Nat} (h : Chn S G n c f) : ∀ {c' : List Nat} {f' : Nat}, Chn S G n c' f' → c = c' ∧ f = f' := by
  induction h with
  | nil => intro c' f' h'; cases h'; exact ⟨rfl, rfl⟩
  | snoc h1 h2 h3 ih =>
    intro c' f' h'
    cases h' with
    | snoc q1 q2 q3 =>
      obtain ⟨rfl, rfl⟩ := ih q1
      rw [h2] at q2
      cases q2
      obtain rfl := h3.eq q3
      exact ⟨rfl, rfl⟩
theorem Chn.len {S G : List Pk} {n f : Nat} {c : List Nat} (h : Chn S G n c f) : c.length = n ∧ n ≤ G.length ∧ f ≤ S.length := by
  induction h with
  | nil => simp
  | snoc h1 h2 h3 ih =>
    have := (List.getElem?_eq_some_iff.1 h2).1
    have := h3.lt
    simp
    omega
theorem Chn.down {S G : List Pk} {n f : Nat} {c : List Nat} (h : Chn S G n c f) : ∀ m, m ≤ n → ∃ c' f', Chn S G m c' f' := by
  induction h with
  | nil => intro m hm; obtain rfl : m = 0 := by omega
           exact ⟨_, _, .nil⟩
  | @snoc n f k c g h1 h2 h3 ih =>
    intro m hm
    by_cases e : m = n + 1
    · subst e; exact ⟨_, _, .snoc h1 h2 h3⟩
    · exact ih m (by omega)
theorem Chn.last {S G : List Pk} {n f : Nat} {c : List Nat} (h : Chn S G (n + 1) c f) : ∃ c' f' k g, Chn S G n c' f' ∧ G[n]? = some g ∧ NextAt S g f' k ∧ c = c' ++ [k] ∧ f = k + 1 := by
  cases h with
  | snoc h1 h2 h3 => exact ⟨_, _, _, _, h1, h2, h3, rfl, rfl⟩
/-- what is said of places -/
def PlacesR (S G : List Pk) (c : List Nat) (at_ e : Int) : Prop :=
  ((1000 < S.length ∨ 1000 < G.length) ∧ c = [] ∧ at_ = 0 ∧ e = 4) ∨ ((S.length ≤ 1000 ∧ G.length ≤ 1000) ∧
    ((∃ f, Chn S G G.length c f ∧ at_ = 0 ∧ e = 0) ∨ ∃ n c' f g, Chn S G n c' f ∧ G[n]? = some g ∧ NoneAt S g f ∧ c = [] ∧ at_ = n ∧ e = 5))
theorem PlacesR.eq {S G : List Pk} {c c' : List Nat} {a a' e e' : Int} (h : PlacesR S G c a e) (k : PlacesR S G c' a' e') : c = c' ∧ a = a' ∧ e = e' := by
  have clash : ∀ {n : Nat} {q c : List Nat} {f m : Nat} {g : Pk}, Chn S G m c f → Chn S G n q f → True := fun _ _ => trivial
  have no : ∀ {c : List Nat} {f f' n : Nat} {q : List Nat} {g : Pk}, Chn S G G.length c f → Chn S G n q f' → G[n]? = some g → NoneAt S g f' → False := fun {c f f' n q g} h1 h2 h3 h4 => by
    have hn := (List.getElem?_eq_some_iff.1 h3).1
    obtain ⟨c2, f2, h5⟩ := h1.down (n + 1) (by omega)
    obtain ⟨c3, f3, k, g', q1, q2, q3, _, _⟩ := h5.last
    obtain ⟨rfl, rfl⟩ := q1.eq h2
    rw [h3] at q2; cases q2
    exact q3.not h4
  have no2 : ∀ {n n' f f' : Nat} {q q' : List Nat} {g g' : Pk}, n < n' → Chn S G n q f → G[n]? = some g → NoneAt S g f → Chn S G n' q' f' → False := fun {n n' f f' q q' g g'} hlt h1 h2 h3 h4 => by
    obtain ⟨c2, f2, h5⟩ := h4.down (n + 1) (by omega)
    obtain ⟨c3, f3, k, g2, q1, q2, q3, _, _⟩ := h5.last
    obtain ⟨rfl, rfl⟩ := q1.eq h1
    rw [h2] at q2; cases q2
    exact q3.not h3
  rcases h with ⟨h1, rfl, rfl, rfl⟩ | ⟨h1, ⟨f, h2, rfl, rfl⟩ | ⟨n, q, f, g, h2, h3, h4, rfl, rfl, rfl⟩⟩
  · rcases k with ⟨k1, rfl, rfl, rfl⟩ | ⟨k1, _⟩
    · exact ⟨rfl, rfl, rfl⟩
    · omega
  · rcases k with ⟨k1, _⟩ | ⟨k1, ⟨f', k2, rfl, rfl⟩ | ⟨n', q', f', g', k2, k3, k4, rfl, rfl, rfl⟩⟩
    · omega
    · exact ⟨(h2.eq k2).1, rfl, rfl⟩
    · exact (no h2 k2 k3 k4).elim
  · rcases k with ⟨k1, _⟩ | ⟨k1, ⟨f', k2, rfl, rfl⟩ | ⟨n', q', f', g', k2, k3, k4, rfl, rfl, rfl⟩⟩
    · omega
    · exact (no k2 h2 h3 h4).elim
    · rcases Nat.lt_trichotomy n n' with r | r | r
      · exact (no2 (g' := g) r h2 h3 h4 k2).elim
      · subst r; exact ⟨rfl, rfl, rfl⟩
      · exact (no2 (g' := g) r k2 k3 k4 h2).elim
end Pl
end Go.Proofs.YtggfhcidmnageaaDoor
