import Derived.Test.YtggfhcidmnageaaDoorPAudit
/-! Audit, the plain law: holes, rows, delays. -/
namespace Go.Proofs.YtggfhcidmnageaaDoor
set_option linter.unusedVariables false
set_option linter.unusedSimpArgs false
namespace Pl
theorem Chn.bd {S G : List Pk} {n f : Nat} {c : List Nat} (h : Chn S G n c f) : ∀ x ∈ c, x < S.length := by
  induction h with
  | nil => intro x hx; cases hx
  | @snoc n f k c g h1 h2 h3 ih =>
    intro x hx
    rcases List.mem_append.1 hx with hx | hx
    · exact ih x hx
    · have : x = k := by simpa using hx
      subst this
      exact h3.lt
theorem PlacesR.bd {S G : List Pk} {c : List Nat} {a e : Int} (h : PlacesR S G c a e) : (∀ x ∈ c, x < 1000) ∧ c.length ≤ 1000 := by
  rcases h with ⟨_, rfl, _⟩ | ⟨⟨h1, h1'⟩, ⟨f, h2, _⟩ | ⟨n, q, f, g, _, _, _, rfl, _⟩⟩
  · simp
  · exact ⟨fun x hx => by have := h2.bd x hx; omega, by have := h2.len; omega⟩
  · simp
theorem PlacesR.nil {S G : List Pk} {c : List Nat} {a e : Int} (h : PlacesR S G c a e) (he : e ≠ 0) : c = [] := by
  rcases h with ⟨_, rfl, _⟩ | ⟨h1, ⟨f, h2, _, e0⟩ | ⟨n, q, f, g, _, _, _, rfl, _⟩⟩
  · rfl
  · exact absurd e0 he
  · rfl
/-- what lies between the places -/
def hol (c : List Nat) (i : Nat) : List Int := (List.range (i - 1)).map fun k => (c.getD (k + 1) 0 : Int) - (c.getD k 0 : Int) - 1
theorem hol_one (c : List Nat) : hol c 1 = [] := rfl
theorem hol_len (c : List Nat) (i : Nat) : (hol c i).length = i - 1 := by simp [hol]
theorem hol_step (c : List Nat) (i : Nat) (h : 1 ≤ i) : hol c (i + 1) = hol c i ++ [(c.getD i 0 : Int) - (c.getD (i - 1) 0 : Int) - 1] := by
  obtain ⟨k, rfl⟩ : ∃ k, i = k + 1 := ⟨i - 1, by omega⟩
  unfold hol
  rw [show k + 1 + 1 - 1 = k + 1 from rfl, show k + 1 - 1 = k from rfl, List.range_succ, List.map_append]
  rfl
theorem hol_nil (c : List Nat) (i : Nat) (h : i ≤ 1) : hol c i = [] := by
  unfold hol
  rw [show i - 1 = 0 by omega]
  rfl
/-- the first fault, and where -/
def FstR (F : Nat → Int) (n : Nat) (at_ f : Int) : Prop := (f = 0 ∧ at_ = 0 ∧ ∀ i, i < n → F i = 0) ∨ (f ≠ 0 ∧ ∃ i : Nat, i < n ∧ at_ = i ∧ F i = f ∧ ∀ j, j < i → F j = 0)
theorem FstR.eq {F : Nat → Int} {n : Nat} {a a' f f' : Int} (h : FstR F n a f) (k : FstR F n a' f') : a = a' ∧ f = f' := by
  rcases h with ⟨rfl, rfl, h1⟩ | ⟨h0, i, h1, rfl, h2, h3⟩ <;> rcases k with ⟨rfl, rfl, k1⟩ | ⟨k0, i', k1, rfl, k2, k3⟩
  · exact ⟨rfl, rfl⟩
  · exact absurd (k2.symm.trans (h1 _ k1)) k0
  · exact absurd (h2.symm.trans (k1 _ h1)) h0
  · rcases Nat.lt_trichotomy i i' with q | q | q
    · exact absurd (h2.symm.trans (k3 _ q)) h0
    · subst q; exact ⟨rfl, h2.symm.trans k2⟩
    · exact absurd (k2.symm.trans (h3 _ q)) k0
/-- a packet's fault in its row -/
def rowF (G : List Pk) (i : Nat) : Int :=
  match G[i]? with
  | none => 0
  | some p => if pkFault p.s p.t p.l p.lv p.body.length = 0 then (match G[i - 1]? with | none => 0 | some q => if 0 < i ∧ p.s ≠ (q.s + 1) % 65536 then 3 else 0) else pkFault p.s p.t p.l p.lv p.body.length
theorem rowF_bad {G : List Pk} {i : Nat} {p : Pk} (h : G[i]? = some p) (hf : pkFault p.s p.t p.l p.lv p.body.length ≠ 0) : rowF G i = pkFault p.s p.t p.l p.lv p.body.length := by
  unfold rowF; rw [h]; simp only []; rw [if_neg hf]
theorem rowF_zero {G : List Pk} {p : Pk} (h : G[0]? = some p) (hf : pkFault p.s p.t p.l p.lv p.body.length = 0) : rowF G 0 = 0 := by
  unfold rowF; rw [h]; simp only []; rw [if_pos hf]; simp
theorem rowF_ok {G : List Pk} {i : Nat} {p q : Pk} (hi : 0 < i) (h : G[i]? = some p) (hf : pkFault p.s p.t p.l p.lv p.body.length = 0) (h2 : G[i - 1]? = some q) (he : p.s = (q.s + 1) % 65536) : rowF G i = 0 := by
  unfold rowF; rw [h]; simp only []; rw [if_pos hf, h2]; simp only []; rw [if_neg (fun x => x.2 he)]
theorem rowF_gap {G : List Pk} {i : Nat} {p q : Pk} (hi : 0 < i) (h : G[i]? = some p) (hf : pkFault p.s p.t p.l p.lv p.body.length = 0) (h2 : G[i - 1]? = some q) (he : p.s ≠ (q.s + 1) % 65536) : rowF G i = 3 := by
  unfold rowF; rw [h]; simp only []; rw [if_pos hf, h2]; simp only []; rw [if_pos ⟨hi, he⟩]
theorem rowF_prev {G : List Pk} {i : Nat} {p : Pk} (h : G[i]? = some p) (h0 : rowF G i = 0) : pkFault p.s p.t p.l p.lv p.body.length = 0 := by
  by_cases hf : pkFault p.s p.t p.l p.lv p.body.length = 0
  · exact hf
  · rw [rowF_bad h hf] at h0; exact absurd h0 hf
def RowR (G : List Pk) (at_ f : Int) : Prop := (1000 < G.length ∧ at_ = 0 ∧ f = 4) ∨ (G.length ≤ 1000 ∧ FstR (rowF G) G.length at_ f)
theorem RowR.eq {G : List Pk} {a a' f f' : Int} (h : RowR G a f) (k : RowR G a' f') : a = a' ∧ f = f' := by
  rcases h with ⟨h1, rfl, rfl⟩ | ⟨h1, h2⟩ <;> rcases k with ⟨k1, rfl, rfl⟩ | ⟨k1, k2⟩
  · exact ⟨rfl, rfl⟩
  · omega
  · omega
  · exact h2.eq k2
/-- delays -/
def delF (A B : List Int) (i : Nat) : Int := if A.getD i 0 < 0 ∨ 1000000 < A.getD i 0 ∨ B.getD i 0 < 0 ∨ 1000000 < B.getD i 0 then 1 else if B.getD i 0 < A.getD i 0 then 6 else 0
def minD (A B : List Int) : Nat → Int
  | 0 => 0
  | n + 1 => if n = 0 then B.getD 0 0 - A.getD 0 0 else min (minD A B n) (B.getD n 0 - A.getD n 0)
def maxD (A B : List Int) : Nat → Int
  | 0 => 0
  | n + 1 => max (maxD A B n) (B.getD n 0 - A.getD n 0)
def DelayR (A B : List Int) (x y f : Int) : Prop :=
  ((1000 < A.length ∨ 1000 < B.length) ∧ x = 0 ∧ y = 0 ∧ f = 4) ∨ ((A.length ≤ 1000 ∧ B.length ≤ 1000) ∧ ((A.length ≠ B.length ∧ x = 0 ∧ y = 0 ∧ f = 3) ∨ (A.length = B.length ∧
    ((A.length = 0 ∧ x = 0 ∧ y = 0 ∧ f = 5) ∨ (0 < A.length ∧ (∃ at_, FstR (delF A B) A.length at_ f) ∧ (f ≠ 0 → x = 0 ∧ y = 0) ∧ (f = 0 → x = minD A B A.length ∧ y = maxD A B A.length))))))
theorem DelayR.eq {A B : List Int} {x y f x' y' f' : Int} (h : DelayR A B x y f) (k : DelayR A B x' y' f') : x = x' ∧ y = y' ∧ f = f' := by
  rcases h with ⟨h1, rfl, rfl, rfl⟩ | ⟨h1, ⟨h2, rfl, rfl, rfl⟩ | ⟨h2, ⟨h3, rfl, rfl, rfl⟩ | ⟨h3, ⟨a, h4⟩, h5, h6⟩⟩⟩ <;> rcases k with ⟨k1, rfl, rfl, rfl⟩ | ⟨k1, ⟨k2, rfl, rfl, rfl⟩ | ⟨k2, ⟨k3, rfl, rfl, rfl⟩ | ⟨k3, ⟨a', k4⟩, k5, k6⟩⟩⟩
  all_goals first
    | exact ⟨rfl, rfl, rfl⟩
    | (exfalso; omega)
    | skip
  obtain ⟨-, rfl⟩ := h4.eq k4
  by_cases h0 : f = 0
  · exact ⟨(h6 h0).1.trans (k6 h0).1.symm, (h6 h0).2.trans (k6 h0).2.symm, rfl⟩
  · exact ⟨(h5 h0).1.trans (k5 h0).1.symm, (h5 h0).2.trans (k5 h0).2.symm, rfl⟩
theorem minD_bd {A B : List Int} : ∀ n, (∀ i, i < n → delF A B i = 0) → (0 ≤ minD A B n ∧ minD A B n ≤ 1000000) ∧ (0 ≤ maxD A B n ∧ maxD A B n ≤ 1000000) := by
  intro n
  induction n with
  | zero => intro _; simp [minD, maxD]
  | succ n ih =>
    intro h
    have h1 := ih (fun i hi => h i (by omega))
    have h2 := h n (by omega)
    unfold delF at h2
    split at h2
    · cases h2
    split at h2
    · cases h2
    unfold minD maxD
    split
    · rename_i e; subst e; omega
    · omega
end Pl
end Go.Proofs.YtggfhcidmnageaaDoor
