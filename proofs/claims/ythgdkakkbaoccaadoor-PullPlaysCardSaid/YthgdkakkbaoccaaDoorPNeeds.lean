import Derived.Test.YthgdkakkbaoccaaDoorPullAsk
import Derived.Test.YthgdkakkbaoccaaDoorOpenWt
/-! What the law PullNeeds keeps of its wants; plain. -/
namespace Go.Proofs.YthgdkakkbaoccaaDoor
open Go.RowKit Go.Maps
set_option linter.unusedVariables false
set_option linter.unusedSimpArgs false
/-- the list says what the maps say -/
structure PRel (L : List Wt) (F : Nat → Int → Option Int) : Prop where
  ok : ∀ x ∈ L, Pl.rightOk x.who x.track ∧ 0 ≤ x.lay ∧ x.lay ≤ 3
  into : ∀ x ∈ L, F x.track.toNat x.who = some x.lay
  fro : ∀ (t : Nat) (who lay : Int), F t who = some lay → (⟨who, t, lay⟩ : Wt) ∈ L
theorem PRel.start : PRel [] (fun _ _ => none) := ⟨by simp, by simp, fun _ _ _ h => by cases h⟩
def others (who track : Int) (x : Wt) : Bool := decide (x.who ≠ who) || decide (x.track ≠ track)
theorem PRel.bound {L : List Wt} {F : Nat → Int → Option Int} (h : PRel L F) : ∀ (t : Nat) (i x : Int), F t i = some x → 0 ≤ x ∧ x ≤ 3 := fun t i x hx => (h.ok _ (h.fro t i x hx)).2
theorem PRel.step {L : List Wt} {F : Nat → Int → Option Int} (h : PRel L F) (x : Wt) (t : Nat) (ht : (t : Int) = x.track) (hr : Pl.rightOk x.who x.track) (hl : 0 ≤ x.lay ∧ x.lay ≤ 3) : PRel (L.filter (others x.who x.track) ++ [x]) (wantF F t x.who x.lay) := by
  obtain ⟨who, track, lay⟩ := x
  dsimp only at ht hr hl
  have ht' : track.toNat = t := by omega
  refine ⟨fun y hy => ?_, fun y hy => ?_, fun t' who' lay' hF => ?_⟩
  · rcases List.mem_append.1 hy with hy | hy
    · exact h.ok y (List.mem_filter.1 hy).1
    · simp at hy; subst hy; exact ⟨hr, hl⟩
  · rcases List.mem_append.1 hy with hy | hy
    · obtain ⟨h1, h2⟩ := List.mem_filter.1 hy
      have ok := (h.ok y h1).1
      unfold Pl.rightOk at ok
      have q := h.into y h1
      simp only [others, Bool.or_eq_true, decide_eq_true_eq] at h2
      unfold wantF
      by_cases e1 : y.track.toNat = t
      · rw [if_pos e1, if_neg (by
          intro e2; rcases h2 with h2 | h2
          · exact h2 e2
          · exact h2 (by show y.track = track; omega)), ← e1]; exact q
      · rw [if_neg e1]; exact q
    · simp at hy; subst hy
      show wantF F t who lay track.toNat who = some lay
      unfold wantF; rw [if_pos ht', if_pos rfl]
  · unfold wantF at hF
    by_cases e1 : t' = t
    · rw [if_pos e1] at hF
      by_cases e2 : who' = who
      · rw [if_pos e2] at hF; cases hF
        refine List.mem_append.2 (.inr ?_)
        simp; exact ⟨e2, by omega⟩
      · rw [if_neg e2, ← e1] at hF
        refine List.mem_append.2 (.inl (List.mem_filter.2 ⟨h.fro t' who' lay' hF, ?_⟩))
        simp [others, e2]
    · rw [if_neg e1] at hF
      refine List.mem_append.2 (.inl (List.mem_filter.2 ⟨h.fro t' who' lay' hF, ?_⟩))
      simp [others]; right; omega
/-- the bounds of the counts -/
theorem wantC_le {C : Nat → Nat} {F : Nat → Int → Option Int} {t : Nat} {who : Int} {i : Nat} (h : ∀ j, C j ≤ i) : ∀ j, wantC C F t who j ≤ i + 1 := fun j => by
  unfold wantC
  have a := h j
  have b := h t
  split
  · split <;> omega
  · omega
/-- somebody needs as much -/
theorem PRel.is {L : List Wt} {F : Nat → Int → Option Int} (h : PRel L F) (t : Nat) (n : Int) (hn : IsNeed (F t) n) (who lay : Int) (hF : F t who = some lay) : (∃ x ∈ L, x.track = t ∧ x.lay = n) ∧ ∀ x ∈ L, x.track = t → x.lay ≤ n := by
  obtain ⟨a, b, c⟩ := hn
  refine ⟨?_, fun x hx e => ?_⟩
  · rcases c with rfl | ⟨i, hi⟩
    · have h1 := b who lay hF
      have h2 := h.bound t who lay hF
      omega
    · exact ⟨_, h.fro t i n hi, rfl, rfl⟩
  · have q := h.into x hx
    have : x.track.toNat = t := by omega
    rw [this] at q
    exact b _ _ q
theorem pos_of_some {P : Program} {k : TypeId} {w : World} {b c : Nat} {f : Int → Option Value} (h : MapAt P k w b c f) (K : Keyed P k) (hk : P.underlying k = some (.int .i64)) (i : Int) (hi : (f i).isSome = true) : 0 < c := by
  obtain ⟨ks, _, hl, hm⟩ := h.keys K hk
  have := (hm i).1 hi
  have := List.length_pos_of_mem this
  omega
end Go.Proofs.YthgdkakkbaoccaaDoor
