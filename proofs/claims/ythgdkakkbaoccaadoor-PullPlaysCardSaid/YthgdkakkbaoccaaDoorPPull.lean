import Derived.Test.YthgdkakkbaoccaaDoorPullWho
import Derived.Test.YthgdkakkbaoccaaDoorPEmpties
/-! The reference's list of wants against the program's maps; plain. -/
namespace Go.Proofs.YthgdkakkbaoccaaDoor
open Go.RowKit
set_option linter.unusedVariables false
set_option linter.unusedSimpArgs false
/-- two wants of whom or what is not the same -/
abbrev KeyNe (x y : Wt) : Prop := ¬ (x.who = y.who ∧ x.track = y.track)
theorem KeyNe.symm {x y : Wt} (h : KeyNe x y) : KeyNe y x := fun e => h ⟨e.1.symm, e.2.symm⟩
structure PR2 (L : List Wt) (F : Nat → Int → Option Int) : Prop where
  rel : PRel L F
  uni : L.Pairwise KeyNe
theorem PR2.start : PR2 [] (fun _ _ => none) := ⟨PRel.start, List.Pairwise.nil⟩
theorem wantF_other {F : Nat → Int → Option Int} {t t' : Nat} {who who' lay : Int} (h : ¬ (who' = who ∧ t' = t)) : wantF F t who lay t' who' = F t' who' := by
  unfold wantF
  by_cases e : t' = t
  · rw [if_pos e]
    rw [if_neg (fun x => h ⟨x, e⟩), e]
  · rw [if_neg e]
theorem wantF_same {F : Nat → Int → Option Int} {t : Nat} {who lay : Int} : wantF F t who lay t who = some lay := by
  unfold wantF; rw [if_pos rfl, if_pos rfl]
theorem dropF_other {F : Nat → Int → Option Int} {t t' : Nat} {who who' : Int} (h : ¬ (who' = who ∧ t' = t)) : dropF F t who t' who' = F t' who' := by
  unfold dropF
  by_cases e : t' = t
  · rw [if_pos e]
    rw [if_neg (fun x => h ⟨x, e⟩), e]
  · rw [if_neg e]
theorem PR2.more {L : List Wt} {F : Nat → Int → Option Int} (h : PR2 L F) (who : Int) (t : Nat) (lay : Int) (hr : Pl.rightOk who t) (hl : 0 ≤ lay ∧ lay ≤ 3) (hn : ∀ x ∈ L, ¬ (x.who = who ∧ x.track = t)) : PR2 (L ++ [⟨who, t, lay⟩]) (wantF F t who lay) := by
  refine ⟨⟨fun y hy => ?_, fun y hy => ?_, fun t' who' lay' hF => ?_⟩, List.pairwise_append.2 ⟨h.uni, by simp, fun x hx y hy => ?_⟩⟩
  · rcases List.mem_append.1 hy with hy | hy
    · exact h.rel.ok y hy
    · simp at hy; subst hy; exact ⟨hr, hl⟩
  · rcases List.mem_append.1 hy with hy | hy
    · rw [wantF_other (fun e => hn y hy ⟨e.1, by have := (h.rel.ok y hy).1; unfold Pl.rightOk at this; omega⟩)]
      exact h.rel.into y hy
    · simp at hy; subst hy
      show wantF F t who lay ((t : Int)).toNat who = some lay
      rw [show ((t : Int)).toNat = t by omega, wantF_same]
  · by_cases e : who' = who ∧ t' = t
    · obtain ⟨rfl, rfl⟩ := e
      rw [wantF_same] at hF; cases hF
      exact List.mem_append.2 (.inr (by simp))
    · rw [wantF_other e] at hF
      exact List.mem_append.2 (.inl (h.rel.fro t' who' lay' hF))
  · simp at hy; subst hy
    exact hn x hx
theorem split_at {α : Type} (L : List α) (k : Nat) (hk : k < L.length) : L = L.take k ++ L[k] :: L.drop (k + 1) := by
  rw [← List.drop_eq_getElem_cons hk, List.take_append_drop]
theorem set_split {α : Type} (L : List α) (k : Nat) (hk : k < L.length) (y : α) : L.set k y = L.take k ++ y :: L.drop (k + 1) := by
  rw [List.set_eq_take_append_cons_drop, if_pos hk]
theorem PR2.turn {L : List Wt} {F : Nat → Int → Option Int} (h : PR2 L F) (k : Nat) (hk : k < L.length) (who : Int) (t : Nat) (lay : Int) (hr : Pl.rightOk who t) (hl : 0 ≤ lay ∧ lay ≤ 3) (h1 : L[k].who = who) (h2 : L[k].track = t) : PR2 (L.set k ⟨who, t, lay⟩) (wantF F t who lay) := by
  have e := split_at L k hk
  have hu := h.uni
  rw [e] at hu
  obtain ⟨u1, u2, u3⟩ := List.pairwise_append.1 hu
  obtain ⟨u4, u5⟩ := List.pairwise_cons.1 u2
  have mo : ∀ x, x ∈ L.take k ∨ x ∈ L.drop (k + 1) → x ∈ L ∧ ¬ (x.who = who ∧ x.track = t) := fun x hx => by
    rcases hx with hx | hx
    · refine ⟨List.mem_of_mem_take hx, fun q => u3 x hx L[k] (.head _) ⟨by rw [h1]; exact q.1, by rw [h2]; exact q.2⟩⟩
    · refine ⟨List.mem_of_mem_drop hx, fun q => u4 x hx ⟨by rw [h1]; exact q.1.symm, by rw [h2]; exact q.2.symm⟩⟩
  rw [set_split L k hk]
  refine ⟨⟨fun y hy => ?_, fun y hy => ?_, fun t' who' lay' hF => ?_⟩, List.pairwise_append.2 ⟨u1, List.pairwise_cons.2 ⟨fun x hx q => (mo x (.inr hx)).2 ⟨q.1.symm, q.2.symm⟩, u5⟩, fun x hx y hy => ?_⟩⟩
  · rcases List.mem_append.1 hy with hy | hy
    · exact h.rel.ok y (mo y (.inl hy)).1
    · rcases List.mem_cons.1 hy with rfl | hy
      · exact ⟨hr, hl⟩
      · exact h.rel.ok y (mo y (.inr hy)).1
  · have old : (y ∈ L.take k ∨ y ∈ L.drop (k + 1)) → wantF F t who lay y.track.toNat y.who = some y.lay := fun hy => by
      obtain ⟨m1, m2⟩ := mo y hy
      rw [wantF_other (fun e => m2 ⟨e.1, by have := (h.rel.ok y m1).1; unfold Pl.rightOk at this; omega⟩)]
      exact h.rel.into y m1
    rcases List.mem_append.1 hy with hy | hy
    · exact old (.inl hy)
    · rcases List.mem_cons.1 hy with rfl | hy
      · show wantF F t who lay ((t : Int)).toNat who = some lay
        rw [show ((t : Int)).toNat = t by omega, wantF_same]
      · exact old (.inr hy)
  · by_cases e' : who' = who ∧ t' = t
    · obtain ⟨rfl, rfl⟩ := e'
      rw [wantF_same] at hF; cases hF
      exact List.mem_append.2 (.inr (.head _))
    · rw [wantF_other e'] at hF
      have := h.rel.fro t' who' lay' hF
      rw [e] at this
      rcases List.mem_append.1 this with q | q
      · exact List.mem_append.2 (.inl q)
      · rcases List.mem_cons.1 q with q | q
        · exfalso
          have q1 := congrArg Wt.who q
          have q2 := congrArg Wt.track q
          dsimp only at q1 q2
          rw [h1] at q1; rw [h2] at q2
          exact e' ⟨q1, by omega⟩
        · exact List.mem_append.2 (.inr (.tail _ q))
  · rcases List.mem_cons.1 hy with rfl | hy
    · exact (mo x (.inl hx)).2
    · exact u3 x hx y (.tail _ hy)
theorem PR2.drop {L : List Wt} {F : Nat → Int → Option Int} (h : PR2 L F) (k : Nat) (hk : k < L.length) (who : Int) (t : Nat) (h1 : L[k].who = who) (h2 : L[k].track = t) : PR2 (L.take k ++ L.drop (k + 1)) (dropF F t who) := by
  have e := split_at L k hk
  have hu := h.uni
  rw [e] at hu
  obtain ⟨u1, u2, u3⟩ := List.pairwise_append.1 hu
  obtain ⟨u4, u5⟩ := List.pairwise_cons.1 u2
  have mo : ∀ x, x ∈ L.take k ∨ x ∈ L.drop (k + 1) → x ∈ L ∧ ¬ (x.who = who ∧ x.track = t) := fun x hx => by
    rcases hx with hx | hx
    · refine ⟨List.mem_of_mem_take hx, fun q => u3 x hx L[k] (.head _) ⟨by rw [h1]; exact q.1, by rw [h2]; exact q.2⟩⟩
    · refine ⟨List.mem_of_mem_drop hx, fun q => u4 x hx ⟨by rw [h1]; exact q.1.symm, by rw [h2]; exact q.2.symm⟩⟩
  refine ⟨⟨fun y hy => h.rel.ok y (mo y (List.mem_append.1 hy)).1, fun y hy => ?_, fun t' who' lay' hF => ?_⟩, List.pairwise_append.2 ⟨u1, u5, fun x hx y hy => u3 x hx y (.tail _ hy)⟩⟩
  · obtain ⟨m1, m2⟩ := mo y (List.mem_append.1 hy)
    rw [dropF_other (fun e => m2 ⟨e.1, by have := (h.rel.ok y m1).1; unfold Pl.rightOk at this; omega⟩)]
    exact h.rel.into y m1
  · by_cases e' : who' = who ∧ t' = t
    · obtain ⟨rfl, rfl⟩ := e'
      rw [dropF_gone] at hF; cases hF
    · rw [dropF_other e'] at hF
      have := h.rel.fro t' who' lay' hF
      rw [e] at this
      rcases List.mem_append.1 this with q | q
      · exact List.mem_append.2 (.inl q)
      · rcases List.mem_cons.1 q with q | q
        · exfalso
          have q1 := congrArg Wt.who q
          have q2 := congrArg Wt.track q
          dsimp only at q1 q2
          rw [h1] at q1; rw [h2] at q2
          exact e' ⟨q1, by omega⟩
        · exact List.mem_append.2 (.inr q)
/-- what the list needs -/
def NeedL (L : List Wt) (t n : Int) : Prop := -1 ≤ n ∧ (∀ x ∈ L, x.track = t → x.lay ≤ n) ∧ (n = -1 ∨ ∃ x ∈ L, x.track = t ∧ x.lay = n)
theorem PR2.need {L : List Wt} {F : Nat → Int → Option Int} (h : PR2 L F) (t : Nat) (n : Int) (hn : NeedL L t n) : IsNeed (F t) n := by
  obtain ⟨a, b, c⟩ := hn
  refine ⟨a, fun i x hx => b _ (h.rel.fro t i x hx) rfl, ?_⟩
  rcases c with c | ⟨x, hx, e1, e2⟩
  · exact .inl c
  · refine .inr ⟨x.who, ?_⟩
    rw [← e2, ← h.rel.into x hx, e1]; rfl
theorem PR2.need_bad {L : List Wt} {F : Nat → Int → Option Int} (h : PR2 L F) (t : Int) (ht : ¬ (1 ≤ t ∧ t ≤ 8)) (n : Int) (hn : NeedL L t n) : n = -1 := by
  obtain ⟨a, b, c⟩ := hn
  rcases c with c | ⟨x, hx, e1, e2⟩
  · exact c
  · have := (h.rel.ok x hx).1
    unfold Pl.rightOk at this
    omega
theorem PR2.who {L : List Wt} {F : Nat → Int → Option Int} (h : PR2 L F) (t : Nat) (i : Int) : i ∈ (L.filter (fun x => decide (x.track = (t : Int)))).map Wt.who ↔ (F t i).isSome = true := by
  rw [List.mem_map]
  constructor
  · rintro ⟨x, hx, rfl⟩
    obtain ⟨h1, h2⟩ := List.mem_filter.1 hx
    have h2 : x.track = (t : Int) := by simpa using h2
    have := h.rel.into x h1
    rw [h2] at this
    rw [show ((t : Int)).toNat = t by omega] at this
    rw [this]; rfl
  · intro hs
    cases e : F t i with
    | none => rw [e] at hs; cases hs
    | some x => exact ⟨_, List.mem_filter.2 ⟨h.rel.fro t i x e, by simp⟩, rfl⟩
theorem PR2.who_bad {L : List Wt} {F : Nat → Int → Option Int} (h : PR2 L F) (t : Int) (ht : ¬ (1 ≤ t ∧ t ≤ 8)) : (L.filter (fun x => decide (x.track = t))).map Wt.who = [] := by
  rw [List.filter_eq_nil_iff.2 (fun x hx => ?_)]; rfl
  have := (h.rel.ok x hx).1
  unfold Pl.rightOk at this
  simp; omega
end Go.Proofs.YthgdkakkbaoccaaDoor
