import Derived.Test.YtlfdkoebjddokaaDoorRefGapsL
import Derived.Test.YtlfdkoebjddokaaDoorGapsGave
import Derived.Test.YtlfdkoebjddokaaDoorMapCnt
/-! What the law GapsPlays keeps: both objects' contents. -/
namespace Go.Proofs.YtlfdkoebjddokaaDoor
open Go.RowKit
set_option linter.unusedVariables false
set_option linter.unusedSimpArgs false
/-- the program's map and the reference's list -/
structure PG (g : Int → Option (Int × Int)) (L : List Lk) (tries top : Int) (G : List Int) : Prop where
  rises : Rises (L.map Lk.num)
  iff : ∀ n t a, g n = some (t, a) ↔ (⟨n, t, a⟩ : Lk) ∈ L
  len : L.length ≤ 200
  low : ∀ x ∈ L, 0 ≤ x.num ∧ x.num < top
  vals : ∀ x ∈ L, 0 ≤ x.tm ∧ x.tm ≤ tries ∧ 0 ≤ x.at_ ∧ x.at_ ≤ 1000000
  bnd : top ≤ 1099511627776
  gnd : G.Nodup
  gout : ∀ n ∈ G, n < top ∧ g n = none
namespace PG
variable {g : Int → Option (Int × Int)} {L : List Lk} {tries top : Int} {G : List Int}
theorem mem (h : PG g L tries top G) (n : Int) : (g n).isSome = true ↔ n ∈ L.map Lk.num := by
  rw [List.mem_map]
  constructor
  · intro q
    obtain ⟨⟨t, a⟩, e⟩ := Option.isSome_iff_exists.1 q
    exact ⟨_, (h.iff n t a).1 e, rfl⟩
  · rintro ⟨x, hx, rfl⟩
    rw [(h.iff x.num x.tm x.at_).2 hx]; rfl
theorem none (h : PG g L tries top G) {n : Int} (hn : n ∉ L.map Lk.num) : g n = Option.none := by
  cases q : g n with
  | none => rfl
  | some p => exact absurd ((h.mem n).1 (by rw [q]; rfl)) hn
theorem at_ (h : PG g L tries top G) {x : Lk} (hx : x ∈ L) : g x.num = some (x.tm, x.at_) := (h.iff _ _ _).2 hx
theorem above (h : PG g L tries top G) {n : Int} (hn : top ≤ n) : g n = Option.none := h.none (fun hm => by
  obtain ⟨x, hx, rfl⟩ := List.mem_map.1 hm
  have := (h.low x hx).2; omega)
theorem start (tries : Int) : PG (fun _ => Option.none) [] tries (-1) [] :=
  ⟨List.Pairwise.nil, by simp, by simp, by simp, by simp, by omega, List.nodup_nil, by simp⟩
/-- the first of all -/
theorem first (h : PG g L tries top G) (h0 : top < 0) (n : Int) (h1 : 0 ≤ n) (h2 : n ≤ 1099511627776) : PG g L tries n G := by
  refine ⟨h.rises, h.iff, h.len, fun x hx => ?_, h.vals, h2, h.gnd, fun m hm => ?_⟩
  · have := h.low x hx; omega
  · have := h.gout m hm; exact ⟨by omega, this.2⟩
theorem fill_mem (top : Int) (m : Nat) (n t a : Int) : (⟨n, t, a⟩ : Lk) ∈ lkFill top m ↔ top < n ∧ n < top + 1 + m ∧ t = 0 ∧ a = 0 := by
  unfold lkFill
  rw [List.mem_map]
  constructor
  · rintro ⟨j, hj, e⟩
    have := List.mem_range.1 hj
    simp at e
    omega
  · rintro ⟨h1, h2, rfl, rfl⟩
    exact ⟨(n - top - 1).toNat, List.mem_range.2 (by omega), by rw [show top + 1 + (((n - top - 1).toNat : Nat) : Int) = n by omega]⟩
/-- a number above -/
theorem up (h : PG g L tries top G) (ht : 0 ≤ tries) (h0 : 0 ≤ top) (n : Int) (h1 : top < n) (h2 : n ≤ 1099511627776) (h3 : n - top - 1 + L.length ≤ 200) : PG (fillG g top n) (L ++ lkFill top (n - top - 1).toNat) tries n G := by
  have hlow : ∀ x ∈ L ++ lkFill top (n - top - 1).toNat, (x ∈ L) ∨ (top < x.num ∧ x.num < n ∧ x.tm = 0 ∧ x.at_ = 0) := fun x hx => by
    rcases List.mem_append.1 hx with hx | hx
    · exact .inl hx
    · obtain ⟨xn, xt, xa⟩ := x
      have := (fill_mem top _ xn xt xa).1 hx
      refine .inr ⟨?_, ?_, ?_, ?_⟩ <;> simp <;> omega
  refine ⟨?_, fun m t a => ?_, by rw [List.length_append, lkFill_len]; omega, fun x hx => ?_, fun x hx => ?_, h2, h.gnd, fun m hm => ?_⟩
  · rw [List.map_append]
    refine List.pairwise_append.2 ⟨h.rises, ?_, fun a ha b hb => ?_⟩
    · unfold lkFill
      rw [List.map_map]
      refine List.pairwise_map.2 ?_
      exact List.pairwise_lt_range.imp (fun {a b} hab => by simp; omega)
    · obtain ⟨x, hx, rfl⟩ := List.mem_map.1 ha
      obtain ⟨⟨yn, yt, ya⟩, hy, rfl⟩ := List.mem_map.1 hb
      have := (fill_mem top _ yn yt ya).1 hy
      have := h.low x hx
      simp; omega
  · rw [List.mem_append, fill_mem, ← h.iff m t a]
    unfold fillG
    by_cases e : top < m ∧ m < n
    · rw [if_pos e]
      constructor
      · intro q; simp at q; exact .inr (by omega)
      · rintro (q | q)
        · have := h.above (n := m) (by omega); rw [this] at q; cases q
        · rw [q.2.2.1, q.2.2.2]
    · rw [if_neg e]
      constructor
      · exact .inl
      · rintro (q | q)
        · exact q
        · exfalso; apply e; omega
  · rcases hlow x hx with hx | hx
    · have := h.low x hx; omega
    · omega
  · rcases hlow x hx with hx | hx
    · exact h.vals x hx
    · omega
  · have := h.gout m hm
    refine ⟨by omega, ?_⟩
    unfold fillG
    rw [if_neg (by omega)]; exact this.2
/-- one that is not above -/
theorem down (h : PG g L tries top G) (n : Int) : PG (delG g n) (L.filter (fun x => decide (x.num ≠ n))) tries top G := by
  refine ⟨?_, fun m t a => ?_, ?_, fun x hx => h.low x ((List.mem_filter.1 hx).1), fun x hx => h.vals x ((List.mem_filter.1 hx).1), h.bnd, h.gnd, fun m hm => ⟨(h.gout m hm).1, by unfold delG; rw [(h.gout m hm).2]; simp⟩⟩
  · exact List.Pairwise.sublist (List.Sublist.map _ List.filter_sublist) h.rises
  · rw [List.mem_filter, ← h.iff m t a]
    unfold delG
    by_cases e : m = n
    · rw [if_pos e]; simp [e]
    · rw [if_neg e]; simp [e]
  · have := List.length_filter_le (fun x : Lk => decide (x.num ≠ n)) L; have := h.len; omega
theorem down_none (h : PG g L tries top G) (n : Int) (hn : g n = Option.none) : L.filter (fun x => decide (x.num ≠ n)) = L := by
  rw [List.filter_eq_self]
  intro x hx
  simp
  rintro rfl
  rw [h.at_ hx] at hn; cases hn
theorem down_some (h : PG g L tries top G) (n t a : Int) (hn : g n = some (t, a)) : (L.filter (fun x => decide (x.num ≠ n))).length < L.length := by
  refine List.length_filter_lt_length_iff_exists.2 ⟨_, (h.iff n t a).1 hn, by simp⟩
/-- what is due -/
theorem isWait_eq (again now : Int) (x : Lk) : isWait again now (x.tm, x.at_) = lkWait again now x := rfl
theorem give_eq (h : PG g L tries top G) (again now : Int) : (L.map Lk.num).filter (isGive again tries now g) = dG again tries now L := by
  unfold dG
  rw [List.filter_map]
  congr 1
  refine List.filter_congr (fun x hx => ?_)
  simp only [Function.comp, isGive, h.at_ hx, lkGive]; rfl
theorem ask_eq (h : PG g L tries top G) (again now : Int) : (L.map Lk.num).filter (isAsk again tries now g) = dA again tries now L := by
  unfold dA
  rw [List.filter_map]
  congr 1
  refine List.filter_congr (fun x hx => ?_)
  simp only [Function.comp, isAsk, h.at_ hx, lkAsk]; rfl
theorem step_eq (again now : Int) (x : Lk) : lkStep again tries now x = (dueStep again tries now (x.tm, x.at_)).map (fun p => (⟨x.num, p.1, p.2⟩ : Lk)) := by
  unfold lkStep dueStep
  rw [isWait_eq]
  by_cases h1 : lkWait again now x = true
  · simp [h1]
  · by_cases h2 : x.tm = tries
    · simp [h1, h2]
    · simp [h1, h2]
theorem dK_sub (again tries now : Int) : ∀ L : List Lk, List.Sublist ((dK again tries now L).map Lk.num) (L.map Lk.num)
  | [] => by simp [dK]
  | x :: L => by
    have ih := dK_sub again tries now L
    unfold dK at *
    rw [List.filterMap_cons]
    cases e : lkStep again tries now x with
    | none => exact ih.cons _
    | some y =>
      have hy : y.num = x.num := by
        rw [step_eq] at e
        obtain ⟨p, _, rfl⟩ := Option.map_eq_some_iff.1 e
        rfl
      rw [List.map_cons, List.map_cons, hy]
      exact ih.cons_cons _
theorem due (h : PG g L tries top G) (again now : Int) (hn : 0 ≤ now ∧ now ≤ 1000000) : PG (fun j => (g j).bind (dueStep again tries now)) (dK again tries now L) tries top (G ++ dG again tries now L) := by
  have hmem : ∀ y ∈ dK again tries now L, ∃ x ∈ L, y.num = x.num ∧ dueStep again tries now (x.tm, x.at_) = some (y.tm, y.at_) := fun y hy => by
    obtain ⟨x, hx, e⟩ := List.mem_filterMap.1 hy
    rw [step_eq] at e
    obtain ⟨p, hp, rfl⟩ := Option.map_eq_some_iff.1 e
    exact ⟨x, hx, rfl, hp⟩
  have hgv : ∀ n ∈ dG again tries now L, ∃ x ∈ L, n = x.num ∧ dueStep again tries now (x.tm, x.at_) = Option.none := fun n hn => by
    obtain ⟨x, hx, rfl⟩ := List.mem_map.1 hn
    obtain ⟨hx, hg⟩ := List.mem_filter.1 hx
    refine ⟨x, hx, rfl, ?_⟩
    unfold lkGive at hg
    simp at hg
    unfold dueStep
    rw [isWait_eq, hg.1]; simp [hg.2]
  refine ⟨h.rises.sublist (dK_sub again tries now L), fun m t a => ?_, Nat.le_trans (dK_len again tries now L) h.len, fun y hy => ?_, fun y hy => ?_, h.bnd, ?_, fun n hm => ?_⟩
  · constructor
    · intro q
      obtain ⟨⟨t0, a0⟩, hg, hs⟩ := Option.bind_eq_some_iff.1 q
      exact List.mem_filterMap.2 ⟨⟨m, t0, a0⟩, (h.iff m t0 a0).1 hg, by rw [step_eq]; simp [hs]⟩
    · intro q
      obtain ⟨x, hx, e1, e2⟩ := hmem _ q
      simp only at e1 e2
      show (g m).bind _ = _
      rw [e1, h.at_ hx]; exact e2
  · obtain ⟨x, hx, e1, e2⟩ := hmem y hy
    rw [e1]; exact h.low x hx
  · obtain ⟨x, hx, e1, e2⟩ := hmem y hy
    have hv := h.vals x hx
    unfold dueStep at e2
    split at e2
    · simp at e2; omega
    · split at e2
      · cases e2
      · rename_i q
        simp at e2 q; omega
  · refine List.nodup_append.2 ⟨h.gnd, ?_, fun a ha b hb => ?_⟩
    · have : List.Pairwise (· < ·) (dG again tries now L) := h.rises.sublist (List.Sublist.map _ List.filter_sublist)
      exact this.imp (fun {a b} q => by omega)
    · obtain ⟨x, hx, rfl, _⟩ := hgv b hb
      rintro rfl
      have := (h.gout _ ha).2
      rw [h.at_ hx] at this; cases this
  · rcases List.mem_append.1 hm with hm | hm
    · exact ⟨(h.gout n hm).1, by show (g n).bind _ = _; rw [(h.gout n hm).2]; rfl⟩
    · obtain ⟨x, hx, rfl, e⟩ := hgv n hm
      exact ⟨(h.low x hx).2, by show (g x.num).bind _ = _; rw [h.at_ hx]; exact e⟩
/-- what was given up is told -/
theorem gave (h : PG g L tries top G) : PG g L tries top [] := ⟨h.rises, h.iff, h.len, h.low, h.vals, h.bnd, List.nodup_nil, by simp⟩
theorem cnt (h : PG g L tries top G) {P : Program} {k : TypeId} {w : World} {b c : Nat} (m : MapAt P k w b c (LF g)) (K : Maps.Keyed P k) (hk : P.underlying k = some (.int .i64)) : c = L.length := by
  rw [m.count K hk (L.map Lk.num) (h.rises.imp (fun {a b} q => by omega)) (fun i => by rw [LF.isSome, h.mem i]), List.length_map]
end PG
end Go.Proofs.YtlfdkoebjddokaaDoor
