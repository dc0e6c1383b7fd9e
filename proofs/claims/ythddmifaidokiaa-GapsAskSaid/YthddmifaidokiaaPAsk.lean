import Derived.Test.YthddmifaidokiaaGapsGave
import Derived.Test.YthddmifaidokiaaArr
/-! What the law GapsAsk knows: plain. -/
namespace Go.Proofs.Ythddmifaidokiaa
open Go.RowKit Go.Maps
set_option linter.unusedVariables false
set_option linter.unusedSimpArgs false
theorem rises_one' {S : List Int} (h : Rises S) {x : Int} (hm : ∀ i, i ∈ S ↔ i = x) : S = [x] := by
  cases S with
  | nil => exact absurd ((hm x).2 rfl) (by simp)
  | cons a r =>
    have ha := (hm a).1 (by simp)
    subst ha
    cases r with
    | nil => rfl
    | cons b r' =>
      have hb := (hm b).1 (by simp)
      have := List.rel_of_pairwise_cons h (a := a) (a' := b) (by simp)
      omega
structure AskSt (again tries now top : Int) (g : Int → Option (Int × Int)) (wh o : Nat → Int) (cm : Nat → Bool) : Prop where
  low : -1 ≤ top ∧ top < 150
  key : ∀ j, (g j).isSome = true → 0 ≤ j ∧ j ≤ top
  val : ∀ (m : Nat) t a, g m = some (t, a) → cm m = false ∧ o m = t ∧ (0 < t → wh m = a) ∧ 0 ≤ t ∧ t ≤ tries ∧ 0 ≤ a ∧ a ≤ now
  above : ∀ m : Nat, top < m → cm m = false ∧ o m = 0
  gone : ∀ m : Nat, cm m = true → g m = none
namespace AskSt
variable {again tries now top : Int} {g : Int → Option (Int × Int)} {wh o : Nat → Int} {cm : Nat → Bool}
theorem start (again tries : Int) : AskSt again tries 0 (-1) (fun _ => none) (fun _ => 0) (fun _ => 0) (fun _ => false) :=
  ⟨by omega, (fun j h => by simp at h), (fun m t a h => by cases h), (fun m _ => ⟨rfl, rfl⟩), (fun m h => rfl)⟩
theorem later (h : AskSt again tries now top g wh o cm) {now' : Int} (hn : now ≤ now') : AskSt again tries now' top g wh o cm :=
  ⟨h.low, h.key, fun m t a q => by obtain ⟨q1, q2, q3, q4, q5, q6, q7⟩ := h.val m t a q; exact ⟨q1, q2, q3, q4, q5, q6, by omega⟩, h.above, h.gone⟩
theorem bound (h : AskSt again tries now top g wh o cm) : (∀ j, (g j).isSome = true → 0 ≤ j ∧ j ≤ 1099511627776) := fun j hj => by have := h.key j hj; have := h.low; omega
theorem vals (h : AskSt again tries now top g wh o cm) (ht : tries ≤ 20) (hn : now ≤ 1000000) : ∀ j t a, g j = some (t, a) → 0 ≤ t ∧ t ≤ 1000 ∧ 0 ≤ a ∧ a ≤ 1000000 := fun j t a q => by
  have hk := h.key j (by rw [q]; rfl)
  obtain ⟨m, rfl⟩ := Int.eq_ofNat_of_zero_le hk.1
  obtain ⟨q1, q2, q3, q4, q5, q6, q7⟩ := h.val m t a q
  omega
theorem few (h : AskSt again tries now top g wh o cm) {P : Program} {k : TypeId} {w : World} {bm c : Nat} (hm : MapAt P k w bm c (LF g)) (K : Keyed P k) (hk : P.underlying k = some (.int .i64)) : (c : Int) ≤ top + 1 := by
  obtain ⟨ks, h1, h2, h3⟩ := hm.keys K hk
  obtain ⟨n, hn⟩ := Int.eq_ofNat_of_zero_le (show 0 ≤ top + 1 by have := h.low; omega)
  have := nodup_between n (-1) ks h1 (fun j hj => by
    have q := (h3 j).2 hj
    rw [LF.isSome] at q
    have := h.key j q
    omega)
  omega
/-- one came: it is marked -/
theorem mark {n : Nat} {top' : Int} {g' : Int → Option (Int × Int)} (h : AskSt again tries now top g wh o cm) (hn : n < 150) (hle : (n : Int) ≤ top') (htop : top ≤ top') (hlow : top' < 150) (hg0 : g' n = none) (hg : ∀ j, j ≠ (n : Int) → g' j = g j ∨ (top < j ∧ j < top' ∧ g' j = some (0, 0))) (h1 : 0 ≤ tries) (h2 : 0 ≤ now) :
    AskSt again tries now top' g' wh o (fun m => if m = n then true else cm m) := by
  have hl := h.low
  refine ⟨by omega, fun j hj => ?_, fun m t a q => ?_, fun m hm => ?_, fun m hm => ?_⟩
  · by_cases e : j = (n : Int)
    · subst e; rw [hg0] at hj; cases hj
    · rcases hg j e with q | ⟨q1, q2, q3⟩
      · rw [q] at hj; have := h.key j hj; omega
      · omega
  · by_cases e : m = n
    · subst e; rw [hg0] at q; cases q
    · simp only [e, if_false]
      rcases hg m (by omega) with q' | ⟨q1, q2, q3⟩
      · rw [q'] at q; exact h.val m t a q
      · rw [q3] at q
        simp at q
        obtain ⟨rfl, rfl⟩ := q
        have := h.above m q1
        exact ⟨this.1, this.2, fun hh => by omega, by omega, by omega, by omega, by omega⟩
  · have e : m ≠ n := by omega
    simp only [e, if_false]
    exact h.above m (by omega)
  · by_cases e : m = n
    · subst e; exact hg0
    · simp only [e, if_false] at hm
      rcases hg m (by omega) with q' | ⟨q1, q2, q3⟩
      · rw [q']; exact h.gone m hm
      · rw [(h.above m q1).1] at hm; cases hm
/-- what is asked for -/
theorem asks (h : AskSt again tries now top g wh o cm) {S : List Int} (hS : ∀ i, i ∈ S ↔ (g i).isSome = true) {d : Int} (hd : d ∈ S.filter (isAsk again tries now g)) : ∃ m : Nat, d = m ∧ m < 150 ∧ cm m = false ∧ (0 < o m → again ≤ now - wh m ∧ 0 ≤ wh m ∧ wh m ≤ now) ∧ o m < tries ∧ 0 ≤ o m := by
  rw [List.mem_filter] at hd
  obtain ⟨h1, h2⟩ := hd
  have hsome := (hS d).1 h1
  have hk := h.key d hsome
  obtain ⟨m, rfl⟩ := Int.eq_ofNat_of_zero_le hk.1
  obtain ⟨⟨t, a⟩, hga⟩ := Option.isSome_iff_exists.1 hsome
  have hga' : g (m : Int) = some (t, a) := hga
  obtain ⟨q1, q2, q3, q4, q5, q6, q7⟩ := h.val m t a hga'
  have h2' : isAsk again tries now g (m : Int) = true := h2
  unfold isAsk at h2'
  rw [hga'] at h2'
  simp [isWait] at h2'
  have hl := h.low
  refine ⟨m, rfl, by omega, q1, fun hh => ?_, ?_, by omega⟩
  · rw [q2] at hh
    rw [q3 hh]; rcases h2'.1 with q | q <;> exact ⟨by omega, by omega, by omega⟩
  · have := h2'.2; omega
/-- what was given up -/
theorem gives (h : AskSt again tries now top g wh o cm) {S : List Int} (hS : ∀ i, i ∈ S ↔ (g i).isSome = true) {d : Int} (hd : d ∈ S.filter (isGive again tries now g)) : ∃ m : Nat, d = m ∧ m < 150 ∧ cm m = false ∧ o m = tries ∧ d ∉ S.filter (isAsk again tries now g) := by
  rw [List.mem_filter] at hd
  obtain ⟨h1, h2⟩ := hd
  have hsome := (hS d).1 h1
  have hk := h.key d hsome
  obtain ⟨m, rfl⟩ := Int.eq_ofNat_of_zero_le hk.1
  obtain ⟨⟨t, a⟩, hga⟩ := Option.isSome_iff_exists.1 hsome
  have hga' : g (m : Int) = some (t, a) := hga
  obtain ⟨q1, q2, q3, q4, q5, q6, q7⟩ := h.val m t a hga'
  have h2' : isGive again tries now g (m : Int) = true := h2
  unfold isGive at h2'
  rw [hga'] at h2'
  simp at h2'
  have hl := h.low
  refine ⟨m, rfl, by omega, q1, by omega, fun hh => ?_⟩
  rw [List.mem_filter] at hh
  have h3 : isAsk again tries now g (m : Int) = true := hh.2
  unfold isAsk at h3
  rw [hga'] at h3
  simp at h3
  exact h3.2 h2'.2
/-- behind a Due: what was asked for is marked, what was given up is gone -/
theorem due (h : AskSt again tries now top g wh o cm) {S V : List Int} (hS : ∀ i, i ∈ S ↔ (g i).isSome = true) (hV : ∀ i, i ∈ V ↔ i ∈ S.filter (isGive again tries now g)) (h2 : 0 ≤ now) :
    AskSt again tries now top (fun j => (g j).bind (dueStep again tries now)) (fun m => if (m : Int) ∈ S.filter (isAsk again tries now g) then now else wh m) (fun m => if (m : Int) ∈ S.filter (isAsk again tries now g) then o m + 1 else o m) (fun m => if (m : Int) ∈ V then true else cm m) := by
  have hnone : ∀ j, g j = none → j ∉ S := fun j hj hh => by have := (hS j).1 hh; rw [hj] at this; cases this
  refine ⟨h.low, fun j hj => ?_, fun m t a q => ?_, fun m hm => ?_, fun m hm => ?_⟩
  · cases hg : g j with
    | none => rw [hg] at hj; cases hj
    | some v => exact h.key j (by rw [hg]; rfl)
  · cases hg : g (m : Int) with
    | none => rw [hg] at q; cases q
    | some v =>
      obtain ⟨t0, a0⟩ := v
      obtain ⟨q1, q2, q3, q4, q5, q6, q7⟩ := h.val m t0 a0 hg
      have hmS : (m : Int) ∈ S := (hS m).2 (by rw [hg]; rfl)
      rw [hg] at q
      simp only [Option.bind_some] at q
      unfold dueStep at q
      by_cases hw : isWait again now (t0, a0) = true
      · rw [if_pos hw] at q
        simp at q
        obtain ⟨rfl, rfl⟩ := q
        have e1 : (m : Int) ∉ S.filter (isAsk again tries now g) := fun hh => by
          have := (List.mem_filter.1 hh).2
          unfold isAsk at this; rw [hg] at this; simp [hw] at this
        have e2 : (m : Int) ∉ V := fun hh => by
          have := (List.mem_filter.1 ((hV m).1 hh)).2
          unfold isGive at this; rw [hg] at this; simp [hw] at this
        simp only [e1, e2, if_false]
        exact ⟨q1, q2, q3, q4, q5, q6, q7⟩
      · rw [if_neg hw] at q
        by_cases ht : t0 = tries
        · rw [if_pos ht] at q; cases q
        · rw [if_neg ht] at q
          simp at q
          obtain ⟨rfl, rfl⟩ := q
          have e1 : (m : Int) ∈ S.filter (isAsk again tries now g) := List.mem_filter.2 ⟨hmS, by unfold isAsk; rw [hg]; simp [ht, hw]⟩
          have e2 : (m : Int) ∉ V := fun hh => by
            have := (List.mem_filter.1 ((hV m).1 hh)).2
            unfold isGive at this; rw [hg] at this; simp [ht] at this
          simp only [e1, e2, if_false, if_true]
          exact ⟨q1, by omega, fun _ => trivial, by omega, by omega, by omega, by omega⟩
  · have hg : g (m : Int) = none := by
      cases hg : g (m : Int) with
      | none => rfl
      | some v => have := h.key m (by rw [hg]; rfl); omega
    have e0 := hnone _ hg
    have e1 : (m : Int) ∉ S.filter (isAsk again tries now g) := fun hh => e0 (List.mem_filter.1 hh).1
    have e2 : (m : Int) ∉ V := fun hh => e0 (List.mem_filter.1 ((hV m).1 hh)).1
    simp only [e1, e2, if_false]
    exact h.above m hm
  · by_cases e2 : (m : Int) ∈ V
    · have := (List.mem_filter.1 ((hV m).1 e2)).2
      show (g m).bind _ = none
      unfold isGive at this
      cases hg : g (m : Int) with
      | none => rfl
      | some v =>
        rw [hg] at this
        simp at this
        simp only [Option.bind_some, dueStep]
        rw [if_neg (by simp [this.1]), if_pos this.2]
    · simp only [e2, if_false] at hm
      show (g m).bind _ = none
      rw [h.gone m hm]; rfl
end AskSt
/-- marks so far -/
def upTo {α : Type} (D : List Int) (k : Nat) (f : Nat → α → α) (p : Nat → α) : Nat → α := fun m => if (m : Int) ∈ D.take k then f m (p m) else p m
theorem upTo.start {α : Type} (D : List Int) (f : Nat → α → α) (p : Nat → α) : upTo D 0 f p = p := by funext m; simp [upTo]
theorem upTo.at_ {α : Type} {D : List Int} (hD : Rises D) {k m : Nat} (hk : D[k]? = some (m : Int)) (f : Nat → α → α) (p : Nat → α) : upTo D k f p m = p m := by
  unfold upTo; rw [if_neg (rises_take hD hk)]
theorem upTo.step {α : Type} {D : List Int} (hD : Rises D) {k m : Nat} (hk : D[k]? = some (m : Int)) (f : Nat → α → α) (p : Nat → α) : (fun j => if j = m then f m (p m) else upTo D k f p j) = upTo D (k + 1) f p := by
  funext j
  unfold upTo
  rw [take_one hk]
  by_cases e : j = m
  · subst e; simp
  · have e' : (j : Int) ≠ (m : Int) := by omega
    simp [e, e']
theorem upTo.done {α : Type} (D : List Int) (f : Nat → α → α) (p : Nat → α) : upTo D D.length f p = fun (m : Nat) => if (m : Int) ∈ D then f m (p m) else p m := by
  funext m; unfold upTo; rw [List.take_length]
theorem rises_filter {S : List Int} (h : Rises S) (q : Int → Bool) : Rises (S.filter q) := h.sublist List.filter_sublist
theorem rises_sorted {V : List Int} (h : Rises V) : (V.mergeSort fun x y => decide (x ≤ y)) = V :=
  List.mergeSort_of_pairwise (h.imp (fun {a b} q => by simp; omega))
/-- gaps stay where other blocks are written -/
theorem Gp.keep {M : Nat} {w w' : World} {b : Nat} {now again tries top : Int} {bm c : Nat} {g : Int → Option (Int × Int)} {gv : Value} {G : List Int} {S : Nat → Prop} (h : Gp M w b now again tries top bm c g gv G) (k : Keeps S w w') (h1 : ¬ S b) (h2 : ¬ S bm) (h3 : ∀ j, gv.ownBlock = some j → ¬ S j) : Gp M w' b now again tries top bm c g gv G := by
  refine ⟨Keeps.heap k h.at_ h1, h.map.block (k.block bm h.map.lt h2), h.ne, ⟨h.row.1, ?_⟩, h.low⟩
  rcases h.row.2 with q | ⟨g', cap, cur, rfl, hb, hg, rest⟩
  · exact .inl q
  · exact .inr ⟨g', cap, cur, rfl, hb, Keeps.heap k hg (h3 g' rfl), rest⟩
end Go.Proofs.Ythddmifaidokiaa
