import Derived.Test.YtlfdkoebjddokaaDoorOrderPop
import Derived.Test.YtlfdkoebjddokaaDoorOrderAny
/-! What comes out of an order, number by number: plain. -/
namespace Go.Proofs.YtlfdkoebjddokaaDoor
open Go.RowKit
set_option linter.unusedVariables false
set_option linter.unusedSimpArgs false
/-- what is handed out for a number -/
def ItemOf (f : Int → Option Value) (j : Int) (x : List Value) : Prop :=
  (f j = none ∧ x = itemCells j true 0 0 0 0 false (.slice none 0 0)) ∨
  ∃ (num : Int) (gone : Bool) (s t l lv : Int) (st : Bool) (oa : Option Addr) (bn bc : Nat) (at' : Int), f j = some (keptV num gone s t l lv st (.slice oa bn bc) at') ∧ x = itemCells num gone s t l lv st (.slice oa bn bc)
theorem Pops.spec {now wait n0 nx : Int} {f0 f : Int → Option Value} {L : List (List Value)} (h : Pops now wait f0 n0 L f nx) :
    nx = n0 + L.length ∧ (∀ j, f j = if n0 ≤ j ∧ j < nx then none else f0 j) ∧ ∀ (k : Nat) x, L[k]? = some x → ItemOf f0 (n0 + k) x := by
  induction h with
  | nil => exact ⟨by simp, fun j => by rw [if_neg (by omega)], fun k x hx => by simp at hx⟩
  | @has L f nx num gone s t l lv st oa bn bc at' hp hf ih =>
    obtain ⟨e1, e2, e3⟩ := ih
    refine ⟨by simp; omega, fun j => ?_, fun k x hx => ?_⟩
    · show (if j = nx then none else f j) = _
      by_cases e : j = nx
      · rw [if_pos e, if_pos (by omega)]
      · rw [if_neg e, e2 j]
        by_cases h1 : n0 ≤ j ∧ j < nx
        · rw [if_pos h1, if_pos (by omega)]
        · rw [if_neg h1, if_neg (by omega)]
    · by_cases hk : k < L.length
      · rw [List.getElem?_append_left hk] at hx
        exact e3 k x hx
      · rw [List.getElem?_append_right (by omega)] at hx
        have hk0 : k - L.length = 0 := by
          rcases Nat.eq_zero_or_pos (k - L.length) with h | h
          · exact h
          · rw [List.getElem?_eq_none (by simp; omega)] at hx; cases hx
        rw [hk0] at hx
        simp at hx
        have hkn : n0 + (k : Int) = nx := by omega
        rw [hkn]
        have hf0 : f0 nx = f nx := by rw [e2 nx, if_neg (by omega)]
        exact .inr ⟨num, gone, s, t, l, lv, st, oa, bn, bc, at', by rw [hf0]; exact hf, hx.symm⟩
  | @gone L f nx hp hf hW ih =>
    obtain ⟨e1, e2, e3⟩ := ih
    refine ⟨by simp; omega, fun j => ?_, fun k x hx => ?_⟩
    · rw [e2 j]
      by_cases e : j = nx
      · subst e
        rw [if_neg (by omega), if_pos (by omega)]
        rw [← hf, e2 _, if_neg (by omega)]
      · by_cases h1 : n0 ≤ j ∧ j < nx
        · rw [if_pos h1, if_pos (by omega)]
        · rw [if_neg h1, if_neg (by omega)]
    · by_cases hk : k < L.length
      · rw [List.getElem?_append_left hk] at hx
        exact e3 k x hx
      · rw [List.getElem?_append_right (by omega)] at hx
        have hk0 : k - L.length = 0 := by
          rcases Nat.eq_zero_or_pos (k - L.length) with h | h
          · exact h
          · rw [List.getElem?_eq_none (by simp; omega)] at hx; cases hx
        rw [hk0] at hx
        simp at hx
        have hkn : n0 + (k : Int) = nx := by omega
        rw [hkn]
        have hf0 : f0 nx = f nx := by rw [e2 nx, if_neg (by omega)]
        exact .inl ⟨by rw [hf0]; exact hf, hx.symm⟩
theorem Pops.bound {now wait n0 nx M : Int} {f0 f : Int → Option Value} {L : List (List Value)} (h : Pops now wait f0 n0 L f nx) (hk : ∀ i, (f0 i).isSome = true → n0 ≤ i ∧ i < M) (hn : n0 ≤ M) : nx ≤ M := by
  induction h with
  | nil => exact hn
  | @has L f nx num gone s t l lv st oa bn bc at' hp hf ih =>
    obtain ⟨e1, e2, _⟩ := hp.spec
    have hf0 : f0 nx = f nx := by rw [e2 nx, if_neg (by omega)]
    have := (hk nx (by rw [hf0, hf]; rfl)).2
    omega
  | @gone L f nx hp hf hW ih =>
    obtain ⟨e1, e2, _⟩ := hp.spec
    obtain ⟨i, num, gone, s, t, l, lv, st, oa, bn, bc, at', g1, g2⟩ := hW
    have q := e2 i
    rw [g1] at q
    by_cases h1 : n0 ≤ i ∧ i < nx
    · rw [if_pos h1] at q; cases q
    · rw [if_neg h1] at q
      have h2 := hk i (by rw [← q]; rfl)
      have h3 : i ≠ nx := by rintro rfl; rw [hf] at g1; cases g1
      omega
/-- the marks of what was pushed, in memory: 400 of them -/
def MarksAt (T : TypeId) (w : World) (b : Nat) (p : Nat → Bool) : Prop := ∃ cs : Array Value, w.heap[b]? = some (.cells cs T (0, 0)) ∧ cs.size = 400 ∧ ∀ j, j < 400 → cs[j]? = some (.bool (p j))
theorem MarksAt.cell {T : TypeId} {w : World} {b : Nat} {p : Nat → Bool} (h : MarksAt T w b p) (j : Nat) (hj : j < 400) : w.cell? ⟨b, j, none⟩ = some (.bool (p j)) := by
  obtain ⟨cs, h1, _, h3⟩ := h
  exact obj_cell h1 (h3 j hj)
theorem MarksAt.free {T : TypeId} {w : World} {b : Nat} {p : Nat → Bool} (h : MarksAt T w b p) (j : Nat) : w.frozen? ⟨b, j, none⟩ = false := by
  obtain ⟨cs, h1, _, h3⟩ := h
  exact obj_free h1 j
theorem MarksAt.lt {T : TypeId} {w : World} {b : Nat} {p : Nat → Bool} (h : MarksAt T w b p) : b < w.heap.size := by
  obtain ⟨cs, h1, _, h3⟩ := h
  exact lt_of_block h1
theorem MarksAt.block {T : TypeId} {w w' : World} {b : Nat} {p : Nat → Bool} (h : MarksAt T w b p) (e : w'.heap[b]? = w.heap[b]?) : MarksAt T w' b p := by
  obtain ⟨cs, h1, h2, h3⟩ := h
  exact ⟨cs, by rw [e]; exact h1, h2, h3⟩
theorem MarksAt.keep {T : TypeId} {S : Nat → Prop} {w w' : World} {b : Nat} {p : Nat → Bool} (h : MarksAt T w b p) (k : Keeps S w w') (hn : ¬ S b) : MarksAt T w' b p := h.block (k.block b h.lt hn)
theorem MarksAt.set {T : TypeId} {w : World} {b : Nat} {p : Nat → Bool} (h : MarksAt T w b p) (k : Nat) (v : Bool) : MarksAt T (w.setCell ⟨b, k, none⟩ (.bool v)) b (fun j => if j = k then v else p j) := by
  obtain ⟨cs, h1, h2, h3⟩ := h
  refine ⟨_, obj_set h1 k _, by simpa using h2, fun j hj => ?_⟩
  by_cases e : j = k
  · subst e
    rw [Array.getElem?_setIfInBounds_self_of_lt (by omega)]; simp
  · rw [Array.getElem?_setIfInBounds_ne (fun h => e h.symm), h3 j hj]; simp [e]
/-- the state of the law's order: what was pushed, what is next -/
structure RowSt (now nx : Int) (p : Nat → Bool) (f : Int → Option Value) : Prop where
  low : -1 ≤ nx
  high : nx ≤ 150
  none : nx = -1 → ∀ j, f j = none
  there : ∀ j : Nat, (f j).isSome = true ↔ (p j = true ∧ nx ≤ j)
  neg : ∀ j : Int, j < 0 → f j = Option.none
  range : ∀ j : Nat, p j = true → j < 150
  val : ∀ (j : Int) v, f j = some v → ∃ (oa : Option Addr) (bc : Nat) (at' : Int), v = keptV j false j 0 0 0 false (.slice oa 0 bc) at' ∧ 0 ≤ at' ∧ at' ≤ now
namespace RowSt
variable {now nx : Int} {p : Nat → Bool} {f : Int → Option Value}
theorem start : RowSt 0 (-1) (fun _ => false) (fun _ => Option.none) := ⟨by omega, by omega, fun _ _ => rfl, fun j => by simp, fun _ _ => rfl, (fun j h => by cases h), (fun j v h => by cases h)⟩
theorem later (h : RowSt now nx p f) {now' : Int} (hn : now ≤ now') : RowSt now' nx p f :=
  ⟨h.low, h.high, h.none, h.there, h.neg, h.range, fun j v hv => by obtain ⟨oa, bc, a, h1, h2, h3⟩ := h.val j v hv; exact ⟨oa, bc, a, h1, h2, by omega⟩⟩
theorem all (h : RowSt now nx p f) (hn : now ≤ 1000000) : AllKept f := fun i v hv => by
  obtain ⟨oa, bc, a, h1, h2, h3⟩ := h.val i v hv
  exact ⟨_, _, _, _, _, _, _, _, _, _, _, h1, h2, by omega⟩
theorem keys (h : RowSt now nx p f) (h0 : 0 ≤ nx) : ∀ i, (f i).isSome = true → nx ≤ i ∧ i < 150 := fun i hi => by
  by_cases hneg : i < 0
  · rw [h.neg i hneg] at hi; cases hi
  · obtain ⟨j, rfl⟩ := Int.eq_ofNat_of_zero_le (show 0 ≤ i by omega)
    have q := (h.there j).1 hi
    have := h.range j q.1
    exact ⟨q.2, by omega⟩
/-- is it new? -/
theorem fresh (h : RowSt now nx p f) (n : Nat) (hn : n < 150) (T : Int) (hT : T = if nx < 0 then (n : Int) else nx) : Pl.fresh f n T = (decide (T ≤ n) && !p n) := by
  unfold Pl.fresh
  have q := h.there n
  have h1 := h.low
  have h2 := h.high
  by_cases hf : (f n).isSome = true
  · have q' := q.1 hf
    rw [Option.isSome_iff_exists] at hf
    obtain ⟨v, hv⟩ := hf
    rw [hv, q'.1]
    simp
  · have hno : f n = Option.none := by simpa using hf
    rw [hno]
    by_cases hle : T ≤ n
    · have hp : p n = false := by
        cases hp : p n with
        | false => rfl
        | true => exact absurd (q.2 ⟨hp, by split at hT <;> omega⟩) hf
      have : n < T + 200 := by split at hT <;> omega
      simp [hle, hp, this]
    · simp [hle]
theorem push (h : RowSt now nx p f) (n : Nat) (hn : n < 150) (T : Int) (hT : T = if nx < 0 then (n : Int) else nx) (h0 : 0 ≤ now) (oa : Option Addr) (bc : Nat) :
    RowSt now T (if (decide (T ≤ n) && !p n) = true then (fun j => if j = n then true else p j) else p) (Pl.keepF f n T (keptV n false n 0 0 0 false (.slice oa 0 bc) now)) := by
  have e := h.fresh n hn T hT
  have h1 := h.low
  have h2 := h.high
  have hT0 : 0 ≤ T := by split at hT <;> omega
  have hnx : nx ≤ T := by split at hT <;> omega
  have hold : ∀ j : Nat, (f j).isSome = true ↔ (p j = true ∧ T ≤ j) := fun j => by
    by_cases hneg : nx < 0
    · have hz := h.none (by omega)
      have hpj := h.there j
      rw [hz] at hpj
      rw [hz]
      simp only [Option.isSome_none, Bool.false_eq_true, false_iff, not_and] at hpj ⊢
      intro q1
      exact absurd (hpj q1) (by omega)
    · rw [if_neg hneg] at hT; subst hT; exact h.there j
  unfold Pl.keepF
  rw [e]
  by_cases hr : (decide (T ≤ n) && !p n) = true
  · rw [if_pos hr, if_pos hr]
    refine ⟨by omega, by split at hT <;> omega, fun h => by omega, fun j => ?_, fun j hj => ?_, fun j hj => ?_, fun j v hv => ?_⟩
    · simp at hr
      by_cases ej : j = n
      · subst ej; simp [hr.1]
      · have : ¬ ((j : Int) = (n : Int)) := by omega
        simp only [this, if_false, ej]
        exact hold j
    · show (if j = (n : Int) then _ else f j) = _
      rw [if_neg (by omega)]; exact h.neg j hj
    · by_cases ej : j = n
      · omega
      · simp only [ej, if_false] at hj
        exact h.range j hj
    · by_cases ej : j = (n : Int)
      · subst ej
        simp only [if_true] at hv
        cases hv
        exact ⟨oa, bc, now, rfl, h0, Int.le_refl _⟩
      · simp only [ej, if_false] at hv
        exact h.val j v hv
  · rw [if_neg hr, if_neg hr]
    exact ⟨by omega, by split at hT <;> omega, fun h => by omega, hold, h.neg, h.range, h.val⟩
theorem pop (h : RowSt now nx p f) (h0 : 0 ≤ nx) {wait nx' now' : Int} {f' : Int → Option Value} {L : List (List Value)} (hp : Pops now' wait f nx L f' nx') :
    RowSt now nx' p f' ∧ nx' = nx + L.length ∧ ∀ k : Nat, ∀ x, L[k]? = some x → ∃ (s : Int) (oa : Option Addr) (bc : Nat), x = itemCells (nx + k) (!p (nx + k).toNat) s 0 0 0 false (.slice oa 0 bc) ∧ (p (nx + k).toNat = true → s = nx + k) := by
  obtain ⟨e1, e2, e3⟩ := hp.spec
  have hb := hp.bound (M := 150) (h.keys h0) h.high
  refine ⟨⟨by omega, hb, fun h => by omega, fun j => ?_, fun j hj => ?_, h.range, fun j v hv => ?_⟩, e1, fun k x hx => ?_⟩
  · rw [e2 j]
    by_cases hj : nx ≤ (j : Int) ∧ (j : Int) < nx'
    · rw [if_pos hj]
      simp only [Option.isSome_none, Bool.false_eq_true, false_iff]
      omega
    · rw [if_neg hj, h.there j]
      constructor
      · rintro ⟨q1, q2⟩; exact ⟨q1, by omega⟩
      · rintro ⟨q1, q2⟩; exact ⟨q1, by omega⟩
  · rw [e2 j, if_neg (by omega)]; exact h.neg j hj
  · rw [e2 j] at hv
    split at hv
    · cases hv
    · exact h.val j v hv
  · obtain ⟨m, hm⟩ := Int.eq_ofNat_of_zero_le (show 0 ≤ nx + (k : Int) by omega)
    rcases e3 k x hx with ⟨q1, rfl⟩ | ⟨num, gone, s, t, l, lv, st, oa, bn, bc, at', q1, rfl⟩
    · have hpm : p (nx + (k : Int)).toNat = false := by
        rw [hm]
        show p m = false
        cases hpm : p m with
        | false => rfl
        | true => 
          have := (h.there m).2 ⟨hpm, by omega⟩
          rw [hm] at q1
          have this' : (f (m : Int)).isSome = true := this
          rw [q1] at this'
          cases this'
      rw [hpm]
      exact ⟨0, Option.none, 0, rfl, by simp⟩
    · obtain ⟨oa', bc', a', q2, q3, q4⟩ := h.val _ _ q1
      have hpm : p (nx + (k : Int)).toNat = true := by
        rw [hm]
        show p m = true
        rw [hm] at q1
        exact ((h.there m).1 (by show (f (m : Int)).isSome = true; rw [q1]; rfl)).1
      rw [hpm]
      simp only [Value.agg.injEq, Array.mk.injEq, List.cons.injEq, Value.int.injEq, Value.bool.injEq, Value.slice.injEq, true_and, and_true] at q2
      obtain ⟨rfl, rfl, rfl, rfl, rfl, rfl, rfl, ⟨rfl, rfl, rfl⟩, rfl⟩ := q2
      exact ⟨_, oa, bc, rfl, fun _ => rfl⟩
/-- at the end nothing is left -/
theorem done (h : RowSt now nx p f) (h0 : 0 ≤ nx) {wait now' : Int} (hw : ¬ Waited f now' wait) (hn : now + wait ≤ now') : (∀ j, f j = Option.none) ∧ ∀ j : Nat, nx ≤ j → p j = false := by
  have hz : ∀ j, f j = Option.none := fun j => by
    cases hf : f j with
    | none => rfl
    | some v =>
      obtain ⟨oa, bc, a, rfl, q1, q2⟩ := h.val j v hf
      exact absurd ⟨j, j, false, j, 0, 0, 0, false, oa, 0, bc, a, hf, by omega⟩ hw
  refine ⟨hz, fun j hj => ?_⟩
  cases hp : p j with
  | false => rfl
  | true =>
    have := (h.there j).2 ⟨hp, hj⟩
    rw [hz] at this
    cases this
end RowSt
end Go.Proofs.YtlfdkoebjddokaaDoor
