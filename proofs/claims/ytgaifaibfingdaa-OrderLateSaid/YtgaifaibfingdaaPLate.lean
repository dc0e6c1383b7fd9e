import Derived.Test.YtgaifaibfingdaaOrderPop
/-! What comes out of an order, step by step: plain. -/
namespace Go.Proofs.Ytgaifaibfingdaa
open Go.RowKit
set_option linter.unusedVariables false
set_option linter.unusedSimpArgs false
theorem Pops.stay {now wait n0 nx : Int} {f0 f : Int → Option Value} {L : List (List Value)} (h0 : f0 n0 = none) (hw : ¬ Waited f0 now wait) (h : Pops now wait f0 n0 L f nx) : L = [] ∧ f = f0 ∧ nx = n0 := by
  induction h with
  | nil => exact ⟨rfl, rfl, rfl⟩
  | has hp hf ih =>
    obtain ⟨rfl, rfl, rfl⟩ := ih
    rw [h0] at hf
    cases hf
  | gone hp hf hW ih =>
    obtain ⟨rfl, rfl, rfl⟩ := ih
    exact absurd hW hw
theorem Pops.first_has {now wait n0 nx : Int} {f0 f : Int → Option Value} {L : List (List Value)} {num : Int} {gone : Bool} {s t l lv : Int} {st : Bool} {oa : Option Addr} {bn bc : Nat} {at' : Int} (h0 : f0 n0 = some (keptV num gone s t l lv st (.slice oa bn bc) at')) (h : Pops now wait f0 n0 L f nx) :
    (L = [] ∧ f = f0 ∧ nx = n0) ∨ ∃ L', L = itemCells num gone s t l lv st (.slice oa bn bc) :: L' ∧ Pops now wait (fun j => if j = n0 then none else f0 j) (n0 + 1) L' f nx := by
  induction h with
  | nil => exact .inl ⟨rfl, rfl, rfl⟩
  | has hp hf ih =>
    rcases ih with ⟨rfl, rfl, rfl⟩ | ⟨L', rfl, h1⟩
    · rw [h0] at hf
      simp only [Option.some.injEq, Value.agg.injEq, Array.mk.injEq, List.cons.injEq, Value.int.injEq, Value.bool.injEq, Value.slice.injEq, true_and, and_true] at hf
      obtain ⟨rfl, rfl, rfl, rfl, rfl, rfl, rfl, ⟨rfl, rfl, rfl⟩, rfl⟩ := hf
      exact .inr ⟨[], rfl, .nil⟩
    · exact .inr ⟨_, rfl, .has h1 hf⟩
  | gone hp hf hW ih =>
    rcases ih with ⟨rfl, rfl, rfl⟩ | ⟨L', rfl, h1⟩
    · rw [h0] at hf
      cases hf
    · exact .inr ⟨_, rfl, .gone h1 hf hW⟩
theorem Pops.first_gone {now wait n0 nx : Int} {f0 f : Int → Option Value} {L : List (List Value)} (h0 : f0 n0 = none) (h : Pops now wait f0 n0 L f nx) :
    (L = [] ∧ f = f0 ∧ nx = n0) ∨ ∃ L', L = itemCells n0 true 0 0 0 0 false (.slice none 0 0) :: L' ∧ Pops now wait f0 (n0 + 1) L' f nx := by
  induction h with
  | nil => exact .inl ⟨rfl, rfl, rfl⟩
  | has hp hf ih =>
    rcases ih with ⟨rfl, rfl, rfl⟩ | ⟨L', rfl, h1⟩
    · rw [h0] at hf
      cases hf
    · exact .inr ⟨_, rfl, .has h1 hf⟩
  | gone hp hf hW ih =>
    rcases ih with ⟨rfl, rfl, rfl⟩ | ⟨L', rfl, h1⟩
    · exact .inr ⟨[], rfl, .nil⟩
    · exact .inr ⟨_, rfl, .gone h1 hf hW⟩
theorem kept_inj {num num2 : Int} {gone gone2 : Bool} {s t l lv s2 t2 l2 lv2 : Int} {st st2 : Bool} {oa oa2 : Option Addr} {bn bc bn2 bc2 : Nat} {a a2 : Int} (h : keptV num gone s t l lv st (.slice oa bn bc) a = keptV num2 gone2 s2 t2 l2 lv2 st2 (.slice oa2 bn2 bc2) a2) : a = a2 := by
  simp at h
  exact h.2.2.2.2.2.2.2.2
theorem not_waited_none {f : Int → Option Value} {now wait : Int} (h : ∀ j, f j = none) : ¬ Waited f now wait := by
  rintro ⟨i, num, gone, s, t, l, lv, st, oa, bn, bc, at', g1, g2⟩
  rw [h i] at g1
  cases g1
theorem not_waited_one {f : Int → Option Value} {now wait k num : Int} {oa : Option Addr} {bn bc : Nat} {t0 : Int} (h : ∀ j, f j = if j = k then some (keptV num false 0 0 0 0 false (.slice oa bn bc) t0) else none) (hw : now - t0 < wait) : ¬ Waited f now wait := by
  rintro ⟨i, num, gone, s, t, l, lv, st, oa, bn, bc, at', g1, g2⟩
  rw [h i] at g1
  split at g1
  · simp only [Option.some.injEq] at g1
    have := kept_inj g1
    omega
  · cases g1
theorem waited_one {f : Int → Option Value} {now wait k num : Int} {oa : Option Addr} {bn bc : Nat} {t0 : Int} (h : ∀ j, f j = if j = k then some (keptV num false 0 0 0 0 false (.slice oa bn bc) t0) else none) (hw : wait ≤ now - t0) : Waited f now wait :=
  ⟨k, num, false, 0, 0, 0, 0, false, oa, bn, bc, t0, by rw [h k, if_pos rfl], hw⟩
theorem late_pop {now wait a nx : Int} {f3 f' : Int → Option Value} {L : List (List Value)} {oa : Option Addr} {cc : Nat} (h : ∀ j, f3 j = if j = a + 2 then some (keptV (a + 2) false 0 0 0 0 false (.slice oa 0 cc) 0) else none) (hw : wait ≤ now) (hp : Pops now wait f3 (a + 1) L f' nx) (hn : f' nx = none) (hnw : ¬ Waited f' now wait) :
    L = [itemCells (a + 1) true 0 0 0 0 false (.slice none 0 0), itemCells (a + 2) false 0 0 0 0 false (.slice oa 0 cc)] ∧ nx = a + 3 ∧ ∀ j, f' j = none := by
  have W := waited_one h (now := now) (wait := wait) (by omega)
  rcases hp.first_gone (by rw [h, if_neg (by omega)]) with ⟨_, rfl, rfl⟩ | ⟨L1, rfl, hp1⟩
  · exact absurd W hnw
  · rw [show a + 1 + 1 = a + 2 by omega] at hp1
    have h2 : f3 (a + 2) = some (keptV (a + 2) false 0 0 0 0 false (.slice oa 0 cc) 0) := by rw [h, if_pos rfl]
    rcases hp1.first_has h2 with ⟨_, rfl, rfl⟩ | ⟨L2, rfl, hp2⟩
    · rw [h2] at hn; cases hn
    · have hz : ∀ j, (fun j => if j = a + 2 then none else f3 j) j = none := by
        intro j
        show (if j = a + 2 then none else f3 j) = none
        split
        · rfl
        · rw [h, if_neg (by assumption)]
      obtain ⟨rfl, rfl, rfl⟩ := hp2.stay (hz _) (not_waited_none hz)
      exact ⟨rfl, by omega, hz⟩
theorem early_pop {now wait a nx t1 : Int} {f3 f' : Int → Option Value} {L : List (List Value)} {oa ob : Option Addr} {cc cb : Nat} (h : ∀ j, f3 j = if j = a + 1 then some (keptV (a + 1) false 0 0 0 0 false (.slice ob 0 cb) t1) else if j = a + 2 then some (keptV (a + 2) false 0 0 0 0 false (.slice oa 0 cc) 0) else none) (hp : Pops now wait f3 (a + 1) L f' nx) (hn : f' nx = none) :
    L = [itemCells (a + 1) false 0 0 0 0 false (.slice ob 0 cb), itemCells (a + 2) false 0 0 0 0 false (.slice oa 0 cc)] ∧ nx = a + 3 ∧ ∀ j, f' j = none := by
  have h1 : f3 (a + 1) = some (keptV (a + 1) false 0 0 0 0 false (.slice ob 0 cb) t1) := by rw [h, if_pos rfl]
  rcases hp.first_has h1 with ⟨_, rfl, rfl⟩ | ⟨L1, rfl, hp1⟩
  · rw [h1] at hn; cases hn
  · rw [show a + 1 + 1 = a + 2 by omega] at hp1
    have h2 : (fun j => if j = a + 1 then none else f3 j) (a + 2) = some (keptV (a + 2) false 0 0 0 0 false (.slice oa 0 cc) 0) := by
      show (if a + 2 = a + 1 then none else f3 (a + 2)) = _
      rw [if_neg (by omega), h, if_neg (by omega), if_pos rfl]
    rcases hp1.first_has h2 with ⟨_, rfl, rfl⟩ | ⟨L2, rfl, hp2⟩
    · rw [h2] at hn; cases hn
    · have hz : ∀ j, (fun j => if j = a + 2 then none else (fun j => if j = a + 1 then none else f3 j) j) j = none := by
        intro j
        show (if j = a + 2 then none else (if j = a + 1 then none else f3 j)) = none
        split
        · rfl
        · split
          · rfl
          · rw [h, if_neg (by assumption), if_neg (by assumption)]
      obtain ⟨rfl, rfl, rfl⟩ := hp2.stay (hz _) (not_waited_none hz)
      exact ⟨rfl, by omega, hz⟩
end Go.Proofs.Ytgaifaibfingdaa
