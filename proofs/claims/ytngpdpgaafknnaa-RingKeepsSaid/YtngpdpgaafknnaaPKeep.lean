import Derived.Test.YtngpdpgaafknnaaRingGet
import Derived.Test.YtngpdpgaafknnaaIntRow
import Derived.Test.YtngpdpgaafknnaaMapCnt
/-! What a ring keeps of numbers that rise: plain. -/
namespace Go.Proofs.Ytngpdpgaafknnaa
open Go.RowKit
set_option linter.unusedVariables false
set_option linter.unusedSimpArgs false
/-- an empty slice's value -/
def Emp (oa : Option Addr) (bc : Nat) : Prop := bc ≤ maxLen ∧ (oa = none → bc = 0)
theorem Emp.of {w : World} {oa : Option Addr} {bc : Nat} (h : IsBytes w (.slice oa ([] : List UInt8).length bc) []) : Emp oa bc := by
  rcases h with ⟨_, ob, cap, e, h1, h2⟩ | ⟨b, off, cap, e, h1, h2, _⟩
  · simp only [Value.slice.injEq] at e
    obtain ⟨rfl, _, rfl⟩ := e
    exact ⟨h1, h2⟩
  · simp only [Value.slice.injEq] at e
    obtain ⟨rfl, _, rfl⟩ := e
    exact ⟨h2, fun h => by cases h⟩
theorem Emp.reads {oa : Option Addr} {bc : Nat} (h : Emp oa bc) (w : World) : IsBytes w (.slice oa ([] : List UInt8).length bc) [] := Sl.empty h.1 h.2
/-- the ring's top, of numbers that rise to at -/
def Pl.topAt (A : List Int) (at' : Int) : Int := if A = [] then -1 else at'
/-- what a ring of n keeps of the numbers A, the last of which is at -/
structure Kp (n at' : Int) (A : List Int) (f : Int → Option Value) : Prop where
  le : ∀ j ∈ A, 0 ≤ j ∧ j ≤ at'
  has : ∀ j, (f j).isSome = true ↔ (j ∈ A ∧ Pl.topAt A at' - n < j)
  val : ∀ j v, f j = some v → ∃ (lv : Int) (oa : Option Addr) (bc : Nat), v = pkV (j % 65536) 0 0 lv false (.slice oa 0 bc) ∧ Emp oa bc
namespace Kp
variable {n at' : Int} {A : List Int} {f : Int → Option Value}
theorem start (n at' : Int) : Kp n at' [] (fun _ => none) := ⟨(fun j h => by simp at h), (fun j => by simp), (fun j v h => by cases h)⟩
theorem all (h : Kp n at' A f) : AllPk f := fun i v hv => by
  obtain ⟨lv, oa, bc, rfl, _⟩ := h.val i v hv
  exact ⟨_, _, _, _, _, _, _, _, rfl⟩
theorem fresh (h : Kp n at' A f) {z : Int} (hz : at' < z) : f z = none := by
  cases e : f z with
  | none => rfl
  | some v =>
    have := (h.has z).1 (by rw [e]; rfl)
    have := h.le z this.1
    omega
theorem top_lt (h : Kp n at' A f) (h0 : 0 ≤ at') {z : Int} (hz : at' < z) : Pl.topAt A at' < z ∧ Pl.topOf (Pl.topAt A at') z = z := by
  have q : Pl.topAt A at' < z := by unfold Pl.topAt; split <;> omega
  exact ⟨q, by unfold Pl.topOf; rw [if_pos q]⟩
theorem push (h : Kp n at' A f) (hn : 1 ≤ n) (h0 : 0 ≤ at') {z : Int} (hz : at' < z) (lv : Int) (oa : Option Addr) (bc : Nat) (he : Emp oa bc) :
    Kp n z (A ++ [z]) (Pl.ringF f n z z (pkV (z % 65536) 0 0 lv false (.slice oa 0 bc))) := by
  have ht : Pl.topAt (A ++ [z]) z = z := by unfold Pl.topAt; rw [if_neg (by simp)]
  have hlow : ∀ j, (f j).isSome = true → j ∈ A := fun j hj => ((h.has j).1 hj).1
  refine ⟨fun j hj => ?_, fun j => ?_, fun j v hv => ?_⟩
  · simp at hj
    rcases hj with hj | rfl
    · have := h.le j hj; omega
    · omega
  · rw [ht]
    unfold Pl.ringF
    by_cases h1 : j ≤ z - n
    · simp [h1] <;> omega
    · by_cases h2 : j = z
      · subst h2; simp [h1] <;> omega
      · simp only [h1, if_false, h2, List.mem_append, List.mem_singleton, or_false]
        rw [h.has j]
        constructor
        · rintro ⟨q1, _⟩; exact ⟨q1, by omega⟩
        · rintro ⟨q1, q2⟩
          refine ⟨q1, ?_⟩
          have := h.le j q1
          unfold Pl.topAt
          split <;> omega
  · unfold Pl.ringF at hv
    split at hv
    · cases hv
    · split at hv
      · rename_i e; subst e; cases hv; exact ⟨lv, oa, bc, rfl, he⟩
      · exact h.val j v hv
theorem get (h : Kp n at' A f) {j : Int} (hj : j ∈ A) (hne : A ≠ []) : (at' - n < j → ∃ (lv : Int) (oa : Option Addr) (bc : Nat), f j = some (pkV (j % 65536) 0 0 lv false (.slice oa 0 bc)) ∧ Emp oa bc) ∧ (¬ at' - n < j → f j = none) := by
  have ht : Pl.topAt A at' = at' := by unfold Pl.topAt; rw [if_neg hne]
  have q := h.has j
  rw [ht] at q
  refine ⟨fun h1 => ?_, fun h1 => ?_⟩
  · have := q.2 ⟨hj, h1⟩
    obtain ⟨v, hv⟩ := Option.isSome_iff_exists.1 this
    obtain ⟨lv, oa, bc, rfl, he⟩ := h.val j v hv
    exact ⟨lv, oa, bc, hv, he⟩
  · cases e : f j with
    | none => rfl
    | some v => exact absurd (q.1 (by rw [e]; rfl)).2 h1
theorem few {P : Program} {k : TypeId} {w : World} {b c : Nat} (h : Kp n at' A f) (hn : 1 ≤ n) (hm : MapAt P k w b c f) (K : Go.Maps.Keyed P k) (hk : P.underlying k = some (.int .i64)) : (c : Int) ≤ n := by
  obtain ⟨ks, h1, h2, h3⟩ := hm.keys K hk
  obtain ⟨m, rfl⟩ := Int.eq_ofNat_of_zero_le (show 0 ≤ n by omega)
  by_cases hA : A = []
  · subst hA
    cases ks with
    | nil => simp at h2; omega
    | cons x r => have := (h.has x).1 ((h3 x).2 (by simp)); simp at this
  · have ht : Pl.topAt A at' = at' := by unfold Pl.topAt; rw [if_neg hA]
    have := nodup_between m (at' - m) ks h1 (fun j hj => by
      have q := (h.has j).1 ((h3 j).2 hj)
      rw [ht] at q
      have := h.le j q.1
      omega)
    omega
end Kp
end Go.Proofs.Ytngpdpgaafknnaa
