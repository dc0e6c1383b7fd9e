import Derived.Test.YtefhbjkhmfmkaaaDoorVc
import Derived.Test.YtefhbjkhmfmkaaaDoorVoiceA
import Derived.Deep.QuietTactic
import Derived.BigQuiet
import Derived.Deep.CutBlock
/-! choirref3.Voices: the object; Hear up to its faults. -/
namespace Go.Proofs.YtefhbjkhmfmkaaaDoor
open Go.RowKit
set_option linter.unusedVariables false
set_option linter.unusedSimpArgs false
/-- the reference's object -/
def RVo (w : World) (b : Nat) (many sp : Int) (v : Value) : Prop := w.heap[b]? = some (.cells #[.int .i64 many, .int .i64 sp, v] 32 (0, 0))
/-- the fault of the k-th, looked for among those ahead -/
def Pl.rFault (L : List Vc) (k : Nat) (v : Vc) : Int := if Pl.vcOk v = true then (if (L.take k).any (fun u => decide (u.who = v.who)) = true then 7 else 0) else 1
theorem Pl.rFault_eq (L : List Vc) (k : Nat) (v : Vc) : Pl.rFault L k v = Pl.vcFault L k v := by
  unfold Pl.rFault Pl.vcFault Pl.lvAt
  by_cases h : Pl.vcOk v = true
  · rw [if_pos h, if_pos h]
    have : ((L.take k).any fun u => decide (u.who = v.who)) = ((List.find? (fun u => decide (u.who = v.who)) (L.take k)).map (·.lvl)).isSome := by
      rw [Option.isSome_map, Bool.eq_iff_iff, List.any_eq_true, List.find?_isSome]
    rw [this]
  · rw [if_neg h, if_neg h]
/-- what is left of a score, by quotient and remainder -/
theorem Pl.eighth {s : Int} (h : 0 ≤ s ∧ s ≤ 16256) : s - (if 0 < s % 8 then s / 8 + 1 else s / 8) = s - (s + 7) / 8 := by split <;> omega
theorem Pl.lvAt_step {L : List Vc} {i : Nat} (hd : L.Pairwise fun x y => x.who ≠ y.who) (hi : i < L.length) (j : Int) : Pl.lvAt (L.take (i + 1)) j = if j = L[i].who then some L[i].lvl else Pl.lvAt (L.take i) j := by
  rw [List.take_succ_eq_append_getElem hi, Pl.lvAt_more]
  unfold Pl.lvAt
  rw [Option.map_eq_none_iff, List.find?_eq_none]
  intro x hx
  obtain ⟨m, hm, rfl⟩ := List.mem_take_iff_getElem.1 hx
  have := (List.pairwise_iff_getElem.1 hd) m i (by omega) hi (by omega)
  simpa using this
theorem Pl.lvAt_new {L : List Vc} {i : Nat} (hd : L.Pairwise fun x y => x.who ≠ y.who) (hi : i < L.length) : Pl.lvAt (L.take i) L[i].who = none := by
  unfold Pl.lvAt
  rw [Option.map_eq_none_iff, List.find?_eq_none]
  intro x hx
  obtain ⟨m, hm, rfl⟩ := List.mem_take_iff_getElem.1 hx
  have := (List.pairwise_iff_getElem.1 hd) m i (by omega) hi (by omega)
  simpa using this
theorem Pl.LevF.distinct {L : List Vc} (h : Pl.LevF L 0) : L.Pairwise fun x y => x.who ≠ y.who := by
  have hl := h.ok.1
  unfold Pl.LevF at h
  rw [if_neg (by omega)] at h
  rcases h with ⟨-, h⟩ | ⟨h, -⟩
  · rw [List.pairwise_iff_getElem]
    intro i j hi hj hij e
    have := h j hj
    rw [← Pl.rFault_eq] at this
    unfold Pl.rFault at this
    split at this
    · rw [if_pos] at this
      · cases this
      · rw [List.any_eq_true]
        exact ⟨L[i], List.mem_take_iff_getElem.2 ⟨i, by omega, rfl⟩, by simp [e]⟩
    · cases this
  · exact absurd rfl h
theorem Pl.sc2_at (f g : Pl.Sco) (i : Int) : Pl.sc2 f g i = if Pl.nsc ((f i).getD 0) ((g i).getD 0) = 0 then none else some (Pl.nsc ((f i).getD 0) ((g i).getD 0)) := by
  have e0 : Pl.nsc 0 0 = 0 := by decide
  unfold Pl.sc2 Pl.sc1 Pl.sc0
  cases hf : f i with
  | some s => simp
  | none =>
    cases hg : g i with
    | some l => simp
    | none => simp [e0]
/-- those below k -/
structure Pl.NextL (f g : Pl.Sco) (k : Nat) (N : List Vc) : Prop where
  len : N.length ≤ k
  ris : N.Pairwise fun x y => x.who < y.who
  mem : ∀ who lv, (⟨who, lv⟩ : Vc) ∈ N ↔ (0 ≤ who ∧ who < k ∧ Pl.sc2 f g who = some lv)
theorem Pl.NextL.start (f g : Pl.Sco) : Pl.NextL f g 0 [] := ⟨by simp, List.Pairwise.nil, fun who lv => by simp; omega⟩
theorem Pl.NextL.skip {f g : Pl.Sco} {k : Nat} {N : List Vc} (h : Pl.NextL f g k N) (h0 : Pl.nsc ((f k).getD 0) ((g k).getD 0) = 0) : Pl.NextL f g (k + 1) N := by
  refine ⟨by have := h.len; omega, h.ris, fun who lv => (h.mem who lv).trans ⟨fun ⟨a, b, c⟩ => ⟨a, by omega, c⟩, fun ⟨a, b, c⟩ => ⟨a, ?_, c⟩⟩⟩
  have : who ≠ k := fun e => by subst e; rw [Pl.sc2_at, if_pos h0] at c; cases c
  omega
theorem Pl.NextL.more {f g : Pl.Sco} {k : Nat} {N : List Vc} (h : Pl.NextL f g k N) {s : Int} (hs : Pl.nsc ((f k).getD 0) ((g k).getD 0) = s) (h0 : s ≠ 0) : Pl.NextL f g (k + 1) (N ++ [⟨k, s⟩]) := by
  have hk : Pl.sc2 f g k = some s := by rw [Pl.sc2_at, if_neg (by rw [hs]; exact h0), hs]
  refine ⟨by have := h.len; simp; omega, ?_, fun who lv => ?_⟩
  · rw [List.pairwise_append]
    refine ⟨h.ris, List.pairwise_singleton _ _, fun x hx y hy => ?_⟩
    rw [List.mem_singleton] at hy
    subst hy
    exact ((h.mem x.who x.lvl).1 hx).2.1
  · rw [List.mem_append, h.mem, List.mem_singleton]
    constructor
    · rintro (⟨a, b, c⟩ | e)
      · exact ⟨a, by omega, c⟩
      · cases e; exact ⟨by omega, by omega, hk⟩
    · rintro ⟨a, b, c⟩
      by_cases e : who = k
      · right
        subst e
        rw [hk] at c
        cases c; rfl
      · left; exact ⟨a, by omega, c⟩
end Go.Proofs.YtefhbjkhmfmkaaaDoor
