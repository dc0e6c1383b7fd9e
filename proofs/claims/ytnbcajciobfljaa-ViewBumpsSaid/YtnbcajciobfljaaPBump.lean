import Derived.Test.YtnbcajciobfljaaPView
/-! The walk of the law ViewBumps. -/
namespace Go.Proofs.Ytnbcajciobfljaa
open Go.RowKit
set_option linter.unusedVariables false
set_option linter.unusedSimpArgs false
namespace Pl
/-- what a bump gives, merged with what was -/
theorem bump_at {A : List Mb} (h : GoodV A) (n : Int) (up : Bool) : jn (vat A n) (bumpM A n up) = bumpM A n up := by
  cases e : vat A n with
  | none => rfl
  | some x => unfold jn; exact if_pos (key_bump e)
theorem vat_bump {A : List Mb} (h : GoodV A) (n : Int) (up : Bool) (k : Int) : vat (putV A (bumpM A n up)) k = if k = n then some (bumpM A n up) else vat A k := by
  rw [vat_put h.ris, show (bumpM A n up).n = n from rfl]
  by_cases e : k = n
  · subst e; rw [if_pos rfl, if_pos rfl, bump_at h]
  · rw [if_neg e, if_neg e]
theorem bump_right {A : List Mb} {n : Int} {up : Bool} (h : GoodV A) (hm : mbOk (bumpM A n up) = true) : mergeV A (putV A (bumpM A n up)) = putV A (bumpM A n up) := by
  have g := putV_good h hm
  refine vat_ext (mergeV_good h g.ok).ris g.ris fun k => ?_
  rw [vat_merge h.ris g.ris, vat_bump h]
  by_cases e : k = n
  · subst e
    rw [if_pos rfl]
    show some (jn (vat A k) (bumpM A k up)) = _
    rw [bump_at h]
  · rw [if_neg e]
    cases vat A k with
    | none => rfl
    | some x => simp [jo, jn]
theorem bump_left {A : List Mb} {n : Int} {up : Bool} (h : GoodV A) (hm : mbOk (bumpM A n up) = true) : mergeV (putV A (bumpM A n up)) A = putV A (bumpM A n up) := by
  rw [mergeV_comm (putV_good h hm) h, bump_right h hm]
theorem filter_one {B : List Mb} (h : Ris B) {m : Mb} (hm : m ∈ B) {p : Mb → Bool} (hp : ∀ x ∈ B, p x = true ↔ x = m) : B.filter p = [m] := by
  induction B with
  | nil => cases hm
  | cons x r ih =>
    obtain ⟨h1, h2⟩ := List.pairwise_cons.1 h
    rw [List.filter_cons]
    rcases List.mem_cons.1 hm with rfl | hm'
    · rw [if_pos ((hp m (by simp)).2 rfl)]
      congr 1
      rw [List.filter_eq_nil_iff]
      intro y hy q
      have := (hp y (by simp [hy])).1 q
      subst this
      have := h1 y hy; omega
    · rw [if_neg (fun q => by
        have := (hp x (by simp)).1 q
        subst this
        have := h1 x hm'; omega)]
      exact ih h2 hm' (fun y hy => hp y (by simp [hy]))
theorem bump_in {A : List Mb} (h : GoodV A) (n : Int) (up : Bool) : bumpM A n up ∈ putV A (bumpM A n up) := by
  have := vat_bump h n up n
  rw [if_pos rfl] at this
  exact vat_mem this
theorem bump_newer {A : List Mb} {n : Int} {up : Bool} (h : GoodV A) (hm : mbOk (bumpM A n up) = true) : newerV A (putV A (bumpM A n up)) = [bumpM A n up] := by
  have g := putV_good h hm
  unfold newerV
  refine filter_one g.ris (bump_in h n up) fun x hx => ?_
  have hv := vat_of g.ris hx
  rw [vat_bump h] at hv
  by_cases e : x.n = n
  · rw [if_pos e] at hv
    have e2 : x = bumpM A n up := by cases hv; rfl
    refine ⟨fun _ => e2, fun _ => ?_⟩
    unfold isNew
    rw [e2, show (bumpM A n up).n = n from rfl]
    cases q : vat A n with
    | none => rfl
    | some y => exact decide_eq_true (key_bump q)
  · rw [if_neg e] at hv
    refine ⟨fun q => ?_, fun q => absurd (by rw [q]; rfl) e⟩
    unfold isNew at q
    rw [hv] at q
    simp at q
theorem bump_alive {A : List Mb} {n : Int} {up : Bool} (h : GoodV A) (hm : mbOk (bumpM A n up) = true) : ((aliveV (putV A (bumpM A n up))).any fun k => decide (k = n)) = up := by
  have g := putV_good h hm
  have hi := bump_in h n up
  rw [Bool.eq_iff_iff, List.any_eq_true]
  constructor
  · rintro ⟨k, hk, e⟩
    have e : k = n := by simpa using e
    subst e
    obtain ⟨x, hx, rfl⟩ := List.mem_map.1 hk
    obtain ⟨hx, hu⟩ := List.mem_filter.1 hx
    have hv := vat_of g.ris hx
    rw [vat_bump h, if_pos rfl] at hv
    have e2 : x = bumpM A x.n up := by
      have := Option.some.inj hv; exact this.symm
    rw [e2] at hu
    exact hu
  · intro hu
    refine ⟨n, ?_, by simp⟩
    exact List.mem_map.2 ⟨_, List.mem_filter.2 ⟨hi, hu⟩, rfl⟩
end Pl
end Go.Proofs.Ytnbcajciobfljaa
