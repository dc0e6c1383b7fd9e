import Derived.Test.YtefhbjkhmfmkaaaDoorPVoiceB
/-! Who speaks, the plain law. -/
namespace Go.Proofs.YtefhbjkhmfmkaaaDoor
set_option linter.unusedVariables false
set_option linter.unusedSimpArgs false
namespace Pl
/-- the speaker is one of them -/
def Inv (sp : Int) (f : Sco) : Prop := (sp = -1 ∧ ∀ i, f i = none) ∨ (0 ≤ sp ∧ ∃ s, f sp = some s)
theorem Inv.start : Inv (-1) (fun _ => none) := .inl ⟨rfl, fun _ => rfl⟩
theorem inv_next {f : Sco} {R : List Vc} {sp : Int} (hf : Sok f) (h : SortedOf f R) : Inv (nextSp f R sp) f := by
  cases R with
  | nil =>
    have h0 := h.nil
    unfold nextSp
    rw [if_neg (by rw [h0]; simp)]
    exact .inl ⟨rfl, h0⟩
  | cons b r =>
    have hb := h.head.1
    have hb0 := (hf _ _ hb).1
    unfold nextSp
    cases e : f sp with
    | none => exact .inr ⟨hb0, _, hb⟩
    | some s =>
      simp only []
      by_cases q : s + 200 < b.lvl
      · rw [if_pos q]; exact .inr ⟨hb0, _, hb⟩
      · rw [if_neg q]; exact .inr ⟨(hf _ _ e).1, _, e⟩
theorem SortedOf.whos {f : Sco} {R : List Vc} (h : SortedOf f R) : (R.map (·.who)).Nodup := by
  unfold List.Nodup
  rw [List.pairwise_map]
  refine h.1.imp_of_mem fun {a b} ha hb hab e => ?_
  have h1 := (h.2 a.who a.lvl).1 ha
  have h2 := (h.2 b.who b.lvl).1 hb
  rw [e, h2] at h1
  have h3 := Option.some.inj h1
  unfold vBef at hab
  omega
theorem quiet_eq (R : List Vc) (many : Nat) : ((R.map (·.who)).drop many).mergeSort (fun x y => decide (x ≤ y)) = (((R.drop many).map (·.who)).mergeSort fun x y => decide (x ≤ y)) := by rw [List.map_drop]
theorem sorted_lt {A : List Int} (h : A.Nodup) : (A.mergeSort fun x y => decide (x ≤ y)).Pairwise (· < ·) := by
  have h1 : (A.mergeSort fun x y => decide (x ≤ y)).Pairwise fun x y => decide (x ≤ y) = true := List.pairwise_mergeSort (fun a b c h1 h2 => by simp at *; omega) (fun a b => by simp; omega) A
  have h2 : (A.mergeSort fun x y => decide (x ≤ y)).Nodup := (List.mergeSort_perm A _).nodup_iff.2 h
  exact (List.pairwise_and_iff.2 ⟨h1, h2⟩).imp fun {a b} h => by simp at h; omega
theorem SortedOf.lt {f : Sco} {R : List Vc} (h : SortedOf f R) {k : Nat} (hk : k + 1 < R.length) : R[k + 1].lvl < R[k].lvl ∨ (R[k].lvl = R[k + 1].lvl ∧ R[k].who < R[k + 1].who) := (List.pairwise_iff_getElem.1 h.1) k (k + 1) (by omega) hk (by omega)
/-- no more than so much -/
def Bd (f : Sco) (u : Nat) : Prop := ∀ i s, f i = some s → s ≤ u
theorem Bd.start {f : Sco} (h : Sok f) : Bd f 16256 := fun i s hs => (h i s hs).2.2.2
theorem sc2_nil (f : Sco) : sc2 f (fun _ => none) = fun i => match f i with | none => none | some s => if nsc s 0 = 0 then none else some (nsc s 0) := by
  funext i
  unfold sc2 sc1 sc0
  cases f i with
  | none => simp
  | some s => simp
theorem Bd.step {f : Sco} {u : Nat} (hf : Sok f) (h : Bd f u) : Bd (sc2 f (fun _ => none)) (nscN u 0) := fun i s hs => by
  rw [sc2_nil] at hs
  simp only [] at hs
  cases e : f i with
  | none => rw [e] at hs; simp at hs
  | some t =>
    rw [e] at hs
    simp only [] at hs
    split at hs
    · cases hs
    · cases hs
      have h1 := h i t e
      have h2 := hf i t e
      unfold nsc nscN
      omega
def fall : Nat → Nat → Nat
  | 0, u => u
  | n + 1, u => fall n (nscN u 0)
theorem fall_all : fall 200 16256 = 0 := by decide +kernel
theorem Bd.done {f : Sco} (hf : Sok f) (h : Bd f 0) (i : Int) : f i = none := by
  cases e : f i with
  | none => rfl
  | some s => have h1 := h i s e; have h2 := hf i s e; exfalso; omega
theorem cnt_less {f : Sco} {c c2 : Nat} (h : Cnt f c) (h2 : Cnt (sc2 f (fun _ => none)) c2) : c2 ≤ c := by
  obtain ⟨ks, a1, rfl, a3⟩ := h
  obtain ⟨ls, b1, rfl, b3⟩ := h2
  refine nodup_le ls ks b1 fun k hk => (a3 k).1 ?_
  have := (b3 k).2 hk
  rw [sc2_nil] at this
  simp only [] at this
  cases e : f k with
  | none => rw [e] at this; simp at this
  | some s => rfl
theorem LevF.nil : LevF [] 0 := by
  unfold LevF
  rw [if_neg (by simp)]
  exact .inl ⟨rfl, fun k hk => by simp at hk⟩
end Pl
end Go.Proofs.YtefhbjkhmfmkaaaDoor
