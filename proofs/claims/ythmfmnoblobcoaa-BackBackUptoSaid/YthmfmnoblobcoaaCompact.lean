import Derived.Shelf.Slices.CompactI
import Derived.Sort.OwnSortedInts
import Derived.Lib.RowBridge
import Derived.Test.YthmfmnoblobcoaaKeysSorted
import Derived.Test.YthmfmnoblobcoaaIRow
/-! slices.Compact at ints that are sorted. -/
namespace Go.Proofs.Ythmfmnoblobcoaa
open Go.RowKit Go.Sort Go.Shelf Go.Proofs
set_option linter.unusedVariables false
set_option linter.unusedSimpArgs false
def compA_ren : Go.Shelf.Ren := ⟨fun | 20 => 15 | n => n, fun | 0 => 0 | 3 => 3 | 4 => 4 | 22 => 22 | n => n, fun | n => n⟩
theorem compA : Lays2.n20 Try.prog compA_ren := {
  mixed := by kernel_rfl
  f20 := Try.func15.trans (congrArg some (by kernel_rfl))
  t0 := Try.underlying0
  a0 := Try.isAgg0
  z0 := Try.sizeOf0
  v0 := Try.zeroValue0
  t3 := Try.underlying3
  a3 := Try.isAgg3
  z3 := Try.sizeOf3
  v3 := Try.zeroValue3
  t4 := Try.underlying4
  a4 := Try.isAgg4
  z4 := Try.sizeOf4
  v4 := Try.zeroValue4
  t22 := Try.underlying22
  a22 := Try.isAgg22
  z22 := Try.sizeOf22
  v22 := Try.zeroValue22
  i3 := by kernel_rfl }
/-- what is sorted, each once -/
theorem compact_rises {A : List Int} (hs : A.Pairwise fun x y => x ≤ y) : Rises (Lib.compact A) ∧ ∀ i, i ∈ Lib.compact A ↔ i ∈ A := by
  have hg : ∀ j (hj : j < A.length), A.toArray[j]! = A[j] := fun j hj => by simp [hj]
  have key : ∀ m, m ≤ A.length → Rises (Lib.compactUpTo A.toArray m) ∧ (∀ i, i ∈ Lib.compactUpTo A.toArray m ↔ i ∈ A.take m) := by
    intro m
    induction m with
    | zero => intro _; simp [Lib.compactUpTo]
    | succ m ih =>
      intro hm
      obtain ⟨h1, h2⟩ := ih (by omega)
      have hlt : m < A.length := by omega
      rw [Lib.compactUpTo_succ]
      have hmax : ∀ x ∈ Lib.compactUpTo A.toArray m, 0 < m ∧ ∀ h0 : m - 1 < A.length, x ≤ A[m - 1] := fun x hx => by
        obtain ⟨j, hj, rfl⟩ := List.mem_take_iff_getElem.1 ((h2 x).1 hx)
        refine ⟨by omega, fun h0 => ?_⟩
        rcases Nat.lt_or_ge j (m - 1) with q | q
        · exact (List.pairwise_iff_getElem.1 hs) j (m - 1) (by omega) h0 q
        · have e : j = m - 1 := by omega
          subst e; exact Int.le_refl _
      have hkeep : Hid (Lib.keeps A.toArray m = true ↔ (m = 0 ∨ ∀ h0 : m - 1 < A.length, A[m] ≠ A[m - 1])) := Lib.hid (by
        unfold Lib.keeps
        rw [decide_eq_true_iff, hg m hlt]
        by_cases h0 : m = 0
        · simp [h0]
        · have hm1 : m - 1 < A.length := by omega
          rw [hg (m - 1) hm1]
          constructor
          · rintro (h | h)
            · exact .inl h
            · exact .inr (fun _ => h)
          · rintro (h | h)
            · exact .inl h
            · exact .inr (h hm1))
      rw [List.take_succ_eq_append_getElem hlt]
      cases hk : Lib.keeps A.toArray m
      · have hne : Hid (¬ (m = 0 ∨ ∀ h0 : m - 1 < A.length, A[m] ≠ A[m - 1])) := Lib.hid (fun h => by rw [hkeep.out.2 h] at hk; cases hk)
        have h0 : m ≠ 0 := fun e => hne.out (.inl e)
        have hm1 : m - 1 < A.length := by omega
        have he : A[m] = A[m - 1] := by
          rcases Int.lt_trichotomy A[m] A[m - 1] with q | q | q
          · exact absurd (.inr (fun _ => Int.ne_of_lt q)) hne.out
          · exact q
          · exact absurd (.inr (fun _ => (Int.ne_of_lt q).symm)) hne.out
        rw [if_neg (by simp), List.append_nil]
        refine ⟨h1, fun i => (h2 i).trans ?_⟩
        rw [List.mem_append, List.mem_singleton]
        constructor
        · exact .inl
        · rintro (h | h)
          · exact h
          · subst h; rw [he]; exact List.mem_take_iff_getElem.2 ⟨m - 1, by omega, rfl⟩
      · rw [if_pos rfl, hg m hlt]
        refine ⟨?_, fun i => ?_⟩
        · unfold Rises
          rw [List.pairwise_append]
          refine ⟨h1, List.pairwise_singleton _ _, fun x hx y hy => ?_⟩
          simp at hy; subst hy
          obtain ⟨q1, q2⟩ := hmax x hx
          have q3 := q2 (by omega)
          have q4 := (List.pairwise_iff_getElem.1 hs) (m - 1) m (by omega) hlt (by omega)
          rcases hkeep.out.1 hk with e | e
          · omega
          · have := e (by omega); omega
        · rw [List.mem_append, List.mem_append, h2]
  have := key A.length (Nat.le_refl _)
  rw [List.take_length] at this
  exact this
/-- fewer of a row -/
theorem IRow.cut {w : World} {M g n c : Nat} {A B : List Int} (h : IRow w M (.slice (some ⟨g, 0, none⟩) n c) (A ++ B)) : IRow w M (.slice (some ⟨g, 0, none⟩) A.length c) A := by
  obtain ⟨h1, h2⟩ := h
  refine ⟨by simp, ?_⟩
  rcases h2 with ⟨h3, _⟩ | ⟨g', cap, cur, e, hb, hg, hc, hm, hs, ht⟩
  · cases h3
  · cases e
    refine .inr ⟨g, c, cur, rfl, hb, hg, ?_, hm, hs, ?_⟩
    · have : A.length ≤ (A ++ B).length := by simp
      omega
    · have := congrArg (List.take (A.length * 1)) ht
      rw [List.take_take, List.map_append, List.take_append_of_le_length (by simp)] at this
      rw [List.take_of_length_le (l := A.map encI) (by simp)] at this
      rw [← this]
      congr 1
      simp
/-- slices.Compact at a row of ints of the call's own -/
theorem compact_own (M : Nat) (v : Value) (A : List Int) (w : World) (hA : A.length ≤ 1000000) (h : IRow w M v A) :
    Calls Try.prog 15 #[v] w fun e w' => ∃ v', e = .returned v' ∧ IRow w' M v' (Lib.compact A) ∧ w.grownBy w' v.ownBlock := by
  have hemp : ∀ (p : Option Addr) (cap : Nat) (w : World), Calls Try.prog 15 #[.slice p 0 cap] w fun e w' => e = .returned (.slice p 0 cap) ∧ w' = w := fun p cap w => Any.slices_Compact_int_empty compA p cap w
  have hnil : Lib.compact ([] : List Int) = [] := rfl
  rcases h.2 with ⟨rfl, h0⟩ | ⟨g, cap, cur, rfl, hb, hg, hc, hm, hs, ht⟩
  · have hA0 : A = [] := List.eq_nil_of_length_eq_zero h0
    subst hA0
    refine (hemp none 0 w).mono ?_
    rintro e w' ⟨rfl, rfl⟩
    exact ⟨_, rfl, by rw [hnil]; exact h, World.grownBy_refl' _ _⟩
  · have hc' : Calls Try.prog 15 #[.slice (some ⟨g, 0, none⟩) A.length cap] w fun e w' => e = .returned (.slice (some ⟨g, 0, none⟩) (Lib.compact A).length cap) ∧ ∃ q, w' = putRow (Value.int .i64) (Sort.ahead w q) g 0 (Lib.compact A ++ List.replicate (A.length - (Lib.compact A).length) 0).toArray :=
      Any.slices_Compact_int compA g 0 cap A w (holds_of_blockI hg (by simpa using ht)) (by omega) hc
    refine hc'.mono ?_
    rintro e w' ⟨rfl, q, rfl⟩
    have hle := Lib.compact_length_le A
    have hgr : ∀ w : World, grow w #[] = w := fun w => by simp [grow]
    have h1 := ownsRow_sortedI (w := w) (base := M) (g := g) (cap := cap) (n := q) (os := #[]) (ss := A) (ts := Lib.compact A ++ List.replicate (A.length - (Lib.compact A).length) 0) (by simp; omega) hb hg hc hm hs
    have h2 := grownBy_sortedI (w := w) (g := g) (n := q) (os := #[]) (Lib.compact A ++ List.replicate (A.length - (Lib.compact A).length) 0).toArray
    rw [hgr] at h1 h2
    refine ⟨_, rfl, IRow.cut (B := List.replicate (A.length - (Lib.compact A).length) 0) (n := A.length) ?_, h2⟩
    unfold IRow
    have hl : (Lib.compact A ++ List.replicate (A.length - (Lib.compact A).length) 0).length = A.length := by simp; omega
    rw [hl]
    exact h1
end Go.Proofs.Ythmfmnoblobcoaa
