import Derived.Lib.SlKeysI
import Derived.Test.YthbcdpckckellaaDoorMapCnt
/-! The keys of a map keyed by int, as a list. Of whatever program. -/
namespace Go.Proofs.YthbcdpckckellaaDoor
open Go.RowKit Go.Maps Go.Proofs
set_option linter.unusedVariables false
set_option linter.unusedSimpArgs false
/-- a list of ints that rises -/
abbrev Rises (S : List Int) : Prop := S.Pairwise (fun x y => x < y)
theorem sorted_keys {P : Program} {k : TypeId} {w : World} {b c : Nat} {f : Int → Option Value} {D : DataW Value} (K : Keyed P k) (hk : P.underlying k = some (.int .i64)) (h1 : w.ownsMap P k Rv b c D) (h2 : Maps.size D = c) (h3 : ∀ (i : Int) (z : DataW Value), D.atKey (.int .i64 i) z = Rd (f i) z) {ss : List Int} (hp : ss.Perm (intKeys D)) :
    ∃ S : List Int, S = ss.mergeSort (fun x y => decide (x ≤ y)) ∧ Rises S ∧ (∀ i, i ∈ S ↔ (f i).isSome = true) ∧ S.length = c ∧ S.length = ss.length := by
  have hh := fun i => MapAt.has (P := P) (k := k) (w := w) (b := b) (c := c) (f := f) h3 i
  obtain ⟨es, rfl, hpw, _⟩ := h1.entries K
  obtain ⟨es', e', hko⟩ := h1.keysOf
  obtain rfl : es = es' := by simpa using e'
  have hint : ∀ p ∈ es, ∃ x, p.1 = .int .i64 x := fun p hp => by
    obtain ⟨v, hv⟩ := hko p hp
    obtain ⟨x, _, e2, _⟩ := Maps.keyOf_int_inv hk hv
    exact ⟨x, e2⟩
  have hnd : (intKeys (DataW.map es)).Nodup := by
    refine List.pairwise_map.2 (hpw.imp_of_mem fun {p q} hp hq hne e => hne ?_)
    obtain ⟨x, hx⟩ := hint p hp
    obtain ⟨y, hy⟩ := hint q hq
    rw [hx, hy] at e ⊢
    exact congrArg _ e
  have hmem : ∀ i, i ∈ intKeys (DataW.map es) ↔ (f i).isSome = true := fun i => by
    rw [← hh i, Maps.has_eq, List.any_eq_true]
    show i ∈ es.map _ ↔ _
    rw [List.mem_map]
    constructor
    · rintro ⟨p, hp, e⟩
      obtain ⟨x, hx⟩ := hint p hp
      rw [hx] at e
      have e' : x = i := e
      exact ⟨p, hp, by rw [hx, e']; exact WideAt.sameKey_self (isKey_int i)⟩
    · rintro ⟨p, hp, hs⟩
      refine ⟨p, hp, ?_⟩
      rw [WideAt.sameKey_eq hs]
      rfl
  have hperm := (List.mergeSort_perm ss (fun x y => decide (x ≤ y))).trans hp
  refine ⟨_, rfl, ?_, fun i => by rw [hperm.mem_iff]; exact hmem i, ?_, (List.mergeSort_perm ss _).length_eq⟩
  · have hle : (ss.mergeSort (fun x y => decide (x ≤ y))).Pairwise (fun x y => decide (x ≤ y) = true) :=
      List.pairwise_mergeSort (fun a b c h1 h2 => by simp only [decide_eq_true_eq] at *; omega) (fun a b => by simp; omega) ss
    have hn2 : (ss.mergeSort (fun x y => decide (x ≤ y))).Nodup := hperm.nodup_iff.2 hnd
    exact (hle.and hn2).imp (fun {x y} h => by have := h.1; simp only [decide_eq_true_eq] at this; have := h.2; omega)
  · rw [hperm.length_eq]
    show (es.map _).length = c
    rw [List.length_map]
    exact h2
theorem keys_mem {P : Program} {k : TypeId} {w : World} {b c : Nat} {f : Int → Option Value} {D : DataW Value} (K : Keyed P k) (hk : P.underlying k = some (.int .i64)) (h1 : w.ownsMap P k Rv b c D) (h2 : Maps.size D = c) (h3 : ∀ (i : Int) (z : DataW Value), D.atKey (.int .i64 i) z = Rd (f i) z) {ss : List Int} (hp : ss.Perm (intKeys D)) :
    (∀ i, i ∈ ss ↔ (f i).isSome = true) ∧ ss.length = c := by
  obtain ⟨S, hS, h4, h5, h6, h7⟩ := sorted_keys K hk h1 h2 h3 hp
  refine ⟨fun i => ?_, by omega⟩
  rw [← h5 i, hS]
  exact (List.mergeSort_perm ss _).mem_iff.symm
end Go.Proofs.YthbcdpckckellaaDoor
