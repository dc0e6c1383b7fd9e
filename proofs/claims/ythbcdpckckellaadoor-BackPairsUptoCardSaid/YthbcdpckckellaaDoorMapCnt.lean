import Derived.Test.YthbcdpckckellaaDoorMapI
import Derived.Sort.KeysCollected
import Derived.Maps.RangeWalk
/-! How many there are in a map keyed by int. Of whatever program. -/
namespace Go.Proofs.YthbcdpckckellaaDoor
open Go.RowKit Go.ChangeShapes Go.WideShapes
open Go.Maps (Keyed)
set_option linter.unusedVariables false
set_option linter.unusedSimpArgs false
/-- the map's keys, as the datum has them -/
theorem MapAt.keys {P : Program} {k : TypeId} {w : World} {b c : Nat} {f : Int → Option Value} (h : MapAt P k w b c f) (K : Keyed P k) (hk : P.underlying k = some (.int .i64)) :
    ∃ ks : List Int, ks.Nodup ∧ ks.length = c ∧ ∀ i, (f i).isSome = true ↔ i ∈ ks := by
  have h0 := h
  obtain ⟨D, h1, h2, h3⟩ := h
  have hh := fun i => MapAt.has (P := P) (k := k) (w := w) (b := b) (c := c) (f := f) h3 i
  obtain ⟨es, rfl, hpw, _⟩ := h1.entries K
  obtain ⟨es', e', hko⟩ := h1.keysOf
  obtain rfl : es = es' := by simpa using e'
  have hint : ∀ p ∈ es, ∃ x, p.1 = .int .i64 x := fun p hp => by
    obtain ⟨v, hv⟩ := hko p hp
    obtain ⟨x, _, e2, _⟩ := Maps.keyOf_int_inv hk hv
    exact ⟨x, e2⟩
  have hmem : ∀ i, (f i).isSome = true ↔ Lit.int .i64 i ∈ es.map (·.1) := fun i => by
    rw [← hh i, Maps.has_eq, List.any_eq_true, List.mem_map]
    constructor
    · rintro ⟨p, hp, hs⟩
      exact ⟨p, hp, WideAt.sameKey_eq hs⟩
    · rintro ⟨p, hp, e⟩
      exact ⟨p, hp, by rw [e]; exact WideAt.sameKey_self (isKey_int i)⟩
  refine ⟨es.map (fun p => match p.1 with | .int _ x => x | _ => 0), ?_, by simpa [Maps.size] using h2, fun i => ?_⟩
  · refine List.pairwise_map.2 (hpw.imp_of_mem fun {p q} hp hq hne e => hne ?_)
    obtain ⟨x, hx⟩ := hint p hp
    obtain ⟨y, hy⟩ := hint q hq
    rw [hx, hy] at e ⊢
    exact congrArg _ e
  · rw [hmem i, List.mem_map, List.mem_map]
    constructor
    · rintro ⟨p, hp, e⟩
      exact ⟨p, hp, by rw [e]⟩
    · rintro ⟨p, hp, e⟩
      obtain ⟨x, hx⟩ := hint p hp
      refine ⟨p, hp, ?_⟩
      rw [hx] at e ⊢
      exact congrArg _ e
/-- .. and as any list of them has it -/
theorem MapAt.count {P : Program} {k : TypeId} {w : World} {b c : Nat} {f : Int → Option Value} (h : MapAt P k w b c f) (K : Keyed P k) (hk : P.underlying k = some (.int .i64)) (ks : List Int) (hn : ks.Nodup) (hm : ∀ i, (f i).isSome = true ↔ i ∈ ks) : c = ks.length := by
  obtain ⟨ks', h1, h2, h3⟩ := h.keys K hk
  rw [← h2]
  exact ((List.perm_ext_iff_of_nodup h1 hn).2 fun i => by rw [← h3 i, hm i]).length_eq
end Go.Proofs.YthbcdpckckellaaDoor
