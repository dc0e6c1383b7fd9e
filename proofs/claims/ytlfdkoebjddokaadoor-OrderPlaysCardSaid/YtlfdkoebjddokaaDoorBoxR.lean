import Derived.Test.YtlfdkoebjddokaaDoorPk
import Derived.Test.YtlfdkoebjddokaaDoorPkIn
/-! Packets of a law's own. -/
namespace Go.Proofs.YtlfdkoebjddokaaDoor
open Go.RowKit
set_option linter.unusedVariables false
set_option linter.unusedSimpArgs false
/-- a packet of the law's own, whose bytes were there ahead -/
def BoxR (M : Nat) (w0 y : World) (X : Nat) : Prop := ∃ (s t l lv : Int) (st : Bool) (oa : Option Addr) (bc : Nat) (body : List UInt8), PkIn y X s t l lv st (.slice oa body.length bc) ∧ body.length ≤ maxLen ∧ IsBytes w0 (.slice oa body.length bc) body ∧ (∀ a, oa = some a → body ≠ [] → a.block < M)
theorem pkIn_cells {y : World} {X : Nat} {s t l lv : Int} {st : Bool} {bv : Value} (h : PkIn y X s t l lv st bv) : y.cell? ⟨X, 0, none⟩ = some (.int .i64 s) ∧ y.cell? ⟨X, 1, none⟩ = some (.int .i64 t) ∧ y.cell? ⟨X, 2, none⟩ = some (.int .i64 l) ∧ y.cell? ⟨X, 3, none⟩ = some (.int .i64 lv) ∧ y.cell? ⟨X, 4, none⟩ = some (.bool st) ∧ y.cell? ⟨X, 5, none⟩ = some bv :=
  ⟨obj_cell h rfl, obj_cell h rfl, obj_cell h rfl, obj_cell h rfl, obj_cell h rfl, obj_cell h rfl⟩
theorem pks_read {w : World} {v : Value} {l : List Pk} (h : IsPks w v l) : ∃ (oa : Option Addr) (c : Nat), v = .slice oa l.length c ∧ l.length ≤ maxLen ∧ ∀ k, k < l.length → ∃ b f s t ll lv st oa' bc body, oa = some ⟨b, f, none⟩ ∧ b < w.heap.size ∧ (∀ (j : Nat) (u : Value), (Pk.cells ⟨s, t, ll, lv, st, .slice oa' (body : List UInt8).length bc, body⟩)[j]? = some u → w.cell? ⟨b, f + (k * 6 + j), none⟩ = some u) ∧ body.length ≤ maxLen ∧ IsBytes w (.slice oa' body.length bc) body ∧ (∀ a, oa' = some a → body ≠ [] → a.block < w.heap.size) := by
  obtain ⟨h1, h2⟩ := h
  have hl := h1.len
  rcases h1 with ⟨rfl, oa, cap, rfl, r1, _⟩ | ⟨b2, f2, c2, rfl, r1, r2, r3⟩
  · exact ⟨oa, cap, rfl, hl, fun k hk => by simp at hk⟩
  · refine ⟨_, c2, rfl, hl, fun k hk => ?_⟩
    obtain ⟨_, _, _, _, hb⟩ := h2 _ (List.getElem_mem hk)
    obtain ⟨oa', bc, e, hm⟩ := bytes_slice hb
    have r := r3 k hk
    generalize l[k] = p at *
    obtain ⟨s, t, ll, lv, st, bv, body⟩ := p
    dsimp only at e hb hm r
    subst e
    refine ⟨b2, f2, s, t, ll, lv, st, oa', bc, body, rfl, Sl.lt (r 0 _ rfl), fun j u hu => r j u hu, hm, hb, fun a ha hne => ?_⟩
    rcases hb with ⟨e, _⟩ | ⟨b, off, cap, e, q1, q2, q3⟩
    · exact absurd e hne
    · cases e; cases ha
      exact Sl.lt (q3 0 (List.length_pos_iff.2 hne))
end Go.Proofs.YtlfdkoebjddokaaDoor
