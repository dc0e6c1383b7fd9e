import Derived.Test.YtggfhcidmnageaaDoorPAuditB
/-! Audit, the plain law: rows that are alike, packet by packet. -/
namespace Go.Proofs.YtggfhcidmnageaaDoor
set_option linter.unusedVariables false
set_option linter.unusedSimpArgs false
namespace Pl
theorem Chn.same {S G : List Pk} (hl : S.length = G.length) (ha : ∀ (i : Nat) (x y : Pk), S[i]? = some x → G[i]? = some y → alikeP x y = true) : ∀ n, n ≤ G.length → Chn S G n (List.range n) n := by
  intro n
  induction n with
  | zero => intro _; exact .nil
  | succ n ih =>
    intro hn
    have h1 := ih (by omega)
    rw [List.range_succ]
    have hS : S[n]? = some S[n] := List.getElem?_eq_getElem (by omega)
    have hG : G[n]? = some G[n] := List.getElem?_eq_getElem (by omega)
    exact .snoc h1 hG ⟨Nat.le_refl _, ⟨_, hS, ha n _ _ hS hG⟩, fun j x h1 h2 => by omega⟩
theorem PlacesR.same {S G : List Pk} (hl : S.length = G.length) (hm : G.length ≤ 1000) (ha : ∀ (i : Nat) (x y : Pk), S[i]? = some x → G[i]? = some y → alikeP x y = true) : PlacesR S G (List.range G.length) 0 0 :=
  .inr ⟨⟨by omega, hm⟩, .inl ⟨_, Chn.same hl ha _ (Nat.le_refl _), rfl, rfl⟩⟩
theorem hol_range (n i : Nat) : ∀ x ∈ hol (List.range n) i, i ≤ n → x = 0 := by
  intro x hx hi
  unfold hol at hx
  obtain ⟨k, hk, rfl⟩ := List.mem_map.1 hx
  have hk := List.mem_range.1 hk
  rw [List.getD_eq_getElem?_getD, List.getD_eq_getElem?_getD, List.getElem?_range (by omega), List.getElem?_range (by omega)]
  simp
  omega
theorem RowR.row {G : List Pk} (hm : G.length ≤ 1000) (h0 : ∀ (i : Nat) (p : Pk), G[i]? = some p → pkFault p.s p.t p.l p.lv p.body.length = 0) (h1 : ∀ (i : Nat) (p q : Pk), 0 < i → G[i]? = some p → G[i - 1]? = some q → p.s = (q.s + 1) % 65536) : RowR G 0 0 := by
  refine .inr ⟨hm, .inl ⟨rfl, rfl, fun i hi => ?_⟩⟩
  have hG : G[i]? = some G[i] := List.getElem?_eq_getElem hi
  by_cases e : i = 0
  · subst e; exact rowF_zero hG (h0 _ _ hG)
  · have hG1 : G[i - 1]? = some G[i - 1] := List.getElem?_eq_getElem (by omega)
    exact rowF_ok (by omega) hG (h0 _ _ hG) hG1 (h1 i _ _ (by omega) hG hG1)
end Pl
end Go.Proofs.YtggfhcidmnageaaDoor
