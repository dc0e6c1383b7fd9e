import Derived.Test.YtggfhcidmnageaaDoorSplitI
import Derived.Test.YtggfhcidmnageaaDoorPk
/-! A row of packets that a call has made reads as packets. -/
namespace Go.Proofs.YtggfhcidmnageaaDoor
open Go.RowKit
set_option linter.unusedVariables false
set_option linter.unusedSimpArgs false
/-- packets of the call's own, each with what its Body reads as -/
def pbK : RecK (PkR × List UInt8) := ⟨30, 29, 6, 64, fun x => PkR.cells x.1⟩
theorem pbK_ok : pbK.Ok := ⟨pktK_ok.und, pktK_ok.info, pktK_ok.pos, fun x => pktK_ok.len x.1, fun x => pktK_ok.one x.1, pktK_ok.small⟩
def pbP (x : PkR × List UInt8) : Pk := ⟨x.1.s, x.1.t, x.1.l, x.1.lv, x.1.st, .slice x.1.oa x.1.bn x.1.bc, x.2⟩
theorem pbK_pks {w : World} {M : Nat} {v : Value} {L : List (PkR × List UInt8)} (h : pbK.Own w M v L) (hg : ∀ x ∈ L, (pbP x).Good w) : IsPks w v (L.map pbP) := by
  refine ⟨?_, fun p hp => by obtain ⟨x, hx, rfl⟩ := List.mem_map.1 hp; exact hg x hx⟩
  have h' := h
  rcases h.2 with ⟨rfl, h0⟩ | ⟨g, cap, cur, rfl, hb, hgg, hc, hm, hs, ht⟩
  · have : L = [] := by simpa using h0
    subst this
    exact .inl ⟨rfl, none, 0, rfl, by simp, fun _ => rfl⟩
  · obtain ⟨oa, cap', e, rd⟩ := RecK.Own.read pbK_ok h'
    cases e
    by_cases hL : L.length = 0
    · have : L = [] := List.length_eq_zero_iff.1 hL
      subst this
      exact .inl ⟨rfl, _, cap, rfl, hm, fun e => by cases e⟩
    · refine .inr ⟨g, 0, cap, by simp, by simpa using hc, hm, fun i hi j u hu => ?_⟩
      have hi' : i < L.length := by simpa using hi
      obtain ⟨g', e, -, -, r⟩ := rd i L[i] (List.getElem?_eq_getElem hi')
      cases e
      have := r j u (by
        have e : (L.map pbP)[i] = pbP L[i] := by simp
        rw [e] at hu
        exact hu)
      rw [Nat.zero_add]
      exact this
end Go.Proofs.YtggfhcidmnageaaDoor
