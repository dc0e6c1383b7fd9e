import Derived.Test.YtggfhcidmnageaaDoorSlice
import Derived.Test.YtggfhcidmnageaaDoorPk
/-! Bytes that are kept. -/
namespace Go.Proofs.YtggfhcidmnageaaDoor
open Go.RowKit
set_option linter.unusedVariables false
set_option linter.unusedSimpArgs false
/-- bytes that outlive whatever becomes of the blocks below p0 lie above -/
theorem bytes_fix {p0 : Nat} {w : World} {oa : Option Addr} {n c : Nat} {l : List UInt8} (H : ∀ W, Keeps (fun k => k < p0) w W → IsBytes W (.slice oa n c) l) : IsBytes w (.slice oa n c) l ∧ ∀ a, oa = some a → l ≠ [] → p0 ≤ a.block ∧ a.block < w.heap.size := by
  have h0 := H w (Keeps.refl _ _)
  refine ⟨h0, fun a ha hl => ?_⟩
  rcases h0 with ⟨e, _⟩ | ⟨b, off, cap, e, h1, h2, h3⟩
  · exact absurd e hl
  · cases e
    cases ha
    have hp : 0 < l.length := List.length_pos_iff.2 hl
    have hc := h3 0 hp
    refine ⟨?_, Sl.lt hc⟩
    rcases Nat.lt_or_ge b p0 with hlt | hge
    · exfalso
      have k : Keeps (fun k => k < p0) w (w.setCell ⟨b, off, none⟩ .nilIface) := by
        have k0 := KeepsBut.set (KeepsBut.refl b w) off .nilIface
        exact ⟨k0.os, k0.tape, k0.output, k0.size, fun j hj hn => k0.block j hj (fun e => hn (by omega))⟩
      rcases H _ k with ⟨e, _⟩ | ⟨b', off', cap', e, _, _, h3'⟩
      · exact hl e
      · cases e
        have q : (w.setCell ⟨b, off, none⟩ .nilIface).cell? ⟨b, off, none⟩ = some (encB l[0]) := h3' 0 hp
        have hc0 : w.cell? ⟨b, off, none⟩ = some (encB l[0]) := hc
        have same : (w.setCell ⟨b, off, none⟩ .nilIface).cell? ⟨b, off, none⟩ = some .nilIface := World.cell?_setCell_same' _ _ _ (by rw [hc0]; rfl)
        rw [same] at q
        cases q
    · exact hge
/-- what a byte block keeps reads as it did -/
theorem bytes_keep {y z : World} {oa : Option Addr} {n c : Nat} {l : List UInt8} {P : Nat → Prop} (h : IsBytes y (.slice oa n c) l) (hP : ∀ a, oa = some a → l ≠ [] → P a.block) (k : ∀ j, P j → z.heap[j]? = y.heap[j]?) : IsBytes z (.slice oa n c) l := by
  rcases h with h | ⟨b, off, cap, e, h1, h2, h3⟩
  · exact .inl h
  · refine .inr ⟨b, off, cap, e, h1, h2, fun i hi => ?_⟩
    cases e
    have hl : l ≠ [] := fun e => by rw [e] at hi; simp at hi
    rw [World.cell?_of_block (w := y) (w' := z) (a := ⟨b, off + i, none⟩) (k b (hP _ rfl hl))]
    exact h3 i hi
end Go.Proofs.YtggfhcidmnageaaDoor
