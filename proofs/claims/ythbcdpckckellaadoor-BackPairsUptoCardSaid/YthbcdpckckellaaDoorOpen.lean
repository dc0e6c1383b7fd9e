import Derived.Test.YthbcdpckckellaaDoorRows
import Derived.Test.YthbcdpckckellaaDoorBulk
import Derived.Test.YthbcdpckckellaaDoorSlice
import Derived.WalkKit
import Derived.ProofKit
import Derived.OpenShut
/-! The arguments of a law, opened: what a slice that reads as data holds. -/
namespace Go.Proofs.YthbcdpckckellaaDoor
open Go.ChangeShapes Go.WideShapes Go.ChangeAt Go.RowKit
set_option maxRecDepth 100000
set_option linter.unusedVariables false
set_option linter.unusedSimpArgs false
namespace Op

theorem slice_ints {H : Type} {enc : TypeId × Value → H} {P : Program} {W : World} {base : Nat} {t e : TypeId} {k : IntKind} (ht : P.underlying t = some (.slice e)) (he : P.underlying e = some (.int k)) (hc : P.cellsOf e = 1)
    {v : Value} {d : DataW H} {p : List MemPlace} (hv : Value.okWide P W .any base t v) (h : DataW.Trod enc P W 0 (fun _ => true) true t v d p) :
    (v = .slice none 0 0 ∧ d = .nil) ∨ ∃ (a : Addr) (len cap : Nat) (zs : List Int), v = .slice (some a) len cap ∧ len ≤ cap ∧ cap ≤ maxLen ∧ zs.length = cap ∧
      d = .slice (lits k (zs.take len)) (lits k (zs.drop len)) ∧ (∀ i, i < zs.length → W.cell? (a.add i) = some (.int k (zs.getD i 0))) ∧ (∀ n ∈ zs, (Lit.int k n).wf = true) := by
  obtain ⟨a0, len0, cap0, rfl⟩ := okWide_slice ht hv
  obtain ⟨fuel, hf⟩ := h
  rcases open_ints ht he hc hf with ⟨hcs, hx⟩ | ⟨a, len, cap, zs, hcs, _, hl, hm, hz, hx, hcell, hwz⟩
  · left
    simp [Value.cells] at hcs
    simp at hx
    exact ⟨by simp [hcs], hx.1⟩
  · right
    simp [Value.cells] at hcs
    simp at hx
    obtain ⟨rfl, rfl, rfl⟩ := hcs
    exact ⟨a, len0, cap0, zs, rfl, hl, hm, by simpa using hz, hx.1, hcell, hwz⟩

theorem toSl {α : Type} {f : Int → α} {enc : α → Value} {W : World} {a : Addr} {len cap : Nat} {zs : List Int} {k : IntKind} (hl : len ≤ cap) (hm : cap ≤ maxLen) (hz : zs.length = cap)
    (hc : ∀ i, i < zs.length → W.cell? (a.add i) = some (.int k (zs.getD i 0))) (hf : ∀ n ∈ zs, enc (f n) = .int k n) : Sl enc W (.slice (some a) len cap) ((zs.take len).map f) := by
  have hlen : ((zs.take len).map f).length = len := by simp; omega
  by_cases h0 : len = 0
  · subst h0
    exact .inl ⟨by simp, some a, cap, rfl, hm, fun h => by cases h⟩
  · obtain ⟨b, off, rfl, hc2⟩ := ints_at hc (by omega)
    refine .inr ⟨b, off, cap, by rw [hlen], by omega, hm, fun i hi => ?_⟩
    have hi' : i < zs.length := by omega
    rw [hc2 i hi']
    have e : zs.getD i 0 = zs[i] := by simp [List.getD, hi']
    rw [e]
    simp
    exact (hf _ (List.getElem_mem hi')).symm

theorem cellsB : Tryd.prog.cellsOf 5 = 1 := by kernel_rfl
theorem bytes {H : Type} {enc : TypeId × Value → H} {W : World} {base : Nat} {v : Value} {d : DataW H} {p : List MemPlace} (hv : Value.okWide Tryd.prog W .any base 26 v)
   (h : DataW.Trod enc Tryd.prog W 0 (fun _ => true) true 26 v d p) : ∃ l, IsBytes W v l ∧ l.length + 1 ≤ Rows.uptoBulk d := by
 rcases slice_ints Tryd.underlying26 Tryd.underlying5 cellsB hv h with ⟨rfl, rfl⟩ | ⟨a, len, cap, zs, rfl, hl, hm, hz, rfl, hc, hw⟩
 · exact ⟨[], Sl.nil _, by simp [Rows.uptoBulk]⟩
 · refine ⟨(zs.take len).map (fun n => UInt8.ofNat n.toNat), toSl hl hm hz hc (fun n hn => ?_), ?_⟩
   · have hb : 0 ≤ n ∧ n ≤ 255 := by simpa [Lit.wf, IntKind.min, IntKind.max, IntKind.signed, IntKind.bits] using hw n hn
     simp [encB]
     omega
   · have h1 := bulks.slice_le (H := H) (lits .u8 (zs.take len)) (lits .u8 (zs.drop len))
     have h2 : (lits (H := H) .u8 (zs.take len)).length = (zs.take len).length := by simp [lits]
     simp only [List.length_map]
     omega

theorem cellsI : Tryd.prog.cellsOf 3 = 1 := by kernel_rfl
theorem ints {H : Type} {enc : TypeId × Value → H} {W : World} {base : Nat} {v : Value} {d : DataW H} {p : List MemPlace} (hv : Value.okWide Tryd.prog W .any base 22 v)
   (h : DataW.Trod enc Tryd.prog W 0 (fun _ => true) true 22 v d p) : ∃ l, IsInts W v l ∧ l.length + 1 ≤ Rows.uptoBulk d := by
 rcases slice_ints Tryd.underlying22 Tryd.underlying3 cellsI hv h with ⟨rfl, rfl⟩ | ⟨a, len, cap, zs, rfl, hl, hm, hz, rfl, hc, hw⟩
 · exact ⟨[], ⟨Sl.nil _, by simp⟩, by simp [Rows.uptoBulk]⟩
 · refine ⟨(zs.take len).map id, ⟨toSl hl hm hz hc (fun n hn => rfl), fun n hn => ?_⟩, ?_⟩
   · rw [List.map_id] at hn
     exact wf_i64 (hw n (List.mem_of_mem_take hn))
   · have h1 := bulks.slice_le (H := H) (lits .i64 (zs.take len)) (lits .i64 (zs.drop len))
     have h2 : (lits (H := H) .i64 (zs.take len)).length = (zs.take len).length := by simp [lits]
     simp only [List.length_map]
     omega
end Op
end Go.Proofs.YthbcdpckckellaaDoor
