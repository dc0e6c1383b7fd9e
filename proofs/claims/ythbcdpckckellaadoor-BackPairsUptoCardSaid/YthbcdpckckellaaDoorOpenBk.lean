import Derived.Test.YthbcdpckckellaaDoorOpen
import Derived.Test.YthbcdpckckellaaDoorSlice
/-! An argument that is said back, opened. -/
namespace Go.Proofs.YthbcdpckckellaaDoor
open Go.ChangeShapes Go.WideShapes Go.ChangeAt Go.RowKit
set_option maxRecDepth 100000
set_option linter.unusedVariables false
set_option linter.unusedSimpArgs false
/-- what is said back -/
structure Bk where
  k : Int
  t : Int
  lv : Value
  A : List Int
  v : Int
namespace Bk
def cells (p : Bk) : List Value := [.int .i64 p.k, .int .i64 p.t, p.lv, .int .i64 p.v]
def val (p : Bk) : Value := .agg #[.int .i64 p.k, .int .i64 p.t, p.lv, .int .i64 p.v]
def Good (w : World) (p : Bk) : Prop := (-9223372036854775808 ≤ p.k ∧ p.k ≤ 9223372036854775807) ∧ (-9223372036854775808 ≤ p.t ∧ p.t ≤ 9223372036854775807) ∧ IsInts w p.lv p.A ∧ (-9223372036854775808 ≤ p.v ∧ p.v ≤ 9223372036854775807)
end Bk
namespace Op
theorem cellsBk : Tryd.prog.cellsOf 25 = 4 := by kernel_rfl
theorem cellsBkI : Tryd.prog.cellsOf 3 = 1 := by kernel_rfl
theorem cellsBkL : Tryd.prog.cellsOf 22 = 1 := by kernel_rfl
theorem list4 {α : Type} {l : List α} (h : l.length = 4) : ∃ a b c d, l = [a, b, c, d] := by
  match l, h with
  | [a, b, c, d], _ => exact ⟨a, b, c, d, rfl⟩
theorem ints_trod {H : Type} {enc : TypeId × Value → H} {W : World} {fuel : Nat} {v : Value} {x : DataW H × List MemPlace}
    (h : DataW.trod enc Tryd.prog W 0 (fun _ => true) true fuel 22 [v] = some x) : ∃ l, IsInts W v l ∧ l.length + 1 ≤ Rows.uptoBulk x.1 := by
  rcases open_ints Tryd.underlying22 Tryd.underlying3 cellsBkI h with ⟨hcs, rfl⟩ | ⟨a, len, cap, zs, hcs, _, hl, hm, hz, rfl, hc, hw⟩
  · simp at hcs; subst hcs
    exact ⟨[], ⟨Sl.nil _, by simp⟩, by simp [Rows.uptoBulk]⟩
  · simp at hcs; subst hcs
    refine ⟨(zs.take len).map id, ⟨toSl hl hm (by simpa using hz) hc (fun n hn => rfl), fun n hn => ?_⟩, ?_⟩
    · rw [List.map_id] at hn
      exact wf_i64 (hw n (List.mem_of_mem_take hn))
    · have h1 := bulks.slice_le (H := H) (lits .i64 (zs.take len)) (lits .i64 (zs.drop len))
      have h2 : (lits (H := H) .i64 (zs.take len)).length = (zs.take len).length := by simp [lits]
      simp only [List.length_map]
      omega
theorem bk_trod {H : Type} {enc : TypeId × Value → H} {W : World} {fuel : Nat} {cs : List Value} {x : DataW H × List MemPlace}
    (h : DataW.trod enc Tryd.prog W 0 (fun _ => true) true fuel 25 cs = some x) : ∃ p : Bk, cs = p.cells ∧ p.Good W ∧ p.A.length + 5 ≤ Rows.uptoBulk x.1 := by
  obtain ⟨xs, n, _, rfl, hlen, hxl, hf⟩ := DataW.trod_struct Tryd.underlying25 h
  rw [cellsBk] at hlen
  obtain ⟨c0, c1, c2, c3, rfl⟩ := list4 hlen
  obtain ⟨y0, y1, y2, y3, rfl⟩ := list4 hxl
  have h0 := hf 0 _ rfl
  have h1 := hf 1 _ rfl
  have h2 := hf 2 _ rfl
  have h3 := hf 3 _ rfl
  simp [cellsBkI, cellsBkL] at h0 h1 h2 h3
  obtain ⟨n0, e0, z0, w0⟩ := DataW.trod_int Tryd.underlying3 h0
  obtain ⟨n1, e1, z1, w1⟩ := DataW.trod_int Tryd.underlying3 h1
  obtain ⟨l, hb, hl⟩ := ints_trod h2
  obtain ⟨n3, e3, z3, w3⟩ := DataW.trod_int Tryd.underlying3 h3
  simp at e0 e1 e3
  subst e0 e1 e3
  refine ⟨⟨n0, n1, c2, l, n3⟩, rfl, ⟨wf_i64 w0, wf_i64 w1, hb, wf_i64 w3⟩, ?_⟩
  simp only [z0, z1, z3, List.map_cons, List.map_nil, Rows.uptoBulk, Rows.uptoBulkAll]
  omega
theorem bk1 {H : Type} {enc : TypeId × Value → H} {W : World} {base : Nat} {v : Value} {d : DataW H} {p : List MemPlace} (hv : Value.okWide Tryd.prog W .any base 25 v)
    (h : DataW.Trod enc Tryd.prog W 0 (fun _ => true) true 25 v d p) : ∃ l : Bk, (v = l.val ∧ l.Good W) ∧ l.A.length + 5 ≤ Rows.uptoBulk d := by
  obtain ⟨cs, rfl, _⟩ := okWide_struct Tryd.underlying25 hv
  obtain ⟨fuel, hf⟩ := h
  obtain ⟨q, e, g, hb⟩ := bk_trod hf
  refine ⟨q, ⟨?_, g⟩, hb⟩
  have e2 : cs.toList = q.cells := e
  have e3 : cs = q.cells.toArray := by rw [← e2]
  rw [e3]; rfl
end Op
end Go.Proofs.YthbcdpckckellaaDoor
