import Derived.Test.YticihmkgdabgiaaDoorOpenPk
/-! Arguments that are a packet, a frame. -/
namespace Go.Proofs.YticihmkgdabgiaaDoor
open Go.ChangeShapes Go.WideShapes Go.ChangeAt Go.RowKit
set_option maxRecDepth 100000
set_option linter.unusedVariables false
set_option linter.unusedSimpArgs false
/-- a frame -/
structure Fr where
  t : Int
  o : Int
  ep : Int
  h : Int
  bv : Value
  body : List UInt8
namespace Fr
def cells (p : Fr) : List Value := [.int .i64 p.t, .int .i64 p.o, .int .i64 p.ep, .int .i64 p.h, p.bv]
def val (p : Fr) : Value := .agg #[.int .i64 p.t, .int .i64 p.o, .int .i64 p.ep, .int .i64 p.h, p.bv]
def Good (w : World) (p : Fr) : Prop := (-9223372036854775808 ≤ p.t ∧ p.t ≤ 9223372036854775807) ∧ (-9223372036854775808 ≤ p.o ∧ p.o ≤ 9223372036854775807) ∧ (-9223372036854775808 ≤ p.ep ∧ p.ep ≤ 9223372036854775807) ∧
  (-9223372036854775808 ≤ p.h ∧ p.h ≤ 9223372036854775807) ∧ IsBytes w p.bv p.body
end Fr
namespace Op
theorem pk1 {H : Type} {enc : TypeId × Value → H} {W : World} {base : Nat} {v : Value} {d : DataW H} {p : List MemPlace} (hv : Value.okWide Tryd.prog W .any base 30 v)
    (h : DataW.Trod enc Tryd.prog W 0 (fun _ => true) true 30 v d p) : ∃ l : Pk, (v = l.val ∧ l.Good W) ∧ l.body.length + 7 ≤ Rows.uptoBulk d := by
  obtain ⟨cs, rfl, _⟩ := okWide_struct Tryd.underlying30 hv
  obtain ⟨fuel, hf⟩ := h
  obtain ⟨q, e, g, hb⟩ := pk_read hf
  refine ⟨q, ⟨?_, g⟩, hb⟩
  have e2 : cs.toList = q.cells := e
  have e3 : cs = q.cells.toArray := by rw [← e2]
  rw [e3]; rfl
theorem cellsFr : Tryd.prog.cellsOf 24 = 5 := by kernel_rfl
theorem list5 {α : Type} {l : List α} (h : l.length = 5) : ∃ a b c d e, l = [a, b, c, d, e] := by
  match l, h with
  | [a, b, c, d, e], _ => exact ⟨a, b, c, d, e, rfl⟩
theorem fr_read {H : Type} {enc : TypeId × Value → H} {W : World} {fuel : Nat} {cs : List Value} {x : DataW H × List MemPlace}
    (h : DataW.trod enc Tryd.prog W 0 (fun _ => true) true fuel 24 cs = some x) : ∃ p : Fr, cs = p.cells ∧ p.Good W ∧ p.body.length + 6 ≤ Rows.uptoBulk x.1 := by
  obtain ⟨xs, n, _, rfl, hlen, hxl, hf⟩ := DataW.trod_struct Tryd.underlying24 h
  rw [cellsFr] at hlen
  obtain ⟨c0, c1, c2, c3, c4, rfl⟩ := list5 hlen
  obtain ⟨y0, y1, y2, y3, y4, rfl⟩ := list5 hxl
  have h0 := hf 0 _ rfl
  have h1 := hf 1 _ rfl
  have h2 := hf 2 _ rfl
  have h3 := hf 3 _ rfl
  have h4 := hf 4 _ rfl
  simp [cellsInt, cellsBs] at h0 h1 h2 h3 h4
  obtain ⟨n0, e0, z0, w0⟩ := DataW.trod_int Tryd.underlying3 h0
  obtain ⟨n1, e1, z1, w1⟩ := DataW.trod_int Tryd.underlying3 h1
  obtain ⟨n2, e2, z2, w2⟩ := DataW.trod_int Tryd.underlying3 h2
  obtain ⟨n3, e3, z3, w3⟩ := DataW.trod_int Tryd.underlying3 h3
  obtain ⟨l, hb, hl⟩ := bytes_read h4
  simp at e0 e1 e2 e3
  subst e0 e1 e2 e3
  refine ⟨⟨n0, n1, n2, n3, c4, l⟩, rfl, ⟨wf_i64 w0, wf_i64 w1, wf_i64 w2, wf_i64 w3, hb⟩, ?_⟩
  simp only [z0, z1, z2, z3, List.map_cons, List.map_nil, Rows.uptoBulk, Rows.uptoBulkAll]
  omega
theorem fr1 {H : Type} {enc : TypeId × Value → H} {W : World} {base : Nat} {v : Value} {d : DataW H} {p : List MemPlace} (hv : Value.okWide Tryd.prog W .any base 24 v)
    (h : DataW.Trod enc Tryd.prog W 0 (fun _ => true) true 24 v d p) : ∃ l : Fr, (v = l.val ∧ l.Good W) ∧ l.body.length + 6 ≤ Rows.uptoBulk d := by
  obtain ⟨cs, rfl, _⟩ := okWide_struct Tryd.underlying24 hv
  obtain ⟨fuel, hf⟩ := h
  obtain ⟨q, e, g, hb⟩ := fr_read hf
  refine ⟨q, ⟨?_, g⟩, hb⟩
  have e2 : cs.toList = q.cells := e
  have e3 : cs = q.cells.toArray := by rw [← e2]
  rw [e3]; rfl
end Op
end Go.Proofs.YticihmkgdabgiaaDoor
