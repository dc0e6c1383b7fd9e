import Derived.Test.YtmmfnalcdekkbaaDoorSlN
import Derived.Test.YtmmfnalcdekkbaaDoorPTree
/-! Arguments that are slices of edges, opened. -/
namespace Go.Proofs.YtmmfnalcdekkbaaDoor
open Go.ChangeShapes Go.WideShapes Go.ChangeAt Go.RowKit
set_option maxRecDepth 100000
set_option linter.unusedVariables false
set_option linter.unusedSimpArgs false
def Ed.cells (x : Ed) : List Value := [.int .i64 x.a, .int .i64 x.b, .int .i64 x.c]
/-- one as a value -/
abbrev edV (a b c : Int) : Value := .agg #[.int .i64 a, .int .i64 b, .int .i64 c]
/-- its numbers are ints -/
def Ed.Good (x : Ed) : Prop := (-9223372036854775808 ≤ x.a ∧ x.a ≤ 9223372036854775807) ∧ (-9223372036854775808 ≤ x.b ∧ x.b ≤ 9223372036854775807) ∧ (-9223372036854775808 ≤ x.c ∧ x.c ≤ 9223372036854775807)
abbrev IsEds (w : World) (v : Value) (l : List Ed) : Prop := SlN 3 Ed.cells w v l ∧ ∀ x ∈ l, x.Good
namespace Op
theorem cellsEd : Tryd.prog.cellsOf 38 = 3 := by kernel_rfl
theorem cellsIntE : Tryd.prog.cellsOf 3 = 1 := by kernel_rfl
theorem ed_read {H : Type} {enc : TypeId × Value → H} {W : World} {fuel : Nat} {cs : List Value} {x : DataW H × List MemPlace}
    (h : DataW.trod enc Tryd.prog W 0 (fun _ => true) true fuel 38 cs = some x) : ∃ p : Ed, cs = p.cells ∧ p.Good := by
  obtain ⟨xs, n, _, rfl, hlen, hxl, hf⟩ := DataW.trod_struct Tryd.underlying38 h
  rw [cellsEd] at hlen
  obtain ⟨c0, c1, c2, rfl⟩ := list3 hlen
  obtain ⟨y0, y1, y2, rfl⟩ := list3 hxl
  have h0 := hf 0 _ rfl
  have h1 := hf 1 _ rfl
  have h2 := hf 2 _ rfl
  simp [cellsIntE] at h0 h1 h2
  obtain ⟨n0, e0, z0, w0⟩ := DataW.trod_int Tryd.underlying3 h0
  obtain ⟨n1, e1, z1, w1⟩ := DataW.trod_int Tryd.underlying3 h1
  obtain ⟨n2, e2, z2, w2⟩ := DataW.trod_int Tryd.underlying3 h2
  simp at e0 e1 e2
  subst e0 e1 e2
  exact ⟨⟨n0, n1, n2⟩, rfl, wf_i64 w0, wf_i64 w1, wf_i64 w2⟩
theorem eds {H : Type} {enc : TypeId × Value → H} {W : World} {base : Nat} {v : Value} {d : DataW H} {p : List MemPlace} (hv : Value.okWide Tryd.prog W .any base 22 v)
    (h : DataW.Trod enc Tryd.prog W 0 (fun _ => true) true 22 v d p) : ∃ l, IsEds W v l ∧ l.length + 1 ≤ Rows.uptoBulk d := by
  obtain ⟨l, h1, h2, h3⟩ := slice_read (cellsOf := Ed.cells) (Good := fun p : Ed => p.Good) Tryd.underlying22 cellsEd (by omega) (fun fuel cs x hx => ed_read hx) (fun a => by simp [Ed.cells]) hv h
  exact ⟨l, ⟨h1, h2⟩, h3⟩
end Op
theorem IsEds.below {w w' : World} {v : Value} {l : List Ed} (h : IsEds w v l) (k : Below w.heap.size w w') : IsEds w' v l := ⟨h.1.below k, h.2⟩
/-- its value, and its cells -/
theorem eds_read {w : World} {v : Value} {l : List Ed} (h : IsEds w v l) : ∃ (oa : Option Addr) (c : Nat), v = .slice oa l.length c ∧ l.length ≤ c ∧ c ≤ maxLen ∧ ∀ k (hk : k < l.length), ∃ b f, oa = some ⟨b, f, none⟩ ∧ b < w.heap.size ∧ w.cell? ⟨b, f + k * 3, none⟩ = some (.int .i64 l[k].a) ∧ w.cell? ⟨b, f + k * 3 + 1, none⟩ = some (.int .i64 l[k].b) ∧ w.cell? ⟨b, f + k * 3 + 2, none⟩ = some (.int .i64 l[k].c) ∧ l[k].Good := by
  obtain ⟨h1, h2⟩ := h
  rcases h1 with ⟨rfl, oa, cap, rfl, r1, _⟩ | ⟨b2, f2, c2, rfl, r1, r2, r3⟩
  · exact ⟨oa, cap, rfl, by simp, r1, fun k hk => by simp at hk⟩
  · refine ⟨_, c2, rfl, r1, r2, fun k hk => ?_⟩
    have q0 := r3 k hk 0 _ rfl
    have q1 := r3 k hk 1 _ rfl
    have q2 := r3 k hk 2 _ rfl
    exact ⟨b2, f2, rfl, Sl.lt q0, q0, q1, q2, h2 _ (List.getElem_mem hk)⟩
/-- the first ones of them -/
theorem IsEds.take {w : World} {oa : Option Addr} {n c : Nat} {l : List Ed} (h : IsEds w (.slice oa n c) l) (k : Nat) (hk : k ≤ l.length) : IsEds w (.slice oa k c) (l.take k) := by
  obtain ⟨h1, h2⟩ := h
  refine ⟨?_, fun x hx => h2 x (List.mem_of_mem_take hx)⟩
  have hlen : (l.take k).length = k := by simp; omega
  rcases h1 with ⟨rfl, oa', cap, e, r1, r4⟩ | ⟨b2, f2, c2, e, r1, r2, r3⟩
  · cases e
    have : k = 0 := by simpa using hk
    subst this
    exact .inl ⟨rfl, oa, c, rfl, r1, r4⟩
  · cases e
    refine .inr ⟨b2, f2, c, by rw [hlen], by omega, r2, fun i hi j u hu => ?_⟩
    rw [hlen] at hi
    exact r3 i (by omega) j u (by simpa using hu)
end Go.Proofs.YtmmfnalcdekkbaaDoor
