import Derived.Test.YtnbcajciobfljaaDoorSlN
import Derived.Test.YtnbcajciobfljaaDoorRecs
import Derived.Test.YtnbcajciobfljaaDoorPView
/-! Arguments that are views, opened; rows of members that the call has made. -/
namespace Go.Proofs.YtnbcajciobfljaaDoor
open Go.ChangeShapes Go.WideShapes Go.ChangeAt Go.RowKit
set_option maxRecDepth 100000
set_option linter.unusedVariables false
set_option linter.unusedSimpArgs false
def Mb.cells (x : Mb) : List Value := [.int .i64 x.n, .int .i64 x.v, .bool x.up]
/-- one as a value -/
abbrev mbV (n v : Int) (u : Bool) : Value := .agg #[.int .i64 n, .int .i64 v, .bool u]
/-- its numbers are ints -/
def Mb.Num (x : Mb) : Prop := (-9223372036854775808 ≤ x.n ∧ x.n ≤ 9223372036854775807) ∧ (-9223372036854775808 ≤ x.v ∧ x.v ≤ 9223372036854775807)
theorem Pl.mbOk_num {x : Mb} (h : Pl.mbOk x = true) : x.Num := by
  have := (Pl.mbOk_iff x).1 h
  exact ⟨⟨by omega, by omega⟩, by omega, by omega⟩
abbrev IsMs (w : World) (v : Value) (l : List Mb) : Prop := SlN 3 Mb.cells w v l ∧ ∀ x ∈ l, x.Num
namespace Op
theorem cellsMb : Tryd.prog.cellsOf 30 = 3 := by kernel_rfl
theorem cellsIntM : Tryd.prog.cellsOf 3 = 1 := by kernel_rfl
theorem cellsBoolM : Tryd.prog.cellsOf 4 = 1 := by kernel_rfl
theorem mb_read {H : Type} {enc : TypeId × Value → H} {W : World} {fuel : Nat} {cs : List Value} {x : DataW H × List MemPlace}
    (h : DataW.trod enc Tryd.prog W 0 (fun _ => true) true fuel 30 cs = some x) : ∃ p : Mb, cs = p.cells ∧ p.Num := by
  obtain ⟨xs, n, _, rfl, hlen, hxl, hf⟩ := DataW.trod_struct Tryd.underlying30 h
  rw [cellsMb] at hlen
  obtain ⟨c0, c1, c2, rfl⟩ := list3 hlen
  obtain ⟨y0, y1, y2, rfl⟩ := list3 hxl
  have h0 := hf 0 _ rfl
  have h1 := hf 1 _ rfl
  have h2 := hf 2 _ rfl
  simp [cellsIntM, cellsBoolM] at h0 h1 h2
  obtain ⟨n0, e0, z0, w0⟩ := DataW.trod_int Tryd.underlying3 h0
  obtain ⟨n1, e1, z1, w1⟩ := DataW.trod_int Tryd.underlying3 h1
  obtain ⟨n2, e2, z2⟩ := DataW.trod_bool Tryd.underlying4 h2
  simp at e0 e1 e2
  subst e0 e1 e2
  exact ⟨⟨n0, n1, n2⟩, rfl, wf_i64 w0, wf_i64 w1⟩
theorem ms {H : Type} {enc : TypeId × Value → H} {W : World} {base : Nat} {v : Value} {d : DataW H} {p : List MemPlace} (hv : Value.okWide Tryd.prog W .any base 22 v)
    (h : DataW.Trod enc Tryd.prog W 0 (fun _ => true) true 22 v d p) : ∃ l, IsMs W v l ∧ l.length + 1 ≤ Rows.uptoBulk d := by
  obtain ⟨l, h1, h2, h3⟩ := slice_read (cellsOf := Mb.cells) (Good := fun p : Mb => p.Num) Tryd.underlying22 cellsMb (by omega) (fun fuel cs x hx => mb_read hx) (fun a => by simp [Mb.cells]) hv h
  exact ⟨l, ⟨h1, h2⟩, h3⟩
end Op
theorem IsMs.below {w w' : World} {v : Value} {l : List Mb} (h : IsMs w v l) (k : Below w.heap.size w w') : IsMs w' v l := ⟨h.1.below k, h.2⟩
theorem IsMs.nil (w : World) : IsMs w (.slice none 0 0) [] := ⟨SlN.nil _, by simp⟩
/-- its value, and its cells -/
theorem ms_read {w : World} {v : Value} {l : List Mb} (h : IsMs w v l) : ∃ (oa : Option Addr) (c : Nat), v = .slice oa l.length c ∧ l.length ≤ c ∧ c ≤ maxLen ∧ (oa = none → c = 0) ∧ ∀ k (hk : k < l.length), ∃ b f, oa = some ⟨b, f, none⟩ ∧ b < w.heap.size ∧ w.cell? ⟨b, f + k * 3, none⟩ = some (.int .i64 l[k].n) ∧ w.cell? ⟨b, f + k * 3 + 1, none⟩ = some (.int .i64 l[k].v) ∧ w.cell? ⟨b, f + k * 3 + 2, none⟩ = some (.bool l[k].up) ∧ l[k].Num := by
  obtain ⟨h1, h2⟩ := h
  rcases h1 with ⟨rfl, oa, cap, rfl, r1, r4⟩ | ⟨b2, f2, c2, rfl, r1, r2, r3⟩
  · exact ⟨oa, cap, rfl, by simp, r1, r4, fun k hk => by simp at hk⟩
  · refine ⟨_, c2, rfl, r1, r2, (fun e => by cases e), fun k hk => ?_⟩
    have q0 := r3 k hk 0 _ rfl
    have q1 := r3 k hk 1 _ rfl
    have q2 := r3 k hk 2 _ rfl
    exact ⟨b2, f2, rfl, Sl.lt q0, q0, q1, q2, h2 _ (List.getElem_mem hk)⟩
/-- a member in memory -/
def MbIn (w : World) (g : Nat) (n v : Int) (u : Bool) : Prop := w.heap[g]? = some (.cells #[.int .i64 n, .int .i64 v, .bool u] 30 (0, 0))
theorem MbIn.cells {w : World} {g : Nat} {n v : Int} {u : Bool} (h : MbIn w g n v u) : w.cell? ⟨g, 0, none⟩ = some (.int .i64 n) ∧ w.cell? ⟨g, 1, none⟩ = some (.int .i64 v) ∧ w.cell? ⟨g, 2, none⟩ = some (.bool u) := ⟨obj_cell h rfl, obj_cell h rfl, obj_cell h rfl⟩
def mbK : RecK Mb := ⟨22, 30, 3, 24, Mb.cells⟩
theorem infoMb : (Tryd.prog.info? 30).map (fun i => (i.zero, i.size, i.bytes)) = some (some (mbV 0 0 false), 3, 24) := by kernel_rfl
theorem mbK_ok : mbK.Ok where
  und := Tryd.underlying22
  info := by
    obtain ⟨i0, hi, hz0, hz1, hz2⟩ := info_parts infoMb
    exact ⟨i0, _, hi, hz0, hz1, hz2, rfl⟩
  pos := by decide
  len := fun x => rfl
  one := fun x u hu => by simp [mbK, Mb.cells] at hu; rcases hu with rfl | rfl | rfl <;> rfl
  small := by decide
/-- a row that the call has made reads as one -/
theorem mbK_ms {w : World} {M : Nat} {v : Value} {L : List Mb} (h : mbK.Own w M v L) (hg : ∀ x ∈ L, x.Num) : IsMs w v L := by
  refine ⟨?_, hg⟩
  have h' := h
  rcases h.2 with ⟨rfl, h0⟩ | ⟨g, cap, cur, rfl, hb, hgg, hc, hm, hs, ht⟩
  · have : L = [] := by simpa using h0
    subst this
    exact .inl ⟨rfl, none, 0, rfl, by simp, fun _ => rfl⟩
  · obtain ⟨oa, cap', e, rd⟩ := RecK.Own.read mbK_ok h'
    cases e
    refine .inr ⟨g, 0, cap, rfl, hc, hm, fun i hi j u hu => ?_⟩
    obtain ⟨g', e, -, -, r⟩ := rd i L[i] (List.getElem?_eq_getElem hi)
    cases e
    rw [Nat.zero_add]
    exact r j u hu
end Go.Proofs.YtnbcajciobfljaaDoor
