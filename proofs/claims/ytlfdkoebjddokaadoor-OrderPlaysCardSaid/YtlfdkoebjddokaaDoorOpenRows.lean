import Derived.Test.YtlfdkoebjddokaaDoorOpen
import Derived.Test.YtlfdkoebjddokaaDoorSlRows
import Derived.Deep.Matrix
/-! An argument of type [][]int, opened. -/
namespace Go.Proofs.YtlfdkoebjddokaaDoor
open Go.ChangeShapes Go.WideShapes Go.ChangeAt Go.RowKit
set_option maxRecDepth 100000
set_option linter.unusedVariables false
set_option linter.unusedSimpArgs false
namespace Op
theorem cellsR : Tryd.prog.cellsOf 35 = 1 := by kernel_rfl
theorem ints_any {W : World} {A : Option Addr} {L C : Nat} {Z : List Int} (h1 : L ≤ C) (h2 : C ≤ maxLen) (h3 : Z.length = C) (h4 : ∀ n ∈ Z, (Lit.int .i64 n).wf = true) (h5 : A = none → C = 0)
    (h6 : ∀ a', A = some a' → ∀ c, c < C → W.cell? (a'.add c) = some (.int .i64 (Z.getD c 0))) : IsInts W (.slice A L C) (Z.take L) := by
  refine ⟨?_, fun n hn => wf_i64 (h4 n (List.mem_of_mem_take hn))⟩
  cases A with
  | none =>
    have := h5 rfl
    subst this
    have : L = 0 := by omega
    subst this
    exact .inl ⟨by simp, none, 0, rfl, h2, fun _ => rfl⟩
  | some a =>
    have h := toSl (f := id) (enc := encI) (a := a) (len := L) (cap := C) (zs := Z) (k := .i64) (W := W) h1 h2 h3 (fun i hi => h6 a rfl i (by omega)) (fun n hn => rfl)
    rw [List.map_id] at h
    exact h
theorem rows {H : Type} {enc : TypeId × Value → H} {W : World} {base : Nat} {v : Value} {d : DataW H} {p : List MemPlace} (hv : Value.okWide Tryd.prog W .any base 22 v)
    (h : DataW.Trod enc Tryd.prog W 0 (fun _ => true) true 22 v d p) : ∃ l, IsRows W v l ∧ l.length + 1 ≤ Rows.uptoBulk d := by
  obtain ⟨a0, len0, cap0, rfl⟩ := okWide_slice Tryd.underlying22 hv
  obtain ⟨fuel, hf⟩ := h
  rcases Go.Deep.open_int_rows Tryd.underlying22 Tryd.underlying35 Tryd.underlying3 cellsR cellsI hf with ⟨hcs, hx⟩ | ⟨a, len, cap, A, L, C, Z, hcs, _, hl, hm, hx, hr⟩
  · simp [Value.cells] at hcs
    simp at hx
    obtain ⟨rfl, rfl, rfl⟩ := hcs
    obtain ⟨rfl, _⟩ := hx
    exact ⟨[], ⟨Sl.nil _, by simp⟩, by simp [Rows.uptoBulk]⟩
  · simp [Value.cells] at hcs
    simp at hx
    obtain ⟨rfl, rfl, rfl⟩ := hcs
    have hlen : ((List.range len0).map fun r => (Value.slice (A r) (L r) (C r), (Z r).take (L r))).length = len0 := by simp
    refine ⟨(List.range len0).map fun r => (Value.slice (A r) (L r) (C r), (Z r).take (L r)), ⟨?_, ?_⟩, ?_⟩
    · by_cases h0 : len0 = 0
      · subst h0
        exact .inl ⟨rfl, some a, cap0, rfl, hm, fun h => by cases h⟩
      · have hspot := World.cell?_spot (hr 0 (by omega)).1
        obtain ⟨b, off, sp⟩ := a
        have hsp : sp = none := by simpa [Addr.add] using hspot
        subst hsp
        refine .inr ⟨b, off, cap0, by rw [hlen], by omega, hm, fun i hi => ?_⟩
        have h4 := (hr i (by omega)).1
        rw [Go.WideShapes.add_plain] at h4
        rw [h4]
        simp
    · intro x hx'
      obtain ⟨r, hr', rfl⟩ := List.mem_map.1 hx'
      have hr'' := List.mem_range.1 hr'
      obtain ⟨_, r1, r2, r3, r4, r5, r6⟩ := hr r (by omega)
      exact ints_any r1 r2 r3 r4 r5 (fun a' ha => (r6 a' ha).2)
    · rw [hx.1]
      have := bulks.slice_le (H := H) ((List.range len0).map fun r => Go.Deep.intRow .i64 (A r) (L r) (Z r)) ((List.range (cap0 - len0)).map fun j => Go.Deep.intRow .i64 (A (len0 + j)) (L (len0 + j)) (Z (len0 + j)))
      simp at this
      simp
      omega
end Op
end Go.Proofs.YtlfdkoebjddokaaDoor
