import Derived.Test.YthgdkakkbaoccaaDoorOpen
import Derived.Test.YthgdkakkbaoccaaDoorWantRow
import Derived.Deep.Slices
/-! Arguments that are slices of wants, opened. -/
namespace Go.Proofs.YthgdkakkbaoccaaDoor
open Go.ChangeShapes Go.WideShapes Go.ChangeAt Go.RowKit
set_option maxRecDepth 100000
set_option linter.unusedVariables false
set_option linter.unusedSimpArgs false
/-- a slice of elements of n cells -/
def SlN {α : Type} (n : Nat) (enc : α → List Value) (w : World) (v : Value) (l : List α) : Prop :=
  (l = [] ∧ ∃ (oa : Option Addr) (cap : Nat), v = .slice oa 0 cap ∧ cap ≤ maxLen ∧ (oa = none → cap = 0)) ∨
  ∃ (b off : Nat) (cap : Nat), v = .slice (some ⟨b, off, none⟩) l.length cap ∧ l.length ≤ cap ∧ cap ≤ maxLen ∧ ∀ i (h : i < l.length) j u, (enc l[i])[j]? = some u → w.cell? ⟨b, off + (i * n + j), none⟩ = some u

namespace SlN
variable {α : Type} {n : Nat} {enc : α → List Value}
theorem nil (w : World) : SlN n enc w (.slice none 0 0) [] := .inl ⟨rfl, none, 0, rfl, by simp, fun _ => rfl⟩
theorem len {w : World} {v : Value} {l : List α} (h : SlN n enc w v l) : l.length ≤ maxLen := by
  rcases h with ⟨rfl, _⟩ | ⟨b, off, cap, _, h1, h2, _⟩
  · simp
  · omega
theorem below {w w' : World} {v : Value} {l : List α} (h : SlN n enc w v l) (hb : Below w.heap.size w w') : SlN n enc w' v l := by
  rcases h with h | ⟨b, off, cap, h0, h1, h2, h3⟩
  · exact .inl h
  · refine .inr ⟨b, off, cap, h0, h1, h2, fun i hi j u hu => ?_⟩
    have h4 := h3 i hi j u hu
    rw [hb.cell (p := ⟨b, off + (i * n + j), none⟩) (Sl.lt h4)]
    exact h4
end SlN

/-- its numbers are ints -/
def Wt.Good (x : Wt) : Prop := (-9223372036854775808 ≤ x.who ∧ x.who ≤ 9223372036854775807) ∧ (-9223372036854775808 ≤ x.track ∧ x.track ≤ 9223372036854775807) ∧ (-9223372036854775808 ≤ x.lay ∧ x.lay ≤ 9223372036854775807)
abbrev IsWts (w : World) (v : Value) (l : List Wt) : Prop := SlN 3 Wt.cells w v l ∧ ∀ x ∈ l, x.Good
namespace Op
theorem cellsWt : Tryd.prog.cellsOf 91 = 3 := by kernel_rfl
theorem cellsInt : Tryd.prog.cellsOf 3 = 1 := by kernel_rfl
theorem list3 {α : Type} {l : List α} (h : l.length = 3) : ∃ a b c, l = [a, b, c] := by
  match l, h with
  | [a, b, c], _ => exact ⟨a, b, c, rfl⟩
theorem wt_read {H : Type} {enc : TypeId × Value → H} {W : World} {fuel : Nat} {cs : List Value} {x : DataW H × List MemPlace}
    (h : DataW.trod enc Tryd.prog W 0 (fun _ => true) true fuel 91 cs = some x) : ∃ p : Wt, cs = p.cells ∧ p.Good := by
  obtain ⟨xs, n, _, rfl, hlen, hxl, hf⟩ := DataW.trod_struct Tryd.underlying91 h
  rw [cellsWt] at hlen
  obtain ⟨c0, c1, c2, rfl⟩ := list3 hlen
  obtain ⟨y0, y1, y2, rfl⟩ := list3 hxl
  have h0 := hf 0 _ rfl
  have h1 := hf 1 _ rfl
  have h2 := hf 2 _ rfl
  simp [cellsInt] at h0 h1 h2
  obtain ⟨n0, e0, z0, w0⟩ := DataW.trod_int Tryd.underlying3 h0
  obtain ⟨n1, e1, z1, w1⟩ := DataW.trod_int Tryd.underlying3 h1
  obtain ⟨n2, e2, z2, w2⟩ := DataW.trod_int Tryd.underlying3 h2
  simp at e0 e1 e2
  subst e0 e1 e2
  exact ⟨⟨n0, n1, n2⟩, rfl, wf_i64 w0, wf_i64 w1, wf_i64 w2⟩
/-- a slice of elements of several cells -/
theorem slice_read {H : Type} {enc : TypeId × Value → H} {W : World} {base : Nat} {t e : TypeId} {α : Type} {n : Nat} {cellsOf : α → List Value} {Good : α → Prop} (ht : Tryd.prog.underlying t = some (.slice e)) (hC : Tryd.prog.cellsOf e = n) (hn0 : n ≠ 0)
    (hel : ∀ (fuel : Nat) (cs : List Value) (x : DataW H × List MemPlace), DataW.trod enc Tryd.prog W 0 (fun _ => true) true fuel e cs = some x → ∃ a : α, cs = cellsOf a ∧ Good a) (hne : ∀ a, cellsOf a ≠ [])
    {v : Value} {d : DataW H} {p : List MemPlace} (hv : Value.okWide Tryd.prog W .any base t v) (h : DataW.Trod enc Tryd.prog W 0 (fun _ => true) true t v d p) :
    ∃ l : List α, SlN n cellsOf W v l ∧ (∀ a ∈ l, Good a) ∧ l.length + 1 ≤ Rows.uptoBulk d := by
  obtain ⟨a0, len0, cap0, rfl⟩ := okWide_slice ht hv
  obtain ⟨fuel, hf⟩ := h
  rcases Go.Deep.open_slice ht hf with ⟨hcs, hx⟩ | ⟨a, len, cap, m, k, D, Pl, hcs, _, hl, hm, hmm, hx, hi⟩
  · simp [Value.cells] at hcs
    simp at hx
    obtain ⟨rfl, rfl, rfl⟩ := hcs
    obtain ⟨rfl, _⟩ := hx
    exact ⟨[], SlN.nil _, by simp, by simp [Rows.uptoBulk]⟩
  · simp [Value.cells] at hcs
    simp at hx hmm
    obtain ⟨rfl, rfl, rfl⟩ := hcs
    have key : ∀ j : Nat, j ≤ len0 → ∃ l : List α, l.length = j ∧ (∀ x ∈ l, Good x) ∧ ∀ i (h : i < l.length) q u, (cellsOf l[i])[q]? = some u → W.cell? ((a.add (i * n)).add q) = some u := by
      intro j
      induction j with
      | zero => exact fun _ => ⟨[], rfl, by simp, fun i h => by simp at h⟩
      | succ j ih =>
        intro hj
        obtain ⟨l, h1, h2, h3⟩ := ih (by omega)
        obtain ⟨cs', hc, htr⟩ := hi j (by omega)
        rw [hC] at hc
        obtain ⟨y, rfl, hy⟩ := hel _ _ _ htr
        obtain ⟨_, hcl, hat⟩ := World.cells?_some hc
        refine ⟨l ++ [y], by simp [h1], ?_, ?_⟩
        · intro x hx
          rcases List.mem_append.1 hx with hx | hx
          · exact h2 x hx
          · simp at hx; subst hx; exact hy
        · intro i hi' q u hu
          by_cases hij : i < l.length
          · rw [List.getElem_append_left hij] at hu
            exact h3 i hij q u hu
          · have e : i = j := by simp at hi'; omega
            subst e
            rw [List.getElem_append_right (by omega)] at hu
            simp [h1] at hu
            have hq : q < n := by
              have := (List.getElem?_eq_some_iff.1 hu).1
              omega
            rw [hat q hq]; exact hu
    obtain ⟨l, h1, h2, h3⟩ := key len0 (Nat.le_refl _)
    refine ⟨l, ?_, h2, ?_⟩
    · by_cases h0 : len0 = 0
      · subst h0
        have : l = [] := List.length_eq_zero_iff.1 h1
        subst this
        exact .inl ⟨rfl, some a, cap0, rfl, hm, fun h => by cases h⟩
      · have hp : 0 < l.length := by omega
        have hx0 : ∃ u, (cellsOf l[0])[0]? = some u := by
          cases hc0 : cellsOf l[0] with
          | nil => exact absurd hc0 (hne _)
          | cons u r => exact ⟨u, by simp⟩
        obtain ⟨u, hu⟩ := hx0
        have hspot := World.cell?_spot (h3 0 hp 0 u hu)
        obtain ⟨b, off, sp⟩ := a
        have hsp : sp = none := by simpa [Addr.add] using hspot
        subst hsp
        refine .inr ⟨b, off, cap0, by rw [h1], by omega, hm, fun i hi' j u hu => ?_⟩
        have h4 := h3 i hi' j u hu
        rw [Go.Deep.add_add] at h4
        have e : (Addr.add ⟨b, off, none⟩ (i * n + j)) = ⟨b, off + (i * n + j), none⟩ := by
          unfold Addr.add; split
          · rename_i hz; rw [hz]; rfl
          · rfl
        rw [← e]; exact h4
    · rw [hx.1]
      have := bulks.slice_le (H := H) ((List.range len0).map D) ((List.range (m - len0)).map fun j => D (len0 + j))
      simp at this
      omega

theorem wts {H : Type} {enc : TypeId × Value → H} {W : World} {base : Nat} {v : Value} {d : DataW H} {p : List MemPlace} (hv : Value.okWide Tryd.prog W .any base 85 v)
    (h : DataW.Trod enc Tryd.prog W 0 (fun _ => true) true 85 v d p) : ∃ l, IsWts W v l ∧ l.length + 1 ≤ Rows.uptoBulk d := by
  obtain ⟨l, h1, h2, h3⟩ := slice_read (cellsOf := Wt.cells) (Good := fun p : Wt => p.Good) Tryd.underlying85 cellsWt (by omega) (fun fuel cs x hx => wt_read hx) (fun a => by simp [Wt.cells]) hv h
  exact ⟨l, ⟨h1, h2⟩, h3⟩
end Op
theorem wts_read {w : World} {v : Value} {l : List Wt} (h : IsWts w v l) : ∃ (oa : Option Addr) (c : Nat), v = .slice oa l.length c ∧ l.length ≤ maxLen ∧ ∀ k, k < l.length → ∃ b f, oa = some ⟨b, f, none⟩ ∧ b < w.heap.size ∧ w.cell? ⟨b, f + k * 3, none⟩ = some (.int .i64 (l.getD k ⟨0, 0, 0⟩).who) ∧ w.cell? ⟨b, f + k * 3 + 1, none⟩ = some (.int .i64 (l.getD k ⟨0, 0, 0⟩).track) ∧ w.cell? ⟨b, f + k * 3 + 2, none⟩ = some (.int .i64 (l.getD k ⟨0, 0, 0⟩).lay) ∧ (l.getD k ⟨0, 0, 0⟩).Good := by
  obtain ⟨h1, h2⟩ := h
  have hl := h1.len
  rcases h1 with ⟨rfl, oa, cap, rfl, r1, _⟩ | ⟨b2, f2, c2, rfl, r1, r2, r3⟩
  · exact ⟨oa, cap, rfl, hl, fun k hk => by simp at hk⟩
  · refine ⟨_, c2, rfl, hl, fun k hk => ?_⟩
    have e : l.getD k ⟨0, 0, 0⟩ = l[k] := by simp [List.getD, hk]
    rw [e]
    have q0 := r3 k hk 0 _ rfl
    have q1 := r3 k hk 1 _ rfl
    have q2 := r3 k hk 2 _ rfl
    exact ⟨b2, f2, rfl, Sl.lt q0, q0, q1, q2, h2 _ (List.getElem_mem hk)⟩
end Go.Proofs.YthgdkakkbaoccaaDoor
