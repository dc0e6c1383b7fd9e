import Derived.Test.YthbcdpckckellaaDoorOpen
import Derived.Deep.Slices
/-! Slices of elements of several cells: read, opened. -/
namespace Go.Proofs.YthbcdpckckellaaDoor
open Go.ChangeShapes Go.WideShapes Go.ChangeAt Go.RowKit
set_option maxRecDepth 100000
set_option linter.unusedVariables false
set_option linter.unusedSimpArgs false
/-- a slice of elements of n cells -/
def SlN {α : Type} (n : Nat) (enc : α → List Value) (w : World) (v : Value) (l : List α) : Prop :=
  (l = [] ∧ ∃ (oa : Option Addr) (cap : Nat), v = .slice oa 0 cap ∧ cap ≤ maxLen ∧ (oa = none → cap = 0)) ∨
  ∃ (b off : Nat) (cap : Nat), v = .slice (some ⟨b, off, none⟩) l.length cap ∧ l.length ≤ cap ∧ cap ≤ maxLen ∧ ∀ i (h : i < l.length) j u, (enc l[i])[j]? = some u → w.cell? ⟨b, off + (i * n + j), none⟩ = some u

namespace SlN
variable {α : Type} {n : Nat} {enc : α → List Value}
theorem nil (w : World) : SlN n enc w (.slice none 0 0) [] := .inl ⟨rfl, none, 0, rfl, by simp, fun _ => rfl⟩
theorem len {w : World} {v : Value} {l : List α} (h : SlN n enc w v l) : l.length ≤ maxLen := by
  rcases h with ⟨rfl, _⟩ | ⟨b, off, cap, _, h1, h2, _⟩
  · simp
  · omega
theorem below {w w' : World} {v : Value} {l : List α} (h : SlN n enc w v l) (hb : Below w.heap.size w w') : SlN n enc w' v l := by
  rcases h with h | ⟨b, off, cap, h0, h1, h2, h3⟩
  · exact .inl h
  · refine .inr ⟨b, off, cap, h0, h1, h2, fun i hi j u hu => ?_⟩
    have h4 := h3 i hi j u hu
    rw [hb.cell (p := ⟨b, off + (i * n + j), none⟩) (Sl.lt h4)]
    exact h4
end SlN

namespace Op
theorem list3 {α : Type} {l : List α} (h : l.length = 3) : ∃ a b c, l = [a, b, c] := by
  match l, h with
  | [a, b, c], _ => exact ⟨a, b, c, rfl⟩
/-- a slice of elements of several cells -/
theorem slice_read {H : Type} {enc : TypeId × Value → H} {W : World} {base : Nat} {t e : TypeId} {α : Type} {n : Nat} {cellsOf : α → List Value} {Good : α → Prop} (ht : Tryd.prog.underlying t = some (.slice e)) (hC : Tryd.prog.cellsOf e = n) (hn0 : n ≠ 0)
    (hel : ∀ (fuel : Nat) (cs : List Value) (x : DataW H × List MemPlace), DataW.trod enc Tryd.prog W 0 (fun _ => true) true fuel e cs = some x → ∃ a : α, cs = cellsOf a ∧ Good a) (hne : ∀ a, cellsOf a ≠ [])
    {v : Value} {d : DataW H} {p : List MemPlace} (hv : Value.okWide Tryd.prog W .any base t v) (h : DataW.Trod enc Tryd.prog W 0 (fun _ => true) true t v d p) :
    ∃ l : List α, SlN n cellsOf W v l ∧ (∀ a ∈ l, Good a) ∧ l.length + 1 ≤ Rows.uptoBulk d := by
  obtain ⟨a0, len0, cap0, rfl⟩ := okWide_slice ht hv
  obtain ⟨fuel, hf⟩ := h
  rcases Go.Deep.open_slice ht hf with ⟨hcs, hx⟩ | ⟨a, len, cap, m, k, D, Pl, hcs, _, hl, hm, hmm, hx, hi⟩
  · simp [Value.cells] at hcs
    simp at hx
    obtain ⟨rfl, rfl, rfl⟩ := hcs
    obtain ⟨rfl, _⟩ := hx
    exact ⟨[], SlN.nil _, by simp, by simp [Rows.uptoBulk]⟩
  · simp [Value.cells] at hcs
    simp at hx hmm
    obtain ⟨rfl, rfl, rfl⟩ := hcs
    have key : ∀ j : Nat, j ≤ len0 → ∃ l : List α, l.length = j ∧ (∀ x ∈ l, Good x) ∧ ∀ i (h : i < l.length) q u, (cellsOf l[i])[q]? = some u → W.cell? ((a.add (i * n)).add q) = some u := by
      intro j
      induction j with
      | zero => exact fun _ => ⟨[], rfl, by simp, fun i h => by simp at h⟩
      | succ j ih =>
        intro hj
        obtain ⟨l, h1, h2, h3⟩ := ih (by omega)
        obtain ⟨cs', hc, htr⟩ := hi j (by omega)
        rw [hC] at hc
        obtain ⟨y, rfl, hy⟩ := hel _ _ _ htr
        obtain ⟨_, hcl, hat⟩ := World.cells?_some hc
        refine ⟨l ++ [y], by simp [h1], ?_, ?_⟩
        · intro x hx
          rcases List.mem_append.1 hx with hx | hx
          · exact h2 x hx
          · simp at hx; subst hx; exact hy
        · intro i hi' q u hu
          by_cases hij : i < l.length
          · rw [List.getElem_append_left hij] at hu
            exact h3 i hij q u hu
          · have e : i = j := by simp at hi'; omega
            subst e
            rw [List.getElem_append_right (by omega)] at hu
            simp [h1] at hu
            have hq : q < n := by
              have := (List.getElem?_eq_some_iff.1 hu).1
              omega
            rw [hat q hq]; exact hu
    obtain ⟨l, h1, h2, h3⟩ := key len0 (Nat.le_refl _)
    refine ⟨l, ?_, h2, ?_⟩
    · by_cases h0 : len0 = 0
      · subst h0
        have : l = [] := List.length_eq_zero_iff.1 h1
        subst this
        exact .inl ⟨rfl, some a, cap0, rfl, hm, fun h => by cases h⟩
      · have hp : 0 < l.length := by omega
        have hx0 : ∃ u, (cellsOf l[0])[0]? = some u := by
          cases hc0 : cellsOf l[0] with
          | nil => exact absurd hc0 (hne _)
          | cons u r => exact ⟨u, by simp⟩
        obtain ⟨u, hu⟩ := hx0
        have hspot := World.cell?_spot (h3 0 hp 0 u hu)
        obtain ⟨b, off, sp⟩ := a
        have hsp : sp = none := by simpa [Addr.add] using hspot
        subst hsp
        refine .inr ⟨b, off, cap0, by rw [h1], by omega, hm, fun i hi' j u hu => ?_⟩
        have h4 := h3 i hi' j u hu
        rw [Go.Deep.add_add] at h4
        have e : (Addr.add ⟨b, off, none⟩ (i * n + j)) = ⟨b, off + (i * n + j), none⟩ := by
          unfold Addr.add; split
          · rename_i hz; rw [hz]; rfl
          · rfl
        rw [← e]; exact h4
    · rw [hx.1]
      have := bulks.slice_le (H := H) ((List.range len0).map D) ((List.range (m - len0)).map fun j => D (len0 + j))
      simp at this
      omega
end Op
end Go.Proofs.YthbcdpckckellaaDoor
