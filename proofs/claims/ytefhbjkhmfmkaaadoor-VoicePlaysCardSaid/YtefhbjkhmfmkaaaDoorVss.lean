import Derived.Test.YtefhbjkhmfmkaaaDoorVc
/-! Arguments that are rows of rounds of voices, opened. -/
namespace Go.Proofs.YtefhbjkhmfmkaaaDoor
open Go.ChangeShapes Go.WideShapes Go.ChangeAt Go.RowKit
set_option maxRecDepth 100000
set_option linter.unusedVariables false
set_option linter.unusedSimpArgs false
namespace Op
/-- a slice of elements of several cells, wherever it lies -/
theorem slice_cells {H : Type} {enc : TypeId × Value → H} {W : World} {t e : TypeId} {α : Type} {n : Nat} {cellsOf : α → List Value} {Good : α → Prop} (ht : Tryd.prog.underlying t = some (.slice e)) (hC : Tryd.prog.cellsOf e = n) (hn0 : n ≠ 0)
    (hel : ∀ (fuel : Nat) (cs : List Value) (x : DataW H × List MemPlace), DataW.trod enc Tryd.prog W 0 (fun _ => true) true fuel e cs = some x → ∃ a : α, cs = cellsOf a ∧ Good a) (hne : ∀ a, cellsOf a ≠ [])
    {fuel : Nat} {cs : List Value} {x : DataW H × List MemPlace} (hf : DataW.trod enc Tryd.prog W 0 (fun _ => true) true fuel t cs = some x) :
    ∃ (v : Value) (l : List α), cs = [v] ∧ SlN n cellsOf W v l ∧ (∀ a ∈ l, Good a) ∧ l.length + 1 ≤ Rows.uptoBulk x.1 := by
  rcases Go.Deep.open_slice ht hf with ⟨hcs, hx⟩ | ⟨a, len, cap, m, k, D, Pl, hcs, _, hl, hm, hmm, hx, hi⟩
  · subst hcs
    subst hx
    exact ⟨_, [], rfl, SlN.nil _, by simp, by simp [Rows.uptoBulk]⟩
  · subst hcs
    simp at hx hmm
    have key : ∀ j : Nat, j ≤ len → ∃ l : List α, l.length = j ∧ (∀ x ∈ l, Good x) ∧ ∀ i (h : i < l.length) q u, (cellsOf l[i])[q]? = some u → W.cell? ((a.add (i * n)).add q) = some u := by
      intro j
      induction j with
      | zero => exact fun _ => ⟨[], rfl, by simp, fun i h => by simp at h⟩
      | succ j ih =>
        intro hj
        obtain ⟨l, h1, h2, h3⟩ := ih (by omega)
        obtain ⟨cs', hc, htr⟩ := hi j (by omega)
        rw [hC] at hc
        obtain ⟨y, rfl, hy⟩ := hel _ _ _ htr
        obtain ⟨_, hcl, hat⟩ := World.cells?_some hc
        refine ⟨l ++ [y], by simp [h1], ?_, ?_⟩
        · intro x hx
          rcases List.mem_append.1 hx with hx | hx
          · exact h2 x hx
          · simp at hx; subst hx; exact hy
        · intro i hi' q u hu
          by_cases hij : i < l.length
          · rw [List.getElem_append_left hij] at hu
            exact h3 i hij q u hu
          · have e : i = j := by simp at hi'; omega
            subst e
            rw [List.getElem_append_right (by omega)] at hu
            simp [h1] at hu
            have hq : q < n := by
              have := (List.getElem?_eq_some_iff.1 hu).1
              omega
            rw [hat q hq]; exact hu
    obtain ⟨l, h1, h2, h3⟩ := key len (Nat.le_refl _)
    refine ⟨_, l, rfl, ?_, h2, ?_⟩
    · by_cases h0 : len = 0
      · subst h0
        have : l = [] := List.length_eq_zero_iff.1 h1
        subst this
        exact .inl ⟨rfl, some a, cap, rfl, hm, fun h => by cases h⟩
      · have hp : 0 < l.length := by omega
        have hx0 : ∃ u, (cellsOf l[0])[0]? = some u := by
          cases hc0 : cellsOf l[0] with
          | nil => exact absurd hc0 (hne _)
          | cons u r => exact ⟨u, by simp⟩
        obtain ⟨u, hu⟩ := hx0
        have hspot := World.cell?_spot (h3 0 hp 0 u hu)
        obtain ⟨b, off, sp⟩ := a
        have hsp : sp = none := by simpa [Addr.add] using hspot
        subst hsp
        refine .inr ⟨b, off, cap, by rw [h1], by omega, hm, fun i hi' j u hu => ?_⟩
        have h4 := h3 i hi' j u hu
        rw [Go.Deep.add_add] at h4
        have e : (Addr.add ⟨b, off, none⟩ (i * n + j)) = ⟨b, off + (i * n + j), none⟩ := by
          unfold Addr.add; split
          · rename_i hz; rw [hz]; rfl
          · rfl
        rw [← e]; exact h4
    · subst hx
      show l.length + 1 ≤ Rows.uptoBulk (DataW.slice (List.map D (List.range len)) (List.map (fun j => D (len + j)) (List.range (m - len))))
      have := bulks.slice_le (H := H) ((List.range len).map D) ((List.range (m - len)).map fun j => D (len + j))
      simp at this
      omega
/-- one round -/
theorem vs_cells {H : Type} {enc : TypeId × Value → H} {W : World} {fuel : Nat} {cs : List Value} {x : DataW H × List MemPlace}
    (h : DataW.trod enc Tryd.prog W 0 (fun _ => true) true fuel 30 cs = some x) : ∃ a : Value × List Vc, cs = [a.1] ∧ IsVs W a.1 a.2 := by
  obtain ⟨v, l, h0, h1, h2, h3⟩ := slice_cells (cellsOf := Vc.cells) (Good := fun p : Vc => p.Num) Tryd.underlying30 cellsVc (by omega) (fun fuel cs x hx => vc_read hx) (fun a => by simp [Vc.cells]) h
  exact ⟨(v, l), h0, h1, h2⟩
theorem cellsVs : Tryd.prog.cellsOf 30 = 1 := by kernel_rfl
end Op
/-- a row of rounds -/
abbrev IsVss (w : World) (v : Value) (l : List (Value × List Vc)) : Prop := SlN 1 (fun a : Value × List Vc => [a.1]) w v l ∧ ∀ a ∈ l, IsVs w a.1 a.2
namespace Op
theorem vss {H : Type} {enc : TypeId × Value → H} {W : World} {base : Nat} {v : Value} {d : DataW H} {p : List MemPlace} (hv : Value.okWide Tryd.prog W .any base 22 v)
    (h : DataW.Trod enc Tryd.prog W 0 (fun _ => true) true 22 v d p) : ∃ l, IsVss W v l ∧ l.length + 1 ≤ Rows.uptoBulk d := by
  obtain ⟨l, h1, h2, h3⟩ := slice_read (cellsOf := fun a : Value × List Vc => [a.1]) (Good := fun a => IsVs W a.1 a.2) Tryd.underlying22 cellsVs (by omega) (fun fuel cs x hx => vs_cells hx) (fun a => by simp) hv h
  exact ⟨l, ⟨h1, h2⟩, h3⟩
end Op
theorem vss_read {w : World} {v : Value} {l : List (Value × List Vc)} (h : IsVss w v l) : ∃ (oa : Option Addr) (c : Nat), v = .slice oa l.length c ∧ l.length ≤ c ∧ c ≤ maxLen ∧ ∀ k (hk : k < l.length), ∃ b f, oa = some ⟨b, f, none⟩ ∧ b < w.heap.size ∧ w.cell? ⟨b, f + k, none⟩ = some l[k].1 ∧ IsVs w l[k].1 l[k].2 := by
  obtain ⟨h1, h2⟩ := h
  rcases h1 with ⟨rfl, oa, cap, rfl, r1, r4⟩ | ⟨b2, f2, c2, rfl, r1, r2, r3⟩
  · exact ⟨oa, cap, rfl, by simp, r1, fun k hk => by simp at hk⟩
  · refine ⟨_, c2, rfl, r1, r2, fun k hk => ?_⟩
    have q0 := r3 k hk 0 _ rfl
    simp only [Nat.mul_one, Nat.add_zero] at q0
    exact ⟨b2, f2, rfl, Sl.lt q0, q0, h2 _ (List.getElem_mem hk)⟩
end Go.Proofs.YtefhbjkhmfmkaaaDoor
