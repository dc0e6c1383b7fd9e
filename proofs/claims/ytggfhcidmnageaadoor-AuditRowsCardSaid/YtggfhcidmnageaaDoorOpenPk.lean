import Derived.Test.YtggfhcidmnageaaDoorOpen
import Derived.Test.YtggfhcidmnageaaDoorPk
import Derived.Deep.Slices
/-! Arguments that are packets, items, and slices of these, opened. -/
namespace Go.Proofs.YtggfhcidmnageaaDoor
open Go.ChangeShapes Go.WideShapes Go.ChangeAt Go.RowKit
set_option maxRecDepth 100000
set_option linter.unusedVariables false
set_option linter.unusedSimpArgs false
namespace Op

theorem bytes_read {H : Type} {enc : TypeId × Value → H} {W : World} {fuel : Nat} {v : Value} {x : DataW H × List MemPlace}
    (h : DataW.trod enc Tryd.prog W 0 (fun _ => true) true fuel 27 [v] = some x) : ∃ l, IsBytes W v l ∧ l.length + 1 ≤ Rows.uptoBulk x.1 := by
  rcases open_ints Tryd.underlying27 Tryd.underlying5 cellsB h with ⟨hcs, rfl⟩ | ⟨a, len, cap, zs, hcs, _, hl, hm, hz, rfl, hc, hw⟩
  · simp at hcs; subst hcs
    exact ⟨[], Sl.nil _, by simp [Rows.uptoBulk]⟩
  · simp at hcs; subst hcs
    refine ⟨(zs.take len).map (fun n => UInt8.ofNat n.toNat), toSl hl hm (by simpa using hz) hc (fun n hn => ?_), ?_⟩
    · have hb : 0 ≤ n ∧ n ≤ 255 := by simpa [Lit.wf, IntKind.min, IntKind.max, IntKind.signed, IntKind.bits] using hw n hn
      simp [encB]
      omega
    · have h1 := bulks.slice_le (H := H) (lits .u8 (zs.take len)) (lits .u8 (zs.drop len))
      have h2 : (lits (H := H) .u8 (zs.take len)).length = (zs.take len).length := by simp [lits]
      simp only [List.length_map]
      omega

theorem cellsPk : Tryd.prog.cellsOf 29 = 6 := by kernel_rfl
theorem cellsBool : Tryd.prog.cellsOf 4 = 1 := by kernel_rfl
theorem cellsInt : Tryd.prog.cellsOf 3 = 1 := by kernel_rfl
theorem cellsBs : Tryd.prog.cellsOf 27 = 1 := by kernel_rfl
theorem list6 {α : Type} {l : List α} (h : l.length = 6) : ∃ a b c d e f, l = [a, b, c, d, e, f] := by
  match l, h with
  | [a, b, c, d, e, f], _ => exact ⟨a, b, c, d, e, f, rfl⟩

theorem pk_read {H : Type} {enc : TypeId × Value → H} {W : World} {fuel : Nat} {cs : List Value} {x : DataW H × List MemPlace}
    (h : DataW.trod enc Tryd.prog W 0 (fun _ => true) true fuel 29 cs = some x) : ∃ p : Pk, cs = p.cells ∧ p.Good W ∧ p.body.length + 7 ≤ Rows.uptoBulk x.1 := by
  obtain ⟨xs, n, _, rfl, hlen, hxl, hf⟩ := DataW.trod_struct Tryd.underlying29 h
  rw [cellsPk] at hlen
  obtain ⟨c0, c1, c2, c3, c4, c5, rfl⟩ := list6 hlen
  obtain ⟨y0, y1, y2, y3, y4, y5, rfl⟩ := list6 hxl
  have h0 := hf 0 _ rfl
  have h1 := hf 1 _ rfl
  have h2 := hf 2 _ rfl
  have h3 := hf 3 _ rfl
  have h4 := hf 4 _ rfl
  have h5 := hf 5 _ rfl
  simp [cellsBool, cellsInt, cellsBs] at h0 h1 h2 h3 h4 h5
  obtain ⟨n0, e0, z0, w0⟩ := DataW.trod_int Tryd.underlying3 h0
  obtain ⟨n1, e1, z1, w1⟩ := DataW.trod_int Tryd.underlying3 h1
  obtain ⟨n2, e2, z2, w2⟩ := DataW.trod_int Tryd.underlying3 h2
  obtain ⟨n3, e3, z3, w3⟩ := DataW.trod_int Tryd.underlying3 h3
  obtain ⟨n4, e4, z4⟩ := DataW.trod_bool Tryd.underlying4 h4
  obtain ⟨l, hb, hl⟩ := bytes_read h5
  simp at e0 e1 e2 e3 e4
  subst e0 e1 e2 e3 e4
  refine ⟨⟨n0, n1, n2, n3, n4, c5, l⟩, rfl, ⟨wf_i64 w0, wf_i64 w1, wf_i64 w2, wf_i64 w3, hb⟩, ?_⟩
  simp only [z0, z1, z2, z3, z4, List.map_cons, List.map_nil, Rows.uptoBulk, Rows.uptoBulkAll]
  omega

/-- a slice of elements of several cells -/
theorem slice_read {H : Type} {enc : TypeId × Value → H} {W : World} {base : Nat} {t e : TypeId} {α : Type} {n : Nat} {cellsOf : α → List Value} {Good : α → Prop} (ht : Tryd.prog.underlying t = some (.slice e)) (hC : Tryd.prog.cellsOf e = n) (hn0 : n ≠ 0)
    (hel : ∀ (fuel : Nat) (cs : List Value) (x : DataW H × List MemPlace), DataW.trod enc Tryd.prog W 0 (fun _ => true) true fuel e cs = some x → ∃ a : α, cs = cellsOf a ∧ Good a) (hne : ∀ a, cellsOf a ≠ [])
    {v : Value} {d : DataW H} {p : List MemPlace} (hv : Value.okWide Tryd.prog W .any base t v) (h : DataW.Trod enc Tryd.prog W 0 (fun _ => true) true t v d p) :
    ∃ l : List α, SlN n cellsOf W v l ∧ (∀ a ∈ l, Good a) ∧ l.length + 1 ≤ Rows.uptoBulk d := by
  obtain ⟨a0, len0, cap0, rfl⟩ := okWide_slice ht hv
  obtain ⟨fuel, hf⟩ := h
  rcases Go.Deep.open_slice ht hf with ⟨hcs, hx⟩ | ⟨a, len, cap, m, k, D, Pl, hcs, _, hl, hm, hmm, hx, hi⟩
  · simp [Value.cells] at hcs
    simp at hx
    obtain ⟨rfl, rfl, rfl⟩ := hcs
    obtain ⟨rfl, _⟩ := hx
    exact ⟨[], SlN.nil _, by simp, by simp [Rows.uptoBulk]⟩
  · simp [Value.cells] at hcs
    simp at hx hmm
    obtain ⟨rfl, rfl, rfl⟩ := hcs
    have key : ∀ j : Nat, j ≤ len0 → ∃ l : List α, l.length = j ∧ (∀ x ∈ l, Good x) ∧ ∀ i (h : i < l.length) q u, (cellsOf l[i])[q]? = some u → W.cell? ((a.add (i * n)).add q) = some u := by
      intro j
      induction j with
      | zero => exact fun _ => ⟨[], rfl, by simp, fun i h => by simp at h⟩
      | succ j ih =>
        intro hj
        obtain ⟨l, h1, h2, h3⟩ := ih (by omega)
        obtain ⟨cs', hc, htr⟩ := hi j (by omega)
        rw [hC] at hc
        obtain ⟨y, rfl, hy⟩ := hel _ _ _ htr
        obtain ⟨_, hcl, hat⟩ := World.cells?_some hc
        refine ⟨l ++ [y], by simp [h1], ?_, ?_⟩
        · intro x hx
          rcases List.mem_append.1 hx with hx | hx
          · exact h2 x hx
          · simp at hx; subst hx; exact hy
        · intro i hi' q u hu
          by_cases hij : i < l.length
          · rw [List.getElem_append_left hij] at hu
            exact h3 i hij q u hu
          · have e : i = j := by simp at hi'; omega
            subst e
            rw [List.getElem_append_right (by omega)] at hu
            simp [h1] at hu
            have hq : q < n := by
              have := (List.getElem?_eq_some_iff.1 hu).1
              omega
            rw [hat q hq]; exact hu
    obtain ⟨l, h1, h2, h3⟩ := key len0 (Nat.le_refl _)
    refine ⟨l, ?_, h2, ?_⟩
    · by_cases h0 : len0 = 0
      · subst h0
        have : l = [] := List.length_eq_zero_iff.1 h1
        subst this
        exact .inl ⟨rfl, some a, cap0, rfl, hm, fun h => by cases h⟩
      · have hp : 0 < l.length := by omega
        have hx0 : ∃ u, (cellsOf l[0])[0]? = some u := by
          cases hc0 : cellsOf l[0] with
          | nil => exact absurd hc0 (hne _)
          | cons u r => exact ⟨u, by simp⟩
        obtain ⟨u, hu⟩ := hx0
        have hspot := World.cell?_spot (h3 0 hp 0 u hu)
        obtain ⟨b, off, sp⟩ := a
        have hsp : sp = none := by simpa [Addr.add] using hspot
        subst hsp
        refine .inr ⟨b, off, cap0, by rw [h1], by omega, hm, fun i hi' j u hu => ?_⟩
        have h4 := h3 i hi' j u hu
        rw [Go.Deep.add_add] at h4
        have e : (Addr.add ⟨b, off, none⟩ (i * n + j)) = ⟨b, off + (i * n + j), none⟩ := by
          unfold Addr.add; split
          · rename_i hz; rw [hz]; rfl
          · rfl
        rw [← e]; exact h4
    · rw [hx.1]
      have := bulks.slice_le (H := H) ((List.range len0).map D) ((List.range (m - len0)).map fun j => D (len0 + j))
      simp at this
      omega

theorem pks {H : Type} {enc : TypeId × Value → H} {W : World} {base : Nat} {v : Value} {d : DataW H} {p : List MemPlace} (hv : Value.okWide Tryd.prog W .any base 30 v)
    (h : DataW.Trod enc Tryd.prog W 0 (fun _ => true) true 30 v d p) : ∃ l, IsPks W v l ∧ l.length + 1 ≤ Rows.uptoBulk d := by
  obtain ⟨l, h1, h2, h3⟩ := slice_read (cellsOf := Pk.cells) (Good := fun p : Pk => p.Good W) Tryd.underlying30 cellsPk (by omega) (fun fuel cs x hx => by obtain ⟨p, e, g, _⟩ := pk_read hx; exact ⟨p, e, g⟩) (fun a => by simp [Pk.cells]) hv h
  exact ⟨l, ⟨h1, h2⟩, h3⟩

theorem list3 {α : Type} {l : List α} (h : l.length = 3) : ∃ a b c, l = [a, b, c] := by
  match l, h with
  | [a, b, c], _ => exact ⟨a, b, c, rfl⟩
theorem list8 {α : Type} {l : List α} (h : l.length = 8) : ∃ a b c d e f g i, l = [a, b, c, d, e, f, g, i] := by
  match l, h with
  | [a, b, c, d, e, f, g, i], _ => exact ⟨a, b, c, d, e, f, g, i, rfl⟩
end Op
end Go.Proofs.YtggfhcidmnageaaDoor
