import Derived.Test.YthbcdpckckellaaDoorSlice
import Derived.Lib.AppendZeros
import Derived.Deep.AppendSrc
/-! append: onto an empty cut, onto a slice of the call's own. Of whatever program. -/
namespace Go.Proofs.YthbcdpckckellaaDoor
open Go.RowKit
set_option linter.unusedVariables false
set_option linter.unusedSimpArgs false

theorem run_clone_own {P : Program} (w : World) (t ty e : TypeId) (i : TypeInfo) (z : Value) (size bytes : Nat) (ht : P.underlying t = some (.slice e)) (hi : P.info? e = some i) (hz : i.zero = some z)
    (hsize : i.size = size) (hby : i.bytes = bytes) (hzs : z.cells.size = size) (hsz : 0 < size) (base : Option Addr)
    (ad : Addr) (m c : Nat) (news : List Value) (hl : news.length = m * size) (hnews : ∀ j u, news[j]? = some u → w.cell? (ad.add j) = some u) (h1 : ∀ u ∈ news, u.oneCell' = true)
    (h63 : m ≤ maxLen) (hbytes : m * bytes ≤ 140737488355328) (hm : 0 < m) :
    ∃ v' w', (Builtin.append_ #[t, t] ty #[.slice base 0 0, .slice (some ad) m c]).run P w = .ok v' w' ∧ w'.ownsRow w.heap.size e size v' m news ∧ w.grownBy w' none := by
  obtain ⟨v', w', hr, ho, hg, hn⟩ := run_append_own (P := P) w w.heap.size t ty e i z size bytes ht hi hz hsize hby hzs hsz (.slice none 0 0) 0 [] (World.ownsRow_nil w _ e size) ad m c news hl hnews h1 (by omega) (by simpa using hbytes) (Nat.le_refl _)
  simp only [Nat.zero_add, List.nil_append] at ho
  have hs : Src P i.size t (.slice (some ad) m c) m news w := Src.ofSlice w ht ad m c news (by rw [hsize]; exact hl) hnews h1
  have g : ∀ b : Option Addr, (Builtin.firstCells i.size 0 (.slice b 0 0)).run P w.drew = .ok (#[] : Array Value) w.drew → _ := fun b hb =>
    run_append_grow_src w t t ty e i z ht hi hz b 0 0 [] hb (.slice (some ad) m c) m news hs (by omega) (by unfold maxLen at h63; omega) (growslice_fits (by omega) (by rw [hby]; simpa using hbytes))
  have g1 := g base (by cases base <;> simp [Builtin.firstCells, loadCells, loadCellsFrom])
  have g2 := g none (by simp [Builtin.firstCells, loadCells, loadCellsFrom])
  rw [g2] at hr
  exact ⟨v', w', g1.trans hr, ho, hg⟩

theorem run_clone_none {P : Program} (w : World) (t ty e : TypeId) (i : TypeInfo) (ht : P.underlying t = some (.slice e)) (hi : P.info? e = some i) (base oa : Option Addr) (c : Nat) :
    (Builtin.append_ #[t, t] ty #[.slice base 0 0, .slice oa 0 c]).run P w = .ok (.slice base 0 0) w := by
  cases base <;> cases oa <;> simp [Builtin.append_, run_underlying ht, sizeOf, typeInfo, hi, Builtin.lenOf, Builtin.firstCells, loadCells, loadCellsFrom, storeCells]
end Go.Proofs.YthbcdpckckellaaDoor
