import Derived.Test.YthbcdpckckellaaDoorAppend
import Derived.Test.YthbcdpckckellaaDoorRows
import Derived.Lib.LazyBuf
import Derived.WalkKit
import Derived.ProofKit
import Derived.RegionTactic
import Derived.ChangeAlike
/-! slices.Clone of bytes. -/
namespace Go.Proofs.YthbcdpckckellaaDoor
open Go.RowKit
set_option linter.unusedVariables false
set_option linter.unusedSimpArgs false

theorem nilBytes (a : Option Addr) (n c : Nat) (w : World) : (binOp .eql 26 (.slice a n c) (.slice none 0 0)).run Tryd.prog w = .ok (.bool a.isNone) w :=
  run_eql_slice_nil w _ _ a n c Tryd.underlying26
theorem infoU8 : (Tryd.prog.info? 5).map (fun i => (i.zero, i.size, i.bytes)) = some (some (.int .u8 0), 1, 1) := by kernel_rfl

theorem owned_bytes {w : World} {base : Nat} {v : Value} {l : List UInt8} (h : w.ownsRow base 5 1 v l.length (l.map encB)) : IsBytes w v l := by
  obtain ⟨h1, h2⟩ := h
  rcases h2 with ⟨rfl, h0⟩ | ⟨g, cap, cur, rfl, _, hg, hc, hm, hs, ht⟩
  · have : l = [] := List.eq_nil_of_length_eq_zero h0
    subst this
    exact Sl.nil _
  · refine .inr ⟨g, 0, cap, rfl, hc, hm, fun i hi => ?_⟩
    have e : cur[i]? = some (encB l[i]) := by
      have h3 : (cur.toList.take (l.length * 1))[i]? = (l.map encB)[i]? := by rw [ht]
      rw [List.getElem?_take, if_pos (by omega)] at h3
      simpa [hi] using h3
    rw [Nat.zero_add]
    exact obj_cell hg e

/-- .. and stays so where only older blocks are written -/
theorem owned_bytes2 {w W : World} {base B : Nat} {v : Value} {l : List UInt8} (h : w.ownsRow base 5 1 v l.length (l.map encB)) (hB : B ≤ base) (hk : Keeps (fun k => k < B) w W) : IsBytes W v l := by
  obtain ⟨h1, h2⟩ := h
  rcases h2 with ⟨rfl, h0⟩ | ⟨g, cap, cur, rfl, hb, hg, hc, hm, hs, ht⟩
  · have : l = [] := List.eq_nil_of_length_eq_zero h0
    subst this
    exact Sl.nil _
  · exact owned_bytes (base := base) ⟨h1, .inr ⟨g, cap, cur, rfl, hb, hk.heap hg (by omega), hc, hm, hs, ht⟩⟩

end Go.Proofs.YthbcdpckckellaaDoor
