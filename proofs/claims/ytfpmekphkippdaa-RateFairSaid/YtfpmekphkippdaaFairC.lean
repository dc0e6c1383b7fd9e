import Derived.Test.YtfpmekphkippdaaStable
import Derived.Test.YtfpmekphkippdaaPFair
import Derived.Test.YtfpmekphkippdaaSlice
/-! rate.Fair's closure, in whatever world of the sort's; slices.SortStableFunc with it. -/
namespace Go.Proofs.Ytfpmekphkippdaa
open Go.RowKit Go.Sort Go.Shelf
set_option linter.unusedVariables false
set_option linter.unusedSimpArgs false
set_option linter.unusedSectionVars false
set_option maxRecDepth 100000 in
set_option maxHeartbeats 1000000 in
theorem fairCmp_any (B g fo : Nat) (n c : Nat) (i k : Nat) (x y : Int) (W : World) (hB : W.cell? ⟨B, 0, none⟩ = some (.slice (some ⟨g, fo, none⟩) n c)) (hi : i < n) (hk : k < n) (hn : n ≤ 1000000)
    (hx : W.cell? ⟨g, fo + i, none⟩ = some (.int .i64 x)) (hy : W.cell? ⟨g, fo + k, none⟩ = some (.int .i64 y)) (bx : 0 ≤ x ∧ x ≤ 1000000) (by' : 0 ≤ y ∧ y ≤ 1000000) :
    Calls Try.prog 8 #[.int .i64 i, .int .i64 k, .pointer (some ⟨B, 0, none⟩)] W fun e w' => e = .returned (.int .i64 (x - y)) ∧ ∃ q, w' = W.drewN q := by
  have i0 : (0 : Int) ≤ (i : Int) := by omega
  have i1 : (i : Int) < (n : Int) := by omega
  have k0 : (0 : Int) ≤ (k : Int) := by omega
  have k1 : (k : Int) < (n : Int) := by omega
  have w1 : IntKind.i64.wrap (x - y) = x - y := by rw [IntKind.wrap_i64]; omega
  clear bx by'
  go_enter Try.func8, Try.ntmps8
  go_wp2_with fail
  go_quiet (fail)
  go_wp2_with fail
  go_ret
  exact ⟨rfl, _, rfl⟩
/-- what the closure looks at lies as in w -/
theorem sortWorld_cell {α : Type} [Inhabited α] (f : α → Int) (w : World) (blk off m q : Nat) (D dk : Array α) (os : Array Obj) (a : Addr) (v : Value) (hne : a.block ≠ blk) (h : w.cell? a = some v) :
    (Go.Proofs.sortWorld (encF f) ((putRow (encF f) w blk off D).drewN q) blk off m dk os).cell? a = some v := by
  have h1 : (putRow (encF f) (Go.Sort.ahead ((putRow (encF f) w blk off D).drewN q) m) blk off dk).cell? a = some v := by
    rw [cell?_putRow_other _ _ _ _ _ _ (.inl hne)]
    show (putRow (encF f) w blk off D).cell? a = some v
    rw [cell?_putRow_other _ _ _ _ _ _ (.inl hne)]
    exact h
  unfold Go.Proofs.sortWorld
  exact cell?_grow_c _ _ _ _ h1
where
  cell?_grow_c (W : World) (os : Array Obj) (a : Addr) (v : Value) (h : W.cell? a = some v) : (grow W os).cell? a = some v := by
    unfold World.cell? at h ⊢
    have hlt : a.block < W.heap.size := by
      rcases Nat.lt_or_ge a.block W.heap.size with q | q
      · exact q
      · rw [Array.getElem?_eq_none q] at h; simp at h
    have : (grow W os).heap[a.block]? = W.heap[a.block]? := by
      unfold grow
      exact Array.getElem?_append_left hlt
    rw [this]; exact h
abbrev fIdx (N : Nat) : Fin (N + 1) → Int := fun x => (x.val : Int)
abbrev fKey (N : Nat) (A : List Int) : Fin (N + 1) → Int := fun x => A.getD x.val 0
theorem fairAll (A : List Int) (N : Nat) (hN : A.length = N + 1) (B g fo c blk off : Nat) (w : World) (hA6 : A.length ≤ 1000000) (hr : ∀ x ∈ A, 0 ≤ x ∧ x ≤ 1000000) (hB : w.cell? ⟨B, 0, none⟩ = some (.slice (some ⟨g, fo, none⟩) A.length c))
    (hc : ∀ k, k < A.length → w.cell? ⟨g, fo + k, none⟩ = some (.int .i64 (A.getD k 0))) (hBb : B ≠ blk) (hgb : g ≠ blk) : CmpAll (fIdx N) (fKey N A) B blk off (N + 1) w := by
  have hr2 : ∀ x : Fin (N + 1), 0 ≤ fKey N A x ∧ fKey N A x ≤ 1000000 := fun x => by
    have hx : x.val < A.length := by have := x.isLt; omega
    show 0 ≤ A.getD x.val 0 ∧ A.getD x.val 0 ≤ 1000000
    rw [List.getD_eq_getElem?_getD, List.getElem?_eq_getElem hx]
    exact hr _ (List.getElem_mem hx)
  have one : ∀ (W : World), (∀ (a : Addr) (v : Value), a.block ≠ blk → w.cell? a = some v → W.cell? a = some v) → ∀ x y : Fin (N + 1),
      Calls Try.prog 8 #[.int .i64 (fIdx N x), .int .i64 (fIdx N y), .pointer (some ⟨B, 0, none⟩)] W fun e w' => e = .returned (.int .i64 (fKey N A x - fKey N A y)) ∧ ∃ q, w' = W.drewN q := fun W hW x y =>
    fairCmp_any B g fo A.length c x.val y.val _ _ W (hW _ _ hBb hB) (by have := x.isLt; omega) (by have := y.isLt; omega) hA6 (hW _ _ hgb (hc _ (by have := x.isLt; omega))) (hW _ _ hgb (hc _ (by have := y.isLt; omega))) (hr2 x) (hr2 y)
  refine ⟨fun X x y hX m => ?_, fun D q hD m os dk hdk x y => ?_⟩
  · refine one _ (fun a v hne h => ?_) x y
    show (putRow _ w blk off X).cell? a = some v
    rw [cell?_putRow_other _ _ _ _ _ _ (.inl hne)]
    exact h
  · exact one _ (fun a v hne h => sortWorld_cell _ w blk off m q D dk os a v hne h) x y
set_option maxRecDepth 100000 in
set_option maxHeartbeats 1000000 in
theorem sortStable_any {α : Type} [Inhabited α] (f key : α → Int) (B blk off cap : Nat) (d : Array α) (w : World) (hH : Holds (encF f) w blk off d) (hC : CmpAll f key B blk off d.size w) (hsz : d.size ≤ 1000000) :
    Calls Try.prog 7 #[.slice (some ⟨blk, off, none⟩) d.size cap, .func (.func 8) #[] #[.pointer (some ⟨B, 0, none⟩)]] w (SymE f key blk off 0 d.size d w) := by
  have SS := Lib.hid (stable_any f key B blk off cap d w hH hC hsz)
  clear hH hC
  go_enter Try.func7, Try.ntmps7
  go_wp2_with (go_at_call 12; (with_reducible refine SS.out.mono ?_); rintro e z ⟨rfl, D, q, rfl, r⟩)
  go_end0
  exact ⟨rfl, D, q, rfl, r⟩
end Go.Proofs.Ytfpmekphkippdaa
