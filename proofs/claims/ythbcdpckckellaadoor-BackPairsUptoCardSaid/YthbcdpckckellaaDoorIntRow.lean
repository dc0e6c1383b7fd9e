import Derived.Test.YthbcdpckckellaaDoorSlice
import Derived.Test.YthbcdpckckellaaDoorRows
import Derived.Lib.AppendZeros
import Derived.Laws.AppendOwn
import Derived.Lib.SmallJoins
import Derived.Laws.OwnMore
import Derived.Laws.Append
/-! Slices of ints that the call has made: append; what they read as. -/
namespace Go.Proofs.YthbcdpckckellaaDoor
open Go.RowKit
set_option linter.unusedVariables false
set_option linter.unusedSimpArgs false
theorem infoI64 : (Tryd.prog.info? 3).map (fun i => (i.zero, i.size, i.bytes)) = some (some (.int .i64 0), 1, 8) := by kernel_rfl
theorem run_moreInt (W : World) (M : Nat) (v : Value) (x : Int) (n : Nat) (xs : List Value) (hown : W.ownsRow M 3 1 v n xs) (g : Nat) (hg : W.heap[g]? = some (.cells #[.int .i64 x] 3 (0, 0))) (hn : n ≤ 1000000) (hB : M ≤ W.heap.size) :
    ∃ v' w', (Builtin.append_ #[22, 22] 22 #[v, .slice (some ⟨g, 0, none⟩) 1 1]).run Tryd.prog W = .ok v' w' ∧ w'.ownsRow M 3 1 v' (n + 1) (xs ++ [.int .i64 x]) ∧ W.grownBy w' v.ownBlock := by
  obtain ⟨i0, hi, hz0, hz1, hz2⟩ := info_parts infoI64
  obtain ⟨v', w', h1, h2, h3, _⟩ := run_append_own (P := Tryd.prog) W M 22 22 3 i0 _ 1 8 Tryd.underlying22 hi hz0 hz1 hz2 rfl (by decide) v n xs hown ⟨g, 0, none⟩ 1 1 [.int .i64 x] rfl
    (fun j u hu => by
      rw [Addr.add_lit, Nat.zero_add]
      exact obj_cell hg (by simpa using hu))
    (fun u hu => by simp at hu; rw [hu]; rfl) (by unfold maxLen; omega) (by omega) hB
  exact ⟨v', w', h1, h2, h3⟩
theorem Result.ok_val {α : Type} {a b : α} {w w' : World} (h : Result.ok a w = Result.ok b w') : a = b := by cases h; rfl
/-- .. and the new slice lies where the old one did, or in a new block -/
theorem run_moreInt2 (W : World) (M : Nat) (v : Value) (x : Int) (n : Nat) (xs : List Value) (hown : W.ownsRow M 3 1 v n xs) (g : Nat) (hg : W.heap[g]? = some (.cells #[.int .i64 x] 3 (0, 0))) (hn : n ≤ 1000000) (hB : M ≤ W.heap.size) :
    ∃ v' w', (Builtin.append_ #[22, 22] 22 #[v, .slice (some ⟨g, 0, none⟩) 1 1]).run Tryd.prog W = .ok v' w' ∧ w'.ownsRow M 3 1 v' (n + 1) (xs ++ [.int .i64 x]) ∧ W.grownBy w' v.ownBlock ∧ (∀ k, v'.ownBlock = some k → v.ownBlock = some k ∨ W.heap.size ≤ k) := by
  obtain ⟨v', w', h1, h2, h3⟩ := run_moreInt W M v x n xs hown g hg hn hB
  refine ⟨v', w', h1, h2, h3, ?_⟩
  obtain ⟨i0, hi, hz0, hz1, hz2⟩ := info_parts infoI64
  have hnews : ∀ j u, [Value.int .i64 x][j]? = some u → W.cell? ((⟨g, 0, none⟩ : Addr).add j) = some u := fun j u hu => by
    rw [Addr.add_lit, Nat.zero_add]
    exact obj_cell hg (by simpa using hu)
  rcases hown.2 with ⟨rfl, rfl⟩ | ⟨g', cap, cur, rfl, hbg, hgg, hnc, hcm, hcs, htake⟩
  · have hr := run_append_nil (P := Tryd.prog) W 22 22 3 i0 _ Tryd.underlying22 hi hz0 ⟨g, 0, none⟩ 1 1 [.int .i64 x] (by simp [hz1]) hnews (by omega) (by omega) (by rw [hz2]; omega)
    have e := Result.ok_val (h1.symm.trans hr)
    subst e
    intro k hk
    simp [Value.ownBlock] at hk
    exact .inr (by omega)
  · by_cases hroom : n + 1 ≤ cap
    · have hr := run_append_room (P := Tryd.prog) W 22 22 3 i0 Tryd.underlying22 hi g' n cap cur hgg ⟨g, 0, none⟩ 1 1 [.int .i64 x] (by simp [hz1]) hnews (fun u hu => by simp at hu; rw [hu]; rfl) hroom (by rw [hz1, hcs]; simp; omega)
      have e := Result.ok_val (h1.symm.trans hr)
      subst e
      intro k hk
      simp [Value.ownBlock] at hk ⊢
      exact .inl hk
    · have hr := run_append_grow (P := Tryd.prog) W 22 22 3 i0 _ Tryd.underlying22 hi hz0 ⟨g', 0, none⟩ n cap xs (by rw [hz1]; exact hown.1) (hown.cells (g := g') rfl) ⟨g, 0, none⟩ 1 1 [.int .i64 x] (by simp [hz1]) hnews (by omega) (by omega) (growslice_fits (by omega) (by rw [hz2]; omega))
      have e := Result.ok_val (h1.symm.trans hr)
      subst e
      intro k hk
      simp [Value.ownBlock] at hk
      exact .inr (by omega)
/-- two slices that do not share a block -/
def ApartV (v u : Value) : Prop := ∀ k, v.ownBlock = some k → u.ownBlock ≠ some k
theorem ApartV.symm {v u : Value} (h : ApartV v u) : ApartV u v := fun k hk e => h k e hk
theorem ApartV.nil (u : Value) : ApartV (.slice none 0 0) u := fun k hk => by simp [Value.ownBlock] at hk
/-- what was apart stays so, behind an append -/
theorem ApartV.more {W : World} {M n : Nat} {v v' u : Value} {xs : List Value} (h : ApartV v u) (hu : W.ownsRow M 3 1 u n xs) (hb : ∀ k, v'.ownBlock = some k → v.ownBlock = some k ∨ W.heap.size ≤ k) : ApartV v' u := fun k hk e => by
  rcases hb k hk with h1 | h1
  · exact h k h1 e
  · have := (hu.lt k e).2; omega
theorem ApartV.ne {v u : Value} (h : ApartV v u) : u.ownBlock = none ∨ u.ownBlock ≠ v.ownBlock := by
  cases hu : u.ownBlock with
  | none => exact .inl rfl
  | some k => exact .inr (fun e => h k e.symm hu)
/-- a row of ints of the call's own: its value, and its cells in every world that keeps them -/
theorem intRow_read {w : World} {M : Nat} {v : Value} {A : List Int} (h : w.ownsRow M 3 1 v A.length (A.map encI)) :
    ∃ (oa : Option Addr) (cap : Nat), v = .slice oa A.length cap ∧ ∀ (k : Nat) (x : Int), A[k]? = some x → ∃ g, oa = some ⟨g, 0, none⟩ ∧ M ≤ g ∧ g < w.heap.size ∧ w.cell? ⟨g, k, none⟩ = some (.int .i64 x) := by
  rcases Joins.ownsRow_forms h with ⟨rfl, h0⟩ | ⟨g, cap, rfl⟩
  · refine ⟨none, 0, by rw [h0], fun k x hx => ?_⟩
    rw [List.getElem?_eq_none (by omega)] at hx
    cases hx
  · refine ⟨_, cap, rfl, fun k x hx => ⟨g, rfl, (h.lt g rfl).1, (h.lt g rfl).2, ?_⟩⟩
    have hk := (List.getElem?_eq_some_iff.1 hx).1
    rw [h.cellAt k (by omega), List.getElem?_map, hx]
    rfl
theorem intRow_keep {w w' : World} {M n : Nat} {v : Value} {xs : List Value} (h : w.ownsRow M 3 1 v n xs) (hk : ∀ g o, w.heap[g]? = some (.cells o 3 (0, 0)) → M ≤ g → w'.heap[g]? = w.heap[g]?) : w'.ownsRow M 3 1 v n xs := by
  obtain ⟨h1, h2⟩ := h
  refine ⟨h1, ?_⟩
  rcases h2 with h2 | ⟨g, cap, cur, rfl, hb, hg, hc, hm, hs, ht⟩
  · exact .inl h2
  · exact .inr ⟨g, cap, cur, rfl, hb, by rw [hk g _ hg hb]; exact hg, hc, hm, hs, ht⟩
theorem intRow_below {w w' : World} {M n : Nat} {v : Value} {xs : List Value} (h : w.ownsRow M 3 1 v n xs) (k : Below w.heap.size w w') : w'.ownsRow M 3 1 v n xs :=
  intRow_keep h (fun g o hg _ => k.block g (lt_of_block hg))
/-- so many different numbers there are -/
theorem nodup_between : ∀ (n : Nat) (a : Int) (ks : List Int), ks.Nodup → (∀ j ∈ ks, a < j ∧ j ≤ a + n) → ks.length ≤ n
  | 0, a, ks, _, h => by
    cases ks with
    | nil => simp
    | cons x r => have := h x (by simp); omega
  | n + 1, a, ks, hn, h => by
    have q := nodup_between n a (ks.erase (a + (n + 1 : Nat))) (hn.erase _) (fun j hj => by
      rw [hn.mem_erase_iff] at hj
      have := h j hj.2
      have := hj.1
      omega)
    rw [List.length_erase] at q
    split at q <;> omega
theorem ints_read {w : World} {v : Value} {l : List Int} (h : IsInts w v l) : ∃ (oa : Option Addr) (c : Nat), v = .slice oa l.length c ∧ l.length ≤ maxLen ∧ ∀ k, k < l.length → ∃ b f, oa = some ⟨b, f, none⟩ ∧ b < w.heap.size ∧ w.cell? ⟨b, f + k, none⟩ = some (.int .i64 (l.getD k 0)) ∧ -9223372036854775808 ≤ l.getD k 0 ∧ l.getD k 0 ≤ 9223372036854775807 := by
  obtain ⟨h1, h2⟩ := h
  have hl := h1.len
  rcases h1 with ⟨rfl, oa, cap, rfl, r1, _⟩ | ⟨b2, f2, c2, rfl, r1, r2, r3⟩
  · exact ⟨oa, cap, rfl, hl, fun k hk => by simp at hk⟩
  · refine ⟨_, c2, rfl, hl, fun k hk => ⟨b2, f2, rfl, Sl.lt (r3 k hk), by rw [r3 k hk]; simp [List.getD, hk], ?_⟩⟩
    have e : l.getD k 0 = l[k] := by simp [List.getD, hk]
    rw [e]
    exact h2 _ (List.getElem_mem hk)
end Go.Proofs.YthbcdpckckellaaDoor
