import Derived.Test.YtfpmekphkippdaaAppend
import Derived.Test.YtfpmekphkippdaaSlRows
import Derived.Test.YtfpmekphkippdaaIntRow
import Derived.Test.YtfpmekphkippdaaRows
import Derived.Lib.LazyBuf
import Derived.WalkKit
import Derived.ProofKit
import Derived.RegionTactic
import Derived.ChangeAlike
/-! slices.Clone of ints. -/
namespace Go.Proofs.Ytfpmekphkippdaa
open Go.RowKit
set_option linter.unusedVariables false
set_option linter.unusedSimpArgs false

theorem nilInts (a : Option Addr) (n c : Nat) (w : World) : (binOp .eql 22 (.slice a n c) (.slice none 0 0)).run Try.prog w = .ok (.bool a.isNone) w :=
  run_eql_slice_nil w _ _ a n c Try.underlying22

theorem owned_ints {w : World} {base : Nat} {v : Value} {l : List Int} (h : w.ownsRow base 3 1 v l.length (l.map encI)) : Sl encI w v l := by
  obtain ⟨h1, h2⟩ := h
  rcases h2 with ⟨rfl, h0⟩ | ⟨g, cap, cur, rfl, _, hg, hc, hm, hs, ht⟩
  · have : l = [] := List.eq_nil_of_length_eq_zero h0
    subst this
    exact Sl.nil _
  · refine .inr ⟨g, 0, cap, rfl, hc, hm, fun i hi => ?_⟩
    have e : cur[i]? = some (encI l[i]) := by
      have h3 : (cur.toList.take (l.length * 1))[i]? = (l.map encI)[i]? := by rw [ht]
      rw [List.getElem?_take, if_pos (by omega)] at h3
      simpa [hi] using h3
    rw [Nat.zero_add]
    exact obj_cell hg e

/-- .. and stays so where only older blocks are written -/
theorem owned_ints2 {w W : World} {base B : Nat} {v : Value} {l : List Int} (h : w.ownsRow base 3 1 v l.length (l.map encI)) (hB : B ≤ base) (hk : Keeps (fun k => k < B) w W) : Sl encI W v l := by
  obtain ⟨h1, h2⟩ := h
  rcases h2 with ⟨rfl, h0⟩ | ⟨g, cap, cur, rfl, hb, hg, hc, hm, hs, ht⟩
  · have : l = [] := List.eq_nil_of_length_eq_zero h0
    subst this
    exact Sl.nil _
  · exact owned_ints (base := base) ⟨h1, .inr ⟨g, cap, cur, rfl, hb, hk.heap hg (by omega), hc, hm, hs, ht⟩⟩

set_option maxHeartbeats 1000000 in
theorem cloneI_any (v : Value) (l : List Int) (w : World) (hv : Sl encI w v l) (hl : l.length ≤ 100000000000) :
    Calls Try.prog 9 #[v] w fun e w' => ∃ v', e = .returned v' ∧ (∀ W, Keeps (fun k => k < w.heap.size) w' W → Sl encI W v' l) ∧ Below w.heap.size w w' := by
  obtain ⟨i0, hi, hz0, hz1, hz2⟩ := info_parts infoI64
  have enil := nilInts
  rcases hv with ⟨rfl, oa, cap, rfl, hm, hn⟩ | ⟨b, off, cap, rfl, hlc, hm, hc⟩
  · rcases oa with _ | a
    · have := hn rfl
      subst this
      go_enter Try.func9, Try.ntmps9
      go_wp2
      go_ret
      exact ⟨_, rfl, fun _ _ => Sl.nil _, Below.refl _ _⟩
    · go_enter Try.func9, Try.ntmps9
      go_wp2_with (at_builtin; refine Lib.wpList_append_run _ rfl (.tmp 5) (.tmp 6) 22 22 rfl _ _ rfl rfl _ _ (run_clone_none _ 22 _ 3 i0 Try.underlying22 hi _ _ cap) ?_)
      go_ret
      refine ⟨_, rfl, fun _ _ => Sl.empty (by unfold maxLen; omega) (by simp), ?_⟩
      first | exact Below.refl _ _ | exact (Below.refl _ _).alloc (Nat.le_refl _) _
  · by_cases h0 : l = []
    · subst h0
      go_enter Try.func9, Try.ntmps9
      go_wp2_with (at_builtin; refine Lib.wpList_append_run _ rfl (.tmp 5) (.tmp 6) 22 22 rfl _ _ rfl rfl _ _ (run_clone_none _ 22 _ 3 i0 Try.underlying22 hi _ _ cap) ?_)
      go_ret
      refine ⟨_, rfl, fun _ _ => Sl.empty (by unfold maxLen; omega) (by simp), ?_⟩
      first | exact Below.refl _ _ | exact (Below.refl _ _).alloc (Nat.le_refl _) _
    · have hp : 0 < l.length := List.length_pos_iff.2 h0
      have hb : b < w.heap.size := Sl.lt (hc 0 hp)
      have hcell : ∀ W : World, Below w.heap.size w W → ∀ (j : Nat) u, (l.map encI)[j]? = some u → W.cell? ((⟨b, off, none⟩ : Addr).add j) = some u := by
        intro W hW j u hu
        have hj : j < l.length := by have := (List.getElem?_eq_some_iff.1 hu).1; simpa using this
        rw [Addr.add_lit, hW.cell (p := ⟨b, off + j, none⟩) hb, hc j hj]
        simpa [hj] using hu
      have run := fun (W : World) (hW : Below w.heap.size w W) (base : Option Addr) => run_clone_own (P := Try.prog) W 22 22 3 i0 (.int .i64 0) 1 8 Try.underlying22 hi hz0 hz1 hz2 rfl (by decide) base ⟨b, off, none⟩ l.length cap (l.map encI) (by simp) (hcell W hW) (by intro u hu; obtain ⟨x, _, rfl⟩ := List.mem_map.1 hu; rfl) (by unfold maxLen; omega) (by omega) hp
      have Run := Lib.hid run
      have key : ∀ (W : World) (hW : Below w.heap.size w W) v' w', w'.ownsRow W.heap.size 3 1 v' l.length (l.map encI) → W.grownBy w' none → (∀ W2, Keeps (fun k => k < w.heap.size) w' W2 → Sl encI W2 v' l) ∧ Below w.heap.size w w' := fun W hW v' w' h1 h2 => ⟨fun W2 hk => owned_ints2 h1 hW.size hk, hW.trans ((below_grown h2).mono hW.size)⟩
      have Key := Lib.hid key
      clear run key hcell hc
      go_enter Try.func9, Try.ntmps9
      go_wp2_with (at_builtin; obtain ⟨v', w', hr, ho, hg⟩ := Run.out (w.alloc (.cells #[] 3)) ((Below.refl _ _).alloc (Nat.le_refl _) _) (some ⟨w.heap.size, 0, none⟩); refine Lib.wpList_append_run _ rfl (.tmp 5) (.tmp 6) 22 22 rfl _ _ rfl rfl _ _ hr ?_)
      go_ret
      exact ⟨_, rfl, Key.out _ ((Below.refl _ _).alloc (Nat.le_refl _) _) _ _ ho hg⟩
end Go.Proofs.Ytfpmekphkippdaa
