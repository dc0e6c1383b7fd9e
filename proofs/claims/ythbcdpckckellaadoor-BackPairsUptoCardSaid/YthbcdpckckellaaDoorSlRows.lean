import Derived.Test.YthbcdpckckellaaDoorSlice
import Derived.Test.YthbcdpckckellaaDoorRows
import Derived.WalkKit
import Derived.ProofKit
import Derived.RegionTactic
import Derived.ChangeAlike
import Derived.BigQuiet
import Derived.Deep.QuietTactic
/-! Slices of slices of integers; choirsame.Ints. -/
namespace Go.Proofs.YthbcdpckckellaaDoor
open Go.RowKit
set_option linter.unusedVariables false
set_option linter.unusedSimpArgs false
/-- v is a slice of slices of integers; l: their values, and what each reads as -/
def IsRows (w : World) (v : Value) (l : List (Value × List Int)) : Prop := Sl (fun x : Value × List Int => x.1) w v l ∧ ∀ x ∈ l, IsInts w x.1 x.2
/-- a slice that reads as a list: its value's form -/
theorem Sl.shape {α : Type} {enc : α → Value} {w : World} {v : Value} {l : List α} (h : Sl enc w v l) : ∃ (b off cap : Nat) (oa : Option Addr), v = .slice oa l.length cap ∧ (l ≠ [] → oa = some ⟨b, off, none⟩) ∧ ∀ i (h : i < l.length), w.cell? ⟨b, off + i, none⟩ = some (enc l[i]) := by
  rcases h with ⟨rfl, oa, cap, rfl, h1, h2⟩ | ⟨b, off, cap, rfl, h1, h2, h3⟩
  · exact ⟨0, 0, cap, oa, rfl, fun h => absurd rfl h, fun i h => by simp at h⟩
  · exact ⟨b, off, cap, _, rfl, fun _ => rfl, h3⟩
set_option maxRecDepth 100000 in
set_option maxHeartbeats 1000000 in
/-- two slices that read as one list -/
theorem sameInts_eq (v1 v2 : Value) (l : List Int) (w : World) (h1 : Sl encI w v1 l) (h2 : Sl encI w v2 l) :
    Calls Tryd.prog 10 #[v1, v2] w fun e w' => e = .returned (.bool true) ∧ ∃ n, w' = w.drewN n := by
  have hm := h1.len
  unfold maxLen at hm
  obtain ⟨b1, o1, c1, oa1, rfl, n1, g1⟩ := h1.shape
  obtain ⟨b2, o2, c2, oa2, rfl, n2, g2⟩ := h2.shape
  clear h1 h2
  rcases Nat.eq_zero_or_pos l.length with hl | hl
  · rw [hl]
    clear n1 n2 g1 g2
    go_enter Tryd.func10, Tryd.ntmps10
    go_wp2
    refine wp_loop_once ?_
    go_wp2
    go_ret
    exact ⟨rfl, 0, rfl⟩
  · have hne : l ≠ [] := by rintro rfl; simp at hl
    obtain rfl := n1 hne
    obtain rfl := n2 hne
    have G1 := Lib.hid g1
    have G2 := Lib.hid g2
    clear g1 g2 n1 n2
    go_enter Tryd.func10, Tryd.ntmps10
    go_wp2
    go_loopw [5] (fun i wr => ∃ k n : Nat, k ≤ l.length ∧ i = .int .i64 k ∧ wr = w.drewN n) (fun i _ => l.length - (intOf i).toNat)
    case atStart => exact ⟨0, 0, by omega, rfl, rfl⟩
    case round =>
      obtain ⟨k, n, hk, rfl, rfl⟩ := hrel
      by_cases hlt : k < l.length
      · have q1 := G1.out k hlt
        have q2 := G2.out k hlt
        generalize l[k] = x at *
        go_wp2_with fail
        go_quiet (fail)
        go_wp2
        go_roundw
        case measure => simp [intOf]; omega
        case rel => exact ⟨k + 1, _, by omega, by go_num, rfl⟩
      · have : k = l.length := by omega
        subst this
        go_wp2
        go_ret
        exact ⟨rfl, _, rfl⟩
end Go.Proofs.YthbcdpckckellaaDoor
