import Derived.Test.YtefhbjkhmfmkaaaDoorVc
import Derived.Deep.QuietTactic
import Derived.BigQuiet
/-! choirsame.Voices, of two that read as the same. -/
namespace Go.Proofs.YtefhbjkhmfmkaaaDoor
open Go.RowKit
set_option linter.unusedVariables false
set_option linter.unusedSimpArgs false
set_option maxRecDepth 100000 in
set_option maxHeartbeats 2000000 in
theorem sameVcs_eq (v1 v2 : Value) (L : List Vc) (w : World) (h1 : IsVs w v1 L) (h2 : IsVs w v2 L) :
    Calls Tryd.prog 9 #[v1, v2] w fun e w' => e = .returned (.bool true) ∧ ∃ n, w' = w.drewN n := by
  obtain ⟨o1, c1, rfl, l1, m1, -, g1⟩ := vs_read h1
  obtain ⟨o2, c2, rfl, l2, m2, -, g2⟩ := vs_read h2
  have G1 := Lib.hid g1
  have G2 := Lib.hid g2
  unfold maxLen at m1 m2
  clear g1 g2 h1 h2
  go_enter Tryd.func9, Tryd.ntmps9
  go_wp2
  go_loopw [5] (fun i wr => ∃ k n : Nat, k ≤ L.length ∧ i = .int .i64 k ∧ wr = w.drewN n) (fun i _ => L.length - (RowKit.intOf i).toNat)
  case atStart => exact ⟨0, 0, by omega, rfl, rfl⟩
  case round =>
    obtain ⟨k, n, hk, rfl, rfl⟩ := hrel
    by_cases hlt : k < L.length
    · obtain ⟨g, f, rfl, _, q0, q1, _⟩ := G1.out k hlt
      obtain ⟨g', f', rfl, _, p0, p1, _⟩ := G2.out k hlt
      generalize L[k] = x at *
      obtain ⟨a0, a1⟩ := x
      dsimp only at q0 q1 p0 p1
      go_wp2_with fail
      go_quiet (fail)
      go_wp2
      go_roundw
      case measure => simp [RowKit.intOf]; omega
      case rel => exact ⟨k + 1, _, by omega, by go_num, rfl⟩
    · have : k = L.length := by omega
      subst this
      go_wp2
      go_ret
      exact ⟨rfl, _, rfl⟩
theorem sameVcs_b (v1 v2 : Value) (L : List Vc) (w : World) (h1 : IsVs w v1 L) (h2 : IsVs w v2 L) :
    Calls Tryd.prog 9 #[v1, v2] w fun e w' => e = .returned (.bool true) ∧ Below w.heap.size w w' :=
  (sameVcs_eq v1 v2 L w h1 h2).mono fun e w' ⟨h, n, hn⟩ => ⟨h, by rw [hn]; exact Below.drewN (Below.refl _ _) n⟩
end Go.Proofs.YtefhbjkhmfmkaaaDoor
