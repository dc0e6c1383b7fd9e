import Derived.Test.YthgdkakkbaoccaaDoorWantRow
import Derived.Test.YthgdkakkbaoccaaDoorRecs
import Derived.Deep.QuietTactic
import Derived.BigQuiet
/-! choirsame.Wants, of two that read as the same. -/
namespace Go.Proofs.YthgdkakkbaoccaaDoor
open Go.RowKit
set_option linter.unusedVariables false
set_option linter.unusedSimpArgs false
set_option maxRecDepth 100000 in
set_option maxHeartbeats 2000000 in
theorem sameWants_eq (v1 v2 : Value) (M1 M2 : Nat) (L : List Wt) (hL : L.length ≤ 1000000) (w : World) (h1 : WRow w M1 v1 L) (h2 : WRow w M2 v2 L) :
    Calls Tryd.prog 47 #[v1, v2] w fun e w' => e = .returned (.bool true) ∧ ∃ n, w' = w.drewN n := by
  obtain ⟨o1, c1, rfl, g1⟩ := wantRow_read h1
  obtain ⟨o2, c2, rfl, g2⟩ := wantRow_read h2
  have G1 := Lib.hid g1
  have G2 := Lib.hid g2
  clear g1 g2 h1 h2
  go_enter Tryd.func47, Tryd.ntmps47
  go_wp2
  go_loopw [5] (fun i wr => ∃ k n : Nat, k ≤ L.length ∧ i = .int .i64 k ∧ wr = w.drewN n) (fun i _ => L.length - (RowKit.intOf i).toNat)
  case atStart => exact ⟨0, 0, by omega, rfl, rfl⟩
  case round =>
    obtain ⟨k, n, hk, rfl, rfl⟩ := hrel
    by_cases hlt : k < L.length
    · obtain ⟨g, rfl, _, _, q0, q1, q2⟩ := G1.out k L[k] (by simp [hlt])
      obtain ⟨g', rfl, _, _, p0, p1, p2⟩ := G2.out k L[k] (by simp [hlt])
      generalize L[k] = x at *
      obtain ⟨a0, a1, a2⟩ := x
      dsimp only at q0 q1 q2 p0 p1 p2
      go_wp2_with fail
      go_quiet (fail)
      go_wp2
      go_roundw
      case measure => simp [RowKit.intOf]; omega
      case rel => exact ⟨k + 1, _, by omega, by go_num, rfl⟩
    · have : k = L.length := by omega
      subst this
      go_wp2
      go_ret
      exact ⟨rfl, _, rfl⟩
end Go.Proofs.YthgdkakkbaoccaaDoor
