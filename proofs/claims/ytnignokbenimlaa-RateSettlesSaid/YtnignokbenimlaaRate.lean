import Derived.Test.YtnignokbenimlaaWorld
import Derived.Test.YtnignokbenimlaaRows
import Derived.WalkKit
import Derived.ProofKit
import Derived.Outline
import Derived.RegionTactic
import Derived.ChangeAlike
/-! Contracts of package rate: the guess. -/
namespace Go.Proofs.Ytnignokbenimlaa
open Go.RowKit
set_option linter.unusedVariables false
set_option linter.unusedSimpArgs false

namespace Pl
def rateOk (n : Int) : Bool := decide (1 ≤ n ∧ n ≤ 1000000)
def report (r l h lost all : Int) : Int :=
  let x := if all < 10 * lost then r - r * lost / (2 * all) else if 50 * lost < all then r + (r / 20 + 1) else r
  min h (max l x)
end Pl
/-- a guess in memory -/
def GuessAt (w : World) (b : Nat) (r l h : Int) : Prop := w.heap[b]? = some (.cells #[.int .i64 r, .int .i64 l, .int .i64 h] 49 (0, 0))

set_option maxHeartbeats 1000000 in
theorem rateNew_ok (r l h : Int) (h1 : 1 ≤ l) (h2 : l ≤ r) (h3 : r ≤ h) (h4 : h ≤ 1000000) (w : World) :
    Calls Try.prog 12 #[.int .i64 r, .int .i64 l, .int .i64 h] w fun e w' => ∃ b, e = .returned (.tuple #[.pointer (some ⟨b, 0, none⟩), .nilIface]) ∧ w.heap.size ≤ b ∧ GuessAt w' b r l h ∧ Below w.heap.size w w' := by
  go_enter Try.func12, Try.ntmps12
  go_wp2
  go_loop [15] (fun i => ∃ k : Nat, k ≤ 3 ∧ i = .int .i64 k) (fun i => 3 - (intOf i).toNat)
  case atStart => exact ⟨0, by omega, rfl⟩
  case round =>
    obtain ⟨k, hk, rfl⟩ := hrel
    have hq : k = 0 ∨ k = 1 ∨ k = 2 ∨ k = 3 := by omega
    rcases hq with rfl | rfl | rfl | rfl
    · go_wp2
      go_round
      case rel => exact ⟨1, by omega, rfl⟩
      case measure => simp [intOf]
    · go_wp2
      go_round
      case rel => exact ⟨2, by omega, rfl⟩
      case measure => simp [intOf]
    · go_wp2
      go_round
      case rel => exact ⟨3, by omega, rfl⟩
      case measure => simp [intOf]
    · go_wp2
      go_ret2
      exact ⟨_, rfl, by omega, by have := obj_new (w.alloc (.cells #[.int .i64 r, .int .i64 l, .int .i64 h] 3)) (.cells #[.int .i64 r, .int .i64 l, .int .i64 h] 49); simpa [GuessAt] using this, ((Below.refl _ _).alloc (Nat.le_refl _) _).alloc (by simp) _⟩

/-- what is wrong with a guess's beginning -/
def Pl.newFault (r l h : Int) : Int := if r < 1 ∨ 1000000 < r ∨ l < 1 ∨ 1000000 < l ∨ h < 1 ∨ 1000000 < h then 1 else 3
set_option maxHeartbeats 4000000 in
theorem rateNew_bad (r l h : Int) (hb : ¬ (1 ≤ l ∧ l ≤ r ∧ r ≤ h ∧ h ≤ 1000000)) (w : World) :
    Calls Try.prog 12 #[.int .i64 r, .int .i64 l, .int .i64 h] w fun e w' => e = .returned (.tuple #[.pointer none, .iface 37 (.int .i64 (Pl.newFault r l h))]) ∧ Below w.heap.size w w' := by
  have f1 : (r < 1 ∨ 1000000 < r ∨ l < 1 ∨ 1000000 < l ∨ h < 1 ∨ 1000000 < h) → 1 = Pl.newFault r l h := fun h => by unfold Pl.newFault; rw [if_pos h]
  have f3 : ¬ (r < 1 ∨ 1000000 < r ∨ l < 1 ∨ 1000000 < l ∨ h < 1 ∨ 1000000 < h) → 3 = Pl.newFault r l h := fun h => by unfold Pl.newFault; rw [if_neg h]
  have F1 := Lib.hid f1
  have F3 := Lib.hid f3
  clear f1 f3
  go_enter Try.func12, Try.ntmps12
  go_wp2
  go_loop [15] (fun i => ∃ k : Nat, k ≤ 3 ∧ i = .int .i64 k ∧ (0 < k → 1 ≤ r ∧ r ≤ 1000000) ∧ (1 < k → 1 ≤ l ∧ l ≤ 1000000) ∧ (2 < k → 1 ≤ h ∧ h ≤ 1000000)) (fun i => 3 - (intOf i).toNat)
  case atStart => exact ⟨0, by omega, rfl, by omega, by omega, by omega⟩
  case round =>
    obtain ⟨k, hk, rfl, q1, q2, q3⟩ := hrel
    have hq : k = 0 ∨ k = 1 ∨ k = 2 ∨ k = 3 := by omega
    rcases hq with rfl | rfl | rfl | rfl
    · clear q1 q2 q3
      go_wp2
      all_goals first
        | (go_round
           case rel => exact ⟨1, by omega, rfl, by omega, by omega, by omega⟩
           case measure => simp [intOf])
        | (go_ret2
           exact ⟨congrArg (fun x => Ending.returned (Value.tuple #[.pointer none, .iface 37 (.int .i64 x)])) (F1.out (by omega)), (Below.refl _ _).alloc (Nat.le_refl _) _⟩)
    · have q := q1 (by omega)
      clear q1 q2 q3
      go_wp2
      all_goals first
        | (go_round
           case rel => exact ⟨2, by omega, rfl, by omega, by omega, by omega⟩
           case measure => simp [intOf])
        | (go_ret2
           exact ⟨congrArg (fun x => Ending.returned (Value.tuple #[.pointer none, .iface 37 (.int .i64 x)])) (F1.out (by omega)), (Below.refl _ _).alloc (Nat.le_refl _) _⟩)
    · have q := q1 (by omega)
      have q' := q2 (by omega)
      clear q1 q2 q3
      go_wp2
      all_goals first
        | (go_round
           case rel => exact ⟨3, by omega, rfl, by omega, by omega, by omega⟩
           case measure => simp [intOf])
        | (go_ret2
           exact ⟨congrArg (fun x => Ending.returned (Value.tuple #[.pointer none, .iface 37 (.int .i64 x)])) (F1.out (by omega)), (Below.refl _ _).alloc (Nat.le_refl _) _⟩)
    · have q := q1 (by omega)
      have q' := q2 (by omega)
      have q'' := q3 (by omega)
      clear q1 q2 q3
      go_wp2
      all_goals first
        | (exfalso; omega)
        | (go_ret2
           exact ⟨congrArg (fun x => Ending.returned (Value.tuple #[.pointer none, .iface 37 (.int .i64 x)])) (F3.out (by omega)), (Below.refl _ _).alloc (Nat.le_refl _) _⟩)

theorem GuessAt.set0 {w : World} {b : Nat} {r l h : Int} (hg : GuessAt w b r l h) (v : Int) : GuessAt (w.setCell ⟨b, 0, none⟩ (.int .i64 v)) b v l h := obj_set hg 0 _
set_option maxHeartbeats 1000000 in
theorem rateReport_ok (b : Nat) (r l h lost all : Int) (h1 : 1 ≤ l) (h2 : l ≤ r) (h3 : r ≤ h) (h4 : h ≤ 1000000) (a1 : 1 ≤ all) (a2 : all ≤ 1000000) (c1 : 0 ≤ lost) (c2 : lost ≤ all) (w : World) (hg : GuessAt w b r l h) :
    Calls Try.prog 13 #[.pointer (some ⟨b, 0, none⟩), .int .i64 lost, .int .i64 all] w fun e w' => e = .returned (.tuple #[.int .i64 (Pl.report r l h lost all), .nilIface]) ∧ GuessAt w' b (Pl.report r l h lost all) l h ∧ KeepsBut b w w' := by
  have k0 := obj_cell hg (k := 0) rfl
  have k1 := obj_cell hg (k := 1) rfl
  have k2 := obj_cell hg (k := 2) rfl
  have f0 := obj_free hg 0
  go_enter Try.func13, Try.ntmps13
  have p0 : 0 ≤ r * lost := Int.mul_nonneg (by omega) c1
  have p1 : r * lost ≤ 1000000 * 1000000 := Int.mul_le_mul (by omega) (by omega) c1 (by omega)
  have q0 : 0 ≤ r * lost / (2 * all) := Int.ediv_nonneg p0 (by omega)
  have q1 : r * lost / (2 * all) ≤ r := by
    have h5 : r * lost ≤ r * (2 * all) := Int.mul_le_mul_of_nonneg_left (by omega) (by omega)
    have h6 := Int.ediv_le_ediv (c := 2 * all) (by omega) h5
    rwa [Int.mul_ediv_cancel _ (by omega)] at h6
  have fin : ∀ x, x = Pl.report r l h lost all → ∀ w2, GuessAt w2 b x l h → KeepsBut b w w2 → (Ending.returned (.tuple #[.int .i64 x, .nilIface]) = .returned (.tuple #[.int .i64 (Pl.report r l h lost all), .nilIface]) ∧ GuessAt w2 b (Pl.report r l h lost all) l h ∧ KeepsBut b w w2) := by
    rintro x rfl w2 g1 g2
    exact ⟨rfl, g1, g2⟩
  have Fin := Lib.hid fin
  clear fin
  by_cases d1 : all < 10 * lost
  · go_wp2
    go_region
    go_wp2
    go_region
    go_wp2
    all_goals
      go_ret2
      exact Fin.out _ (by unfold Pl.report; rw [if_pos d1]; dsimp only; omega) _ (GuessAt.set0 (GuessAt.set0 hg _) _) (Keeps.drew (Keeps.drew (((KeepsBut.refl b _).set _ _).set _ _)))
  · by_cases d2 : 50 * lost < all
    · go_wp2
      go_region
      go_wp2
      go_region
      go_wp2
      all_goals
        go_ret2
        exact Fin.out _ (by unfold Pl.report; rw [if_neg (show ¬ (all < 10 * lost) by omega), if_pos d2]; dsimp only; omega) _ (GuessAt.set0 (GuessAt.set0 hg _) _) (Keeps.drew (Keeps.drew (((KeepsBut.refl b _).set _ _).set _ _)))
    · go_wp2
      go_region
      go_wp2
      all_goals
        go_ret2
        exact Fin.out _ (by unfold Pl.report; rw [if_neg (show ¬ (all < 10 * lost) by omega), if_neg (show ¬ (50 * lost < all) by omega)]; dsimp only; omega) _ (GuessAt.set0 hg _) (Keeps.drew ((KeepsBut.refl b _).set _ _))

theorem rateRate_any (b : Nat) (r l h : Int) (w : World) (hg : GuessAt w b r l h) :
    Calls Try.prog 14 #[.pointer (some ⟨b, 0, none⟩)] w fun e w' => e = .returned (.int .i64 r) ∧ w = w' := by
  have k0 := obj_cell hg (k := 0) rfl
  go_enter Try.func14, Try.ntmps14
  go_wp2
  go_ret
  exact ⟨rfl, rfl⟩
end Go.Proofs.Ytnignokbenimlaa
