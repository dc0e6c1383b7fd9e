import Derived.Test.YtggfhcidmnageaaDoorRefSerial
import Derived.Test.YtggfhcidmnageaaDoorCheck
/-! The reference's look at a packet. -/
namespace Go.Proofs.YtggfhcidmnageaaDoor
open Go.RowKit
set_option linter.unusedVariables false
set_option linter.unusedSimpArgs false

def Pl.wordB (n : Int) : Bool := decide (0 ≤ n ∧ n ≤ 4294967295)
theorem Pl.wordB_iff (n : Int) : Pl.wordB n = true ↔ 0 ≤ n ∧ n ≤ 4294967295 := by simp [Pl.wordB]
theorem rWord_any (n : Int) (w : World) :
    Calls Tryd.prog 21 #[.int .i64 n] w fun e w' => e = .returned (.bool (Pl.wordB n)) ∧ w = w' := by
  go_enter Tryd.func21, Tryd.ntmps21
  go_wp2
  all_goals (go_ret; exact ⟨by simp [Pl.wordB, *]; try omega, rfl⟩)

set_option maxHeartbeats 2000000 in
theorem refPk_any (s t l lv : Int) (st : Bool) (oa : Option Addr) (n c : Nat) (hn : n ≤ maxLen) (w : World) :
    Calls Tryd.prog 11 #[pkV s t l lv st (.slice oa n c)] w fun e w' => e = .returned (.int .i64 (Pl.pkFault s t l lv n)) ∧ Below w.heap.size w w' := by
  unfold maxLen at hn
  have F1 := Lib.hid (show ¬ (0 ≤ s ∧ s ≤ 65535 ∧ 0 ≤ t ∧ t ≤ 4294967295 ∧ 0 ≤ l ∧ l ≤ 3 ∧ 0 ≤ lv ∧ lv ≤ 127) → 1 = Pl.pkFault s t l lv n from fun h => by unfold Pl.pkFault; rw [if_neg h])
  have F4 := Lib.hid (show (0 ≤ s ∧ s ≤ 65535 ∧ 0 ≤ t ∧ t ≤ 4294967295 ∧ 0 ≤ l ∧ l ≤ 3 ∧ 0 ≤ lv ∧ lv ≤ 127) → 1000 < n → 4 = Pl.pkFault s t l lv n from fun h' h => by unfold Pl.pkFault; rw [if_pos h', if_neg (by omega)])
  have F0 := Lib.hid (show (0 ≤ s ∧ s ≤ 65535 ∧ 0 ≤ t ∧ t ≤ 4294967295 ∧ 0 ≤ l ∧ l ≤ 3 ∧ 0 ≤ lv ∧ lv ≤ 127) → n ≤ 1000 → 0 = Pl.pkFault s t l lv n from fun h' h => by unfold Pl.pkFault; rw [if_pos h', if_pos h])
  have HS := Lib.hid (Pl.seq_iff s)
  have HT := Lib.hid (Pl.wordB_iff t)
  cases hs : Pl.seq s <;> cases ht : Pl.wordB t
  all_goals
    have hs' : Hid (Pl.seq s = _) := hs
    have ht' : Hid (Pl.wordB t = _) := ht
    go_enter Tryd.func11, Tryd.ntmps11
    go_wp2_with (first
      | (go_at_call 20; refine (rSeq_any _ _).mono ?_; rintro e w' ⟨rfl, rfl⟩)
      | (go_at_call 21; refine (rWord_any _ _).mono ?_; rintro e w' ⟨rfl, rfl⟩))
    all_goals
      have e1 := HS.out
      have e2 := HT.out
      rw [hs'.out] at e1
      rw [ht'.out] at e2
      simp at e1 e2
      go_ret
      refine ⟨?_, (Below.refl _ _).alloc (Nat.le_refl _) _⟩
      first
        | exact congrArg (fun x => Ending.returned (Value.int .i64 x)) (F1.out (by omega))
        | exact congrArg (fun x => Ending.returned (Value.int .i64 x)) (F4.out (by omega) (by omega))
        | exact congrArg (fun x => Ending.returned (Value.int .i64 x)) (F0.out (by omega) (by omega))
end Go.Proofs.YtggfhcidmnageaaDoor
