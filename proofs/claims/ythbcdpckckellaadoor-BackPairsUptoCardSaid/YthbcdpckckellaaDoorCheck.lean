import Derived.Test.YthbcdpckckellaaDoorSerial
import Derived.Test.YthbcdpckckellaaDoorWorld
import Derived.WalkKit
import Derived.ProofKit
import Derived.Outline
/-! The contract of pack.Check: what is wrong with a packet. -/
namespace Go.Proofs.YthbcdpckckellaaDoor
open Go.RowKit
set_option linter.unusedVariables false
set_option linter.unusedSimpArgs false

/-- a packet as a value -/
abbrev pkV (s t l lv : Int) (st : Bool) (body : Value) : Value := .agg #[.int .i64 s, .int .i64 t, .int .i64 l, .int .i64 lv, .bool st, body]
namespace Pl
def pkOk (s t l lv : Int) (n : Nat) : Prop := 0 ≤ s ∧ s ≤ 65535 ∧ 0 ≤ t ∧ t ≤ 4294967295 ∧ 0 ≤ l ∧ l ≤ 3 ∧ 0 ≤ lv ∧ lv ≤ 127 ∧ n ≤ 1000
instance (s t l lv : Int) (n : Nat) : Decidable (pkOk s t l lv n) := by unfold pkOk; infer_instance
/-- the fault of a packet: 0, 1 or 4 -/
def pkFault (s t l lv : Int) (n : Nat) : Int := if 0 ≤ s ∧ s ≤ 65535 ∧ 0 ≤ t ∧ t ≤ 4294967295 ∧ 0 ≤ l ∧ l ≤ 3 ∧ 0 ≤ lv ∧ lv ≤ 127 then (if n ≤ 1000 then 0 else 4) else 1
theorem pkFault_ok {s t l lv : Int} {n : Nat} (h : pkOk s t l lv n) : pkFault s t l lv n = 0 := by
  unfold pkOk at h; unfold pkFault; rw [if_pos (by omega), if_pos (by omega)]
theorem pkFault_bad {s t l lv : Int} {n : Nat} (h : ¬ pkOk s t l lv n) : pkFault s t l lv n = 1 ∨ pkFault s t l lv n = 4 := by
  unfold pkOk at h; unfold pkFault
  split
  · right; rw [if_neg (by omega)]
  · left; rfl
end Pl

end Go.Proofs.YthbcdpckckellaaDoor
