import Derived.Test.YthbcdpckckellaaDoorSerial
import Derived.Below
import Derived.Lib.Hide
/-! Contracts of the reference's functions of chapter 1 (numbers). -/
namespace Go.Proofs.YthbcdpckckellaaDoor
open Go.RowKit
set_option linter.unusedVariables false
set_option linter.unusedSimpArgs false

theorem rSeq_any (n : Int) (w : World) :
    Calls Tryd.prog 16 #[.int .i64 n] w fun e w' => e = .returned (.bool (Pl.seq n)) ∧ w = w' := by
  go_enter Tryd.func16, Tryd.ntmps16
  go_wp2
  all_goals (go_ret; exact ⟨by simp [Pl.seq, *]; try omega, rfl⟩)



end Go.Proofs.YthbcdpckckellaaDoor
