import Derived.Test.YtcicfchpcbfdkaaGreatDoorWorld
import Derived.Test.YtcicfchpcbfdkaaGreatDoorRows
import Derived.WalkKit
import Derived.ProofKit
import Derived.RegionTactic
import Derived.ChangeAlike
/-! Contracts of the clock of package gaps. -/
namespace Go.Proofs.YtcicfchpcbfdkaaGreatDoor
open Go.RowKit
set_option linter.unusedVariables false
set_option linter.unusedSimpArgs false

theorem abs_at {P : Program} {c : Code} {Q : Exit → Act → World → Prop} {a : Act} {W : World} (S : World → Prop) (h : S W) (k : ∀ wq, S wq → c.wp P Q a wq) : c.wp P Q a W := k W h
/-- a time may be, and does not go back -/
def Pl.clockOk (cur now : Int) : Prop := 0 ≤ now ∧ now ≤ 1000000 ∧ cur ≤ now
def Pl.clockFault (now : Int) : Int := if now < 0 ∨ 1000000 < now then 1 else 6

theorem clockCheck_ok (b k : Nat) (cur now : Int) (h : Pl.clockOk cur now) (w : World) (hc : w.cell? ⟨b, k, none⟩ = some (.int .i64 cur)) :
    Calls Tryz.prog 27 #[.pointer (some ⟨b, k, none⟩), .int .i64 now] w fun e w' => e = .returned .nilIface ∧ w = w' := by
  obtain ⟨h1, h2, h3⟩ := h
  go_enter Tryz.func27, Tryz.ntmps27
  go_wp2
  go_ret
  exact ⟨rfl, rfl⟩
theorem clockCheck_bad (b k : Nat) (cur now : Int) (h : ¬ Pl.clockOk cur now) (w : World) (hc : w.cell? ⟨b, k, none⟩ = some (.int .i64 cur)) :
    Calls Tryz.prog 27 #[.pointer (some ⟨b, k, none⟩), .int .i64 now] w fun e w' => e = .returned (.iface 62 (.int .i64 (Pl.clockFault now))) ∧ w = w' := by
  have f1 := Lib.hid (show (now < 0 ∨ 1000000 < now) → 1 = Pl.clockFault now from fun h => by unfold Pl.clockFault; rw [if_pos h])
  have f6 := Lib.hid (show ¬ (now < 0 ∨ 1000000 < now) → 6 = Pl.clockFault now from fun h => by unfold Pl.clockFault; rw [if_neg h])
  have G := Lib.hid h
  clear h
  go_enter Tryz.func27, Tryz.ntmps27
  go_wp2
  all_goals first
    | (exfalso; exact G.out ⟨by omega, by omega, by omega⟩)
    | (go_ret; exact ⟨congrArg (fun x => Ending.returned (Value.iface 62 (.int .i64 x))) (f1.out (by omega)), rfl⟩)
    | (go_ret; exact ⟨congrArg (fun x => Ending.returned (Value.iface 62 (.int .i64 x))) (f6.out (by omega)), rfl⟩)
theorem clockSet_any (b k : Nat) (now : Int) (v : Value) (w : World) (hc : w.cell? ⟨b, k, none⟩ = some v) (hf : w.frozen? ⟨b, k, none⟩ = false) :
    Calls Tryz.prog 30 #[.pointer (some ⟨b, k, none⟩), .int .i64 now] w fun e w' => e = .returned (.tuple #[]) ∧ w' = w.setCell ⟨b, k, none⟩ (.int .i64 now) := by
  go_enter Tryz.func30, Tryz.ntmps30
  go_wp2
  go_end0
  exact ⟨rfl, rfl⟩
end Go.Proofs.YtcicfchpcbfdkaaGreatDoor
