import Derived.Test.YtcicfchpcbfdkaaGreatDoorCheck
import Derived.RegionTactic
import Derived.ChangeAlike
/-! Contracts of package layer. -/
namespace Go.Proofs.YtcicfchpcbfdkaaGreatDoor
open Go.RowKit
set_option linter.unusedVariables false
set_option linter.unusedSimpArgs false

/-- a layer in memory -/
def LayerAt (w : World) (b : Nat) (most now last : Int) (broken : Bool) : Prop := w.heap[b]? = some (.cells #[.int .i64 most, .int .i64 now, .int .i64 last, .bool broken] 182 (0, 0))
/-- an item as a value -/
abbrev itV (num : Int) (gone : Bool) (s t l lv : Int) (st : Bool) (body : Value) : Value := .agg #[.int .i64 num, .bool gone, .int .i64 s, .int .i64 t, .int .i64 l, .int .i64 lv, .bool st, body]
namespace Pl
def wants (most now : Int) (broken : Bool) : Bool := decide (now < 0) || broken || decide (most < now)
/-- what an item that is right comes to: goes it through; the layer; is it broken -/
def take (most now : Int) (broken gone : Bool) (l : Int) (st : Bool) : Bool × Int × Bool :=
  if gone then (false, now, broken || decide (0 ≤ now))
  else if most < l then (false, now, broken)
  else if st = false then (decide (l = now) && !broken, now, broken)
  else if now ≤ l ∨ broken = true ∨ most < now then (true, l, false) else (false, now, broken)
end Pl

theorem layerOk_any (n : Int) (w : World) :
    Calls Tryz.prog 93 #[.int .i64 n] w fun e w' => e = .returned (.bool (decide (0 ≤ n ∧ n ≤ 3))) ∧ w = w' := by
  go_enter Tryz.func93, Tryz.ntmps93
  go_wp2
  all_goals (go_ret; exact ⟨by simp [*]; try omega, rfl⟩)

theorem layerNew_ok (most : Int) (h1 : 0 ≤ most) (h2 : most ≤ 3) (w : World) :
    Calls Tryz.prog 66 #[.int .i64 most] w fun e w' => ∃ b, e = .returned (.tuple #[.pointer (some ⟨b, 0, none⟩), .nilIface]) ∧ w.heap.size ≤ b ∧ LayerAt w' b most (-1) (-1) false ∧ Below w.heap.size w w' := by
  go_enter Tryz.func66, Tryz.ntmps66
  go_wp2_with (go_at_call 93; refine (layerOk_any _ _).mono ?_; rintro e w' ⟨rfl, rfl⟩)
  go_ret2
  exact ⟨_, rfl, Nat.le_refl _, obj_new _ _, (Below.refl _ _).alloc (Nat.le_refl _) _⟩
theorem layerNew_bad (most : Int) (h : ¬ (0 ≤ most ∧ most ≤ 3)) (w : World) :
    Calls Tryz.prog 66 #[.int .i64 most] w fun e w' => e = .returned (.tuple #[.pointer none, .iface 62 (.int .i64 1)]) ∧ w = w' := by
  have hd : decide (0 ≤ most ∧ most ≤ 3) = false := by simpa using h
  go_enter Tryz.func66, Tryz.ntmps66
  go_wp2_with (go_at_call 93; refine (layerOk_any _ _).mono ?_; rw [hd]; rintro e w' ⟨rfl, rfl⟩)
  go_ret2
  exact ⟨rfl, rfl⟩

end Go.Proofs.YtcicfchpcbfdkaaGreatDoor
