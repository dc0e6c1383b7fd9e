import Derived.Test.YtdnikhfhompedaaDoorCheck
import Derived.RegionTactic
import Derived.ChangeAlike
/-! Contracts of package layer. -/
namespace Go.Proofs.YtdnikhfhompedaaDoor
open Go.RowKit
set_option linter.unusedVariables false
set_option linter.unusedSimpArgs false

/-- a layer in memory -/
def LayerAt (w : World) (b : Nat) (most now last : Int) (broken : Bool) : Prop := w.heap[b]? = some (.cells #[.int .i64 most, .int .i64 now, .int .i64 last, .bool broken] 137 (0, 0))
/-- an item as a value -/
abbrev itV (num : Int) (gone : Bool) (s t l lv : Int) (st : Bool) (body : Value) : Value := .agg #[.int .i64 num, .bool gone, .int .i64 s, .int .i64 t, .int .i64 l, .int .i64 lv, .bool st, body]
namespace Pl
def wants (most now : Int) (broken : Bool) : Bool := decide (now < 0) || broken || decide (most < now)
/-- what an item that is right comes to: goes it through; the layer; is it broken -/
def take (most now : Int) (broken gone : Bool) (l : Int) (st : Bool) : Bool × Int × Bool :=
  if gone then (false, now, broken || decide (0 ≤ now))
  else if most < l then (false, now, broken)
  else if st = false then (decide (l = now) && !broken, now, broken)
  else if now ≤ l ∨ broken = true ∨ most < now then (true, l, false) else (false, now, broken)
end Pl

theorem layerOk_any (n : Int) (w : World) :
    Calls Tryd.prog 67 #[.int .i64 n] w fun e w' => e = .returned (.bool (decide (0 ≤ n ∧ n ≤ 3))) ∧ w = w' := by
  go_enter Tryd.func67, Tryd.ntmps67
  go_wp2
  all_goals (go_ret; exact ⟨by simp [*]; try omega, rfl⟩)

theorem layerNew_ok (most : Int) (h1 : 0 ≤ most) (h2 : most ≤ 3) (w : World) :
    Calls Tryd.prog 39 #[.int .i64 most] w fun e w' => ∃ b, e = .returned (.tuple #[.pointer (some ⟨b, 0, none⟩), .nilIface]) ∧ w.heap.size ≤ b ∧ LayerAt w' b most (-1) (-1) false ∧ Below w.heap.size w w' := by
  go_enter Tryd.func39, Tryd.ntmps39
  go_wp2_with (go_at_call 67; refine (layerOk_any _ _).mono ?_; rintro e w' ⟨rfl, rfl⟩)
  go_ret2
  exact ⟨_, rfl, Nat.le_refl _, obj_new _ _, (Below.refl _ _).alloc (Nat.le_refl _) _⟩
theorem layerNew_bad (most : Int) (h : ¬ (0 ≤ most ∧ most ≤ 3)) (w : World) :
    Calls Tryd.prog 39 #[.int .i64 most] w fun e w' => e = .returned (.tuple #[.pointer none, .iface 98 (.int .i64 1)]) ∧ w = w' := by
  have hd : decide (0 ≤ most ∧ most ≤ 3) = false := by simpa using h
  go_enter Tryd.func39, Tryd.ntmps39
  go_wp2_with (go_at_call 67; refine (layerOk_any _ _).mono ?_; rw [hd]; rintro e w' ⟨rfl, rfl⟩)
  go_ret2
  exact ⟨rfl, rfl⟩

theorem layerLimit_ok (b : Nat) (most now last : Int) (broken : Bool) (n : Int) (h1 : 0 ≤ n) (h2 : n ≤ 3) (w : World) (hg : LayerAt w b most now last broken) :
    Calls Tryd.prog 40 #[.pointer (some ⟨b, 0, none⟩), .int .i64 n] w fun e w' => e = .returned .nilIface ∧ LayerAt w' b n now last broken ∧ KeepsBut b w w' := by
  have k0 := obj_cell hg (k := 0) rfl
  have f0 := obj_free hg 0
  go_enter Tryd.func40, Tryd.ntmps40
  go_wp2_with (go_at_call 67; refine (layerOk_any _ _).mono ?_; rintro e w' ⟨rfl, rfl⟩)
  go_ret
  exact ⟨rfl, obj_set hg 0 _, (KeepsBut.refl b _).set _ _⟩
theorem layerLimit_bad (b : Nat) (n : Int) (h : ¬ (0 ≤ n ∧ n ≤ 3)) (w : World) :
    Calls Tryd.prog 40 #[.pointer (some ⟨b, 0, none⟩), .int .i64 n] w fun e w' => e = .returned (.iface 98 (.int .i64 1)) ∧ w = w' := by
  have hd : decide (0 ≤ n ∧ n ≤ 3) = false := by simpa using h
  go_enter Tryd.func40, Tryd.ntmps40
  go_wp2_with (go_at_call 67; refine (layerOk_any _ _).mono ?_; rw [hd]; rintro e w' ⟨rfl, rfl⟩)
  go_ret
  exact ⟨rfl, rfl⟩
theorem layerNow_any (b : Nat) (most now last : Int) (broken : Bool) (w : World) (hg : LayerAt w b most now last broken) :
    Calls Tryd.prog 43 #[.pointer (some ⟨b, 0, none⟩)] w fun e w' => e = .returned (.int .i64 now) ∧ w = w' := by
  have k0 := obj_cell hg (k := 1) rfl
  go_enter Tryd.func43, Tryd.ntmps43
  go_wp2
  go_ret
  exact ⟨rfl, rfl⟩
set_option maxHeartbeats 1000000 in
theorem layerWants_q (b : Nat) (most now last : Int) (broken : Bool) (w : World) (hg : LayerAt w b most now last broken) :
    Calls Tryd.prog 44 #[.pointer (some ⟨b, 0, none⟩)] w fun e w' => e = .returned (.bool (Pl.wants most now broken)) ∧ ∃ m, w' = w.drewN m := by
  have k0 := obj_cell hg (k := 0) rfl
  have k1 := obj_cell hg (k := 1) rfl
  have k3 := obj_cell hg (k := 3) rfl
  cases d1 : decide (now < 0)
  · cases broken
    · cases d3 : decide (most < now)
      all_goals
        have e := Lib.hid (show decide (most < now) = Pl.wants most now false by simp [Pl.wants, d1])
        rw [d3] at e
        go_enter Tryd.func44, Tryd.ntmps44
        go_wp2
        go_quiet (fail)
        go_wp2
        go_ret
        exact ⟨ret_bool e.out, _, rfl⟩
    · have e := Lib.hid (show true = Pl.wants most now true by simp [Pl.wants])
      go_enter Tryd.func44, Tryd.ntmps44
      go_wp2
      go_quiet (fail)
      go_wp2
      go_ret
      exact ⟨ret_bool e.out, _, rfl⟩
  · have e := Lib.hid (show true = Pl.wants most now broken by simp [Pl.wants, d1])
    go_enter Tryd.func44, Tryd.ntmps44
    go_wp2
    go_quiet (fail)
    go_wp2
    go_ret
    exact ⟨ret_bool e.out, _, rfl⟩
theorem layerWants_any (b : Nat) (most now last : Int) (broken : Bool) (w : World) (hg : LayerAt w b most now last broken) :
    Calls Tryd.prog 44 #[.pointer (some ⟨b, 0, none⟩)] w fun e w' => e = .returned (.bool (Pl.wants most now broken)) ∧ Below w.heap.size w w' :=
  (layerWants_q b most now last broken w hg).mono fun e w' ⟨h1, m, h2⟩ => ⟨h1, h2 ▸ Below.drewN (Below.refl _ _) _⟩
end Go.Proofs.YtdnikhfhompedaaDoor
