import Derived.Test.YtcicfchpcbfdkaaGreatDoorSerial
import Derived.Test.YtcicfchpcbfdkaaGreatDoorWorld
import Derived.WalkKit
import Derived.ProofKit
import Derived.Outline
/-! The contract of pack.Check: what is wrong with a packet. -/
namespace Go.Proofs.YtcicfchpcbfdkaaGreatDoor
open Go.RowKit
set_option linter.unusedVariables false
set_option linter.unusedSimpArgs false

/-- a packet as a value -/
abbrev pkV (s t l lv : Int) (st : Bool) (body : Value) : Value := .agg #[.int .i64 s, .int .i64 t, .int .i64 l, .int .i64 lv, .bool st, body]
namespace Pl
def pkOk (s t l lv : Int) (n : Nat) : Prop := 0 ≤ s ∧ s ≤ 65535 ∧ 0 ≤ t ∧ t ≤ 4294967295 ∧ 0 ≤ l ∧ l ≤ 3 ∧ 0 ≤ lv ∧ lv ≤ 127 ∧ n ≤ 1000
instance (s t l lv : Int) (n : Nat) : Decidable (pkOk s t l lv n) := by unfold pkOk; infer_instance
/-- the fault of a packet: 0, 1 or 4 -/
def pkFault (s t l lv : Int) (n : Nat) : Int := if 0 ≤ s ∧ s ≤ 65535 ∧ 0 ≤ t ∧ t ≤ 4294967295 ∧ 0 ≤ l ∧ l ≤ 3 ∧ 0 ≤ lv ∧ lv ≤ 127 then (if n ≤ 1000 then 0 else 4) else 1
theorem pkFault_ok {s t l lv : Int} {n : Nat} (h : pkOk s t l lv n) : pkFault s t l lv n = 0 := by
  unfold pkOk at h; unfold pkFault; rw [if_pos (by omega), if_pos (by omega)]
theorem pkFault_bad {s t l lv : Int} {n : Nat} (h : ¬ pkOk s t l lv n) : pkFault s t l lv n = 1 ∨ pkFault s t l lv n = 4 := by
  unfold pkOk at h; unfold pkFault
  split
  · right; rw [if_neg (by omega)]
  · left; rfl
end Pl

theorem check_ok (s t l lv : Int) (st : Bool) (oa : Option Addr) (n c : Nat) (h : Pl.pkOk s t l lv n) (w : World) :
    Calls Tryz.prog 29 #[pkV s t l lv st (.slice oa n c)] w fun e w' => e = .returned .nilIface ∧ Below w.heap.size w w' := by
  obtain ⟨h1, h2, h3, h4, h5, h6, h7, h8, h9⟩ := h
  have hs : Pl.seq s = true := by rw [Pl.seq_iff]; omega
  go_enter Tryz.func29, Tryz.ntmps29
  go_wp2_with (go_at_call 56; refine (seq_any _ _).mono ?_; rintro e w' ⟨rfl, rfl⟩)
  go_ret
  exact ⟨rfl, (Below.refl _ _).alloc (Nat.le_refl _) _⟩

set_option maxHeartbeats 1000000 in
theorem check_bad (s t l lv : Int) (st : Bool) (oa : Option Addr) (n c : Nat) (hn : n ≤ maxLen) (h : ¬ Pl.pkOk s t l lv n) (w : World) :
    Calls Tryz.prog 29 #[pkV s t l lv st (.slice oa n c)] w fun e w' => e = .returned (.iface 62 (.int .i64 (Pl.pkFault s t l lv n))) ∧ Below w.heap.size w w' := by
  unfold maxLen at hn
  unfold Pl.pkOk at h
  have F1 := Lib.hid (show ¬ (0 ≤ s ∧ s ≤ 65535 ∧ 0 ≤ t ∧ t ≤ 4294967295 ∧ 0 ≤ l ∧ l ≤ 3 ∧ 0 ≤ lv ∧ lv ≤ 127) → 1 = Pl.pkFault s t l lv n from fun h => by unfold Pl.pkFault; rw [if_neg h])
  have F4 := Lib.hid (show (0 ≤ s ∧ s ≤ 65535 ∧ 0 ≤ t ∧ t ≤ 4294967295 ∧ 0 ≤ l ∧ l ≤ 3 ∧ 0 ≤ lv ∧ lv ≤ 127) → 4 = Pl.pkFault s t l lv n from fun h' => by unfold Pl.pkFault; rw [if_pos h', if_neg (by omega)])
  by_cases hg : 0 ≤ s ∧ s ≤ 65535 ∧ 0 ≤ t ∧ t ≤ 4294967295 ∧ 0 ≤ l ∧ l ≤ 3 ∧ 0 ≤ lv ∧ lv ≤ 127
  · have hs : Pl.seq s = true := by rw [Pl.seq_iff]; omega
    have E := Lib.hid (F4.out hg)
    obtain ⟨h1, h2, h3, h4, h5, h6, h7, h8⟩ := hg
    have h9 : 1000 < n := by omega
    clear h
    go_enter Tryz.func29, Tryz.ntmps29
    go_wp2_with (go_at_call 56; refine (seq_any _ _).mono ?_; rintro e w' ⟨rfl, rfl⟩)
    go_ret
    exact ⟨congrArg (fun x => Ending.returned (Value.iface 62 (.int .i64 x))) E.out, (Below.refl _ _).alloc (Nat.le_refl _) _⟩
  · have E := Lib.hid (F1.out hg)
    clear h F1 F4
    have G := Lib.hid hg
    clear hg
    cases hs : Pl.seq s
    · go_enter Tryz.func29, Tryz.ntmps29
      go_wp2_with (go_at_call 56; refine (seq_any _ _).mono ?_; rintro e w' ⟨rfl, rfl⟩)
      go_ret
      exact ⟨congrArg (fun x => Ending.returned (Value.iface 62 (.int .i64 x))) E.out, (Below.refl _ _).alloc (Nat.le_refl _) _⟩
    · obtain ⟨y1, y2⟩ := (Pl.seq_iff s).1 hs
      go_enter Tryz.func29, Tryz.ntmps29
      go_wp2_with (go_at_call 56; refine (seq_any _ _).mono ?_; rintro e w' ⟨rfl, rfl⟩)
      all_goals first
        | (exfalso; have := G.out; omega)
        | (go_ret
           exact ⟨congrArg (fun x => Ending.returned (Value.iface 62 (.int .i64 x))) E.out, (Below.refl _ _).alloc (Nat.le_refl _) _⟩)
        | go_ways
end Go.Proofs.YtcicfchpcbfdkaaGreatDoor
