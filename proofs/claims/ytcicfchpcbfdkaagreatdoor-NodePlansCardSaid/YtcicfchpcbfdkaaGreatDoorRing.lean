import Derived.Test.YtcicfchpcbfdkaaGreatDoorPkIn
import Derived.Test.YtcicfchpcbfdkaaGreatDoorMapR
import Derived.Test.YtcicfchpcbfdkaaGreatDoorClone
import Derived.Test.YtcicfchpcbfdkaaGreatDoorPk
import Derived.Test.YtcicfchpcbfdkaaGreatDoorClock
import Derived.Deep.QuietTactic
import Derived.BigQuiet
import Derived.Deep.DeepCutAuto
import Derived.StillTailTactics
/-! Contracts of package ring: New, Len, Top; what is struck. -/
namespace Go.Proofs.YtcicfchpcbfdkaaGreatDoor
open Go.RowKit
open Go.Maps (Keyed)
set_option linter.unusedVariables false
set_option linter.unusedSimpArgs false
theorem rlaw : Keyed Tryz.prog 3 := Maps.int_keyed Tryz.underlying3
/-- a ring in memory -/
def RingAt (w : World) (b : Nat) (n top : Int) (bm : Nat) : Prop := w.heap[b]? = some (.cells #[.int .i64 n, .int .i64 top, .map (some bm)] 155 (0, 0))
abbrev RMap (w : World) (bm c : Nat) (f : Int → Option Value) : Prop := MapAt Tryz.prog 3 w bm c f
/-- all that is kept is a packet -/
def AllPk (f : Int → Option Value) : Prop := ∀ i v, f i = some v → ∃ (s t l lv : Int) (st : Bool) (oa : Option Addr) (bn bc : Nat), v = pkV s t l lv st (.slice oa bn bc)
/-- a ring with its map -/
structure Rng (w : World) (b : Nat) (n top : Int) (bm c : Nat) (f : Int → Option Value) : Prop where
  at_ : RingAt w b n top bm
  map : RMap w bm c f
  ne : b ≠ bm
/-- a ring's two blocks alone are written -/
abbrev KR2 (b bm : Nat) (w w' : World) : Prop := Keeps (fun k => k = b ∨ k = bm) w w'
namespace Rng
variable {w w' : World} {b : Nat} {n top : Int} {bm c : Nat} {f : Int → Option Value}
theorem alloc (h : Rng w b n top bm c f) (o : Obj) : Rng (w.alloc o) b n top bm c f := ⟨obj_old h.at_ _, h.map.block (Below.heap_alloc _ _ _ h.map.lt), h.ne⟩
theorem below (h : Rng w b n top bm c f) (k : Below w.heap.size w w') : Rng w' b n top bm c f := ⟨Below.heapAt k h.at_ (lt_of_block h.at_), h.map.below k h.map.lt, h.ne⟩
theorem set {n' top' : Int} {j : Nat} {v : Value} (h : Rng w b n top bm c f) (hg : RingAt (w.setCell ⟨b, j, none⟩ v) b n' top' bm) : Rng (w.setCell ⟨b, j, none⟩ v) b n' top' bm c f := ⟨hg, h.map.block (Below.heap_setCell _ _ _ _ (Ne.symm h.ne)), h.ne⟩
theorem setOther {g j : Nat} {v : Value} (h : Rng w b n top bm c f) (h1 : g ≠ b) (h2 : g ≠ bm) : Rng (w.setCell ⟨g, j, none⟩ v) b n top bm c f := ⟨obj_other h.at_ h1 _, h.map.block (Below.heap_setCell _ _ _ _ (Ne.symm h2)), h.ne⟩
theorem drewN (h : Rng w b n top bm c f) (k : Nat) : Rng (w.drewN k) b n top bm c f := ⟨by exact h.at_, by exact h.map, h.ne⟩
end Rng

theorem ringNew_ok (n : Int) (h1 : 1 ≤ n) (h2 : n ≤ 64) (w : World) :
    Calls Tryz.prog 64 #[.int .i64 n] w fun e w' => ∃ b bm, e = .returned (.tuple #[.pointer (some ⟨b, 0, none⟩), .nilIface]) ∧ w.heap.size ≤ b ∧ w.heap.size ≤ bm ∧ Rng w' b n (-1) bm 0 (fun _ => none) ∧ Below w.heap.size w w' := by
  have hmm := @run_makeMap Tryz.prog
  go_enter Tryz.func64, Tryz.ntmps64
  go_wp2
  go_ret2
  exact ⟨w.heap.size + 1, w.heap.size, rfl, Nat.le_succ _, Nat.le_refl _, ⟨obj_new2 _ _ _, (MapAt.made _ _ _).block (Below.heap_alloc _ _ _ (by simp)), Nat.succ_ne_self _⟩, ((Below.refl _ _).alloc (Nat.le_refl _) _).alloc (by simp) _⟩
theorem ringNew_bad (n : Int) (h : ¬ (1 ≤ n ∧ n ≤ 64)) (w : World) :
    Calls Tryz.prog 64 #[.int .i64 n] w fun e w' => e = .returned (.tuple #[.pointer none, .iface 62 (.int .i64 1)]) ∧ w = w' := by
  have G := Lib.hid h
  clear h
  go_enter Tryz.func64, Tryz.ntmps64
  go_wp2
  all_goals first
    | (exfalso; have := G.out; omega)
    | (go_ret2; exact ⟨rfl, rfl⟩)
/-- the closure: is it too old? -/
theorem ringOld_any (rb b : Nat) (n top : Int) (bm : Nat) (hn : 1 ≤ n ∧ n ≤ 64) (ht : -1 ≤ top ∧ top ≤ 1099511627776) (k s t l lv : Int) (st : Bool) (bv : Value) (w : World) (h : RingAt w b n top bm) (hr : w.cell? ⟨rb, 0, none⟩ = some (.pointer (some ⟨b, 0, none⟩))) :
    Calls Tryz.prog 86 #[.int .i64 k, pkV s t l lv st bv, .pointer (some ⟨rb, 0, none⟩)] w fun e w' => e = .returned (.bool (decide (k ≤ top - n))) ∧ Below w.heap.size w w' := by
  obtain ⟨n1, n2⟩ := hn
  obtain ⟨t1, t2⟩ := ht
  go_enter Tryz.func86, Tryz.ntmps86
  go_upto_region 1 with fail
  have hrl : rb < w.heap.size := Sl.lt hr
  refine abs_at (fun y => RingAt y b n top bm ∧ y.cell? ⟨rb, 0, none⟩ = some (.pointer (some ⟨b, 0, none⟩)) ∧ Hid (Below w.heap.size w y)) ⟨obj_old h _, by rw [Below.cell ((Below.refl _ _).alloc (Nat.le_refl _) _) (p := ⟨rb, 0, none⟩) hrl]; exact hr, Lib.hid ((Below.refl _ _).alloc (Nat.le_refl _) _)⟩ ?_
  clear h hr hrl
  rintro y ⟨h, hr, kb⟩
  have k0 := obj_cell h (k := 0) rfl
  have k1 := obj_cell h (k := 1) rfl
  clear h
  go_quiet (fail)
  go_wp2
  go_ret
  exact ⟨rfl, Below.drewN kb.out _⟩
end Go.Proofs.YtcicfchpcbfdkaaGreatDoor
