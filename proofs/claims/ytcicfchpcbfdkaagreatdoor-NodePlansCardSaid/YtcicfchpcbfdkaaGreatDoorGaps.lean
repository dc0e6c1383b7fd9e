import Derived.Test.YtcicfchpcbfdkaaGreatDoorKeysSorted
import Derived.Test.YtcicfchpcbfdkaaGreatDoorClock
import Derived.Test.YtcicfchpcbfdkaaGreatDoorSerial
import Derived.Deep.QuietTactic
import Derived.BigQuiet
import Derived.Deep.DeepCutAuto
import Derived.StillTailTactics
/-! Contracts of package gaps: New, Lacks. -/
namespace Go.Proofs.YtcicfchpcbfdkaaGreatDoor
open Go.RowKit Go.Maps Go.Sort Go.Shelf Go.Proofs
set_option linter.unusedVariables false
set_option linter.unusedSimpArgs false
theorem glaw : Keyed Tryz.prog 3 := Maps.int_keyed Tryz.underlying3
/-- how often a number was asked for, and when -/
abbrev askedV (t a : Int) : Value := .agg #[.int .i64 t, .int .i64 a]
theorem zeroAsked (w : World) : (zeroValue 162).run Tryz.prog w = .ok (askedV 0 0) w := by kernel_rfl
/-- what lies in the map -/
def LF (g : Int → Option (Int × Int)) : Int → Option Value := fun i => (g i).map (fun p => askedV p.1 p.2)
theorem LF.none {g : Int → Option (Int × Int)} {i : Int} (h : g i = Option.none) : LF g i = Option.none := by simp [LF, h]
theorem LF.some {g : Int → Option (Int × Int)} {i t a : Int} (h : g i = Option.some (t, a)) : LF g i = Option.some (askedV t a) := by simp [LF, h]
theorem LF.isSome (g : Int → Option (Int × Int)) (i : Int) : (LF g i).isSome = (g i).isSome := by cases h : g i <;> simp [LF, h]
theorem LF.put (g : Int → Option (Int × Int)) (k t a : Int) : (fun j => if j = k then Option.some (askedV t a) else LF g j) = LF (fun j => if j = k then Option.some (t, a) else g j) := by
  funext j; by_cases e : j = k <;> simp [LF, e]
theorem LF.del (g : Int → Option (Int × Int)) (k : Int) : (fun j => if j = k then Option.none else LF g j) = LF (fun j => if j = k then Option.none else g j) := by
  funext j; by_cases e : j = k <;> simp [LF, e]
/-- gaps in memory -/
def GapsAt (w : World) (b : Nat) (now again tries top : Int) (bm : Nat) (gv : Value) : Prop := w.heap[b]? = some (.cells #[.int .i64 now, .int .i64 again, .int .i64 tries, .int .i64 top, .map (some bm), gv] 160 (0, 0))
abbrev GMap (w : World) (bm c : Nat) (g : Int → Option (Int × Int)) : Prop := MapAt Tryz.prog 3 w bm c (LF g)
/-- gaps with their map and what was given up; M: no block of theirs is below it -/
structure Gp (M : Nat) (w : World) (b : Nat) (now again tries top : Int) (bm c : Nat) (g : Int → Option (Int × Int)) (gv : Value) (G : List Int) : Prop where
  at_ : GapsAt w b now again tries top bm gv
  map : GMap w bm c g
  ne : b ≠ bm
  row : w.ownsRow M 3 1 gv G.length (G.map encI)
  low : M ≤ b ∧ M ≤ bm
namespace Gp
variable {M : Nat} {w w' : World} {b : Nat} {now again tries top : Int} {bm c : Nat} {g : Int → Option (Int × Int)} {gv : Value} {G : List Int}
theorem below (h : Gp M w b now again tries top bm c g gv G) (k : Below w.heap.size w w') : Gp M w' b now again tries top bm c g gv G :=
  ⟨Below.heapAt k h.at_ (lt_of_block h.at_), h.map.below k h.map.lt, h.ne, intRow_below h.row k, h.low⟩
theorem drewN (h : Gp M w b now again tries top bm c g gv G) (k : Nat) : Gp M (w.drewN k) b now again tries top bm c g gv G := ⟨by exact h.at_, by exact h.map, h.ne, by exact h.row, h.low⟩
/-- the row's block is neither the object's nor the map's -/
theorem rowNe (h : Gp M w b now again tries top bm c g gv G) : ∀ k, gv.ownBlock = some k → M ≤ k ∧ k ≠ b ∧ k ≠ bm := fun k hk => by
  have hm := h.map
  refine ⟨(h.row.lt k hk).1, ?_⟩
  rcases h.row.2 with ⟨rfl, _⟩ | ⟨g', cap, cur, rfl, hb, hg, _⟩
  · simp [Value.ownBlock] at hk
  · simp [Value.ownBlock] at hk
    subst hk
    refine ⟨?_, ?_⟩
    · rintro rfl
      have := h.at_; unfold GapsAt at this; rw [this] at hg; simp at hg
    · rintro rfl
      obtain ⟨D, ⟨es, clock, q1, _⟩, _⟩ := hm; rw [q1] at hg; cases hg
/-- a store into the object -/
theorem set {now' again' tries' top' : Int} {j : Nat} {v : Value} (h : Gp M w b now again tries top bm c g gv G) (hg : GapsAt (w.setCell ⟨b, j, none⟩ v) b now' again' tries' top' bm gv) : Gp M (w.setCell ⟨b, j, none⟩ v) b now' again' tries' top' bm c g gv G :=
  ⟨hg, h.map.block (Below.heap_setCell _ _ _ _ (Ne.symm h.ne)), h.ne, intRow_keep h.row (fun k o hk _ => Below.heap_setCell _ _ _ _ (by
    rintro rfl
    have := h.at_; unfold GapsAt at this; rw [this] at hk; simp at hk)), h.low⟩
/-- the map has turned -/
theorem mapped {c' : Nat} {g' : Int → Option (Int × Int)} (h : Gp M w b now again tries top bm c g gv G) (m : GMap w' bm c' g') (q : w.grownBy w' (some bm)) : Gp M w' b now again tries top bm c' g' gv G := by
  have hne := h.ne
  have hm := h.map
  refine ⟨?_, m, hne, intRow_keep h.row (fun k o hk _ => q.block k (lt_of_block hk) (by
    rintro e; simp at e; subst e
    obtain ⟨D, ⟨es, clock, q1, _⟩, _⟩ := hm; rw [q1] at hk; cases hk)), h.low⟩
  have e := q.block b (lt_of_block h.at_) (by simp [hne])
  have a := h.at_
  unfold GapsAt at *
  rw [e]; exact a
end Gp
/-- gaps' own blocks alone are written -/
abbrev FG (b bm : Nat) (gv : Value) (w w' : World) : Prop := Keeps (fun k => k = b ∨ k = bm ∨ gv.ownBlock = some k) w w'
theorem FG.below {M : Nat} {w w' : World} {b : Nat} {now again tries top : Int} {bm c : Nat} {g : Int → Option (Int × Int)} {gv : Value} {G : List Int} (k : FG b bm gv w w') (h : Gp M w b now again tries top bm c g gv G) (hM : M ≤ w.heap.size) : Below M w w' :=
  Keeps.below k hM (fun j hj e => by
    rcases e with rfl | rfl | e
    · have := h.low.1; omega
    · have := h.low.2; omega
    · have := (h.rowNe j e).1; omega)
theorem gapsNew_ok (again tries : Int) (h1 : 1 ≤ again) (h2 : again ≤ 1000000) (h3 : 1 ≤ tries) (h4 : tries ≤ 20) (w : World) :
    Calls Tryz.prog 63 #[.int .i64 again, .int .i64 tries] w fun e w' => ∃ b bm, e = .returned (.tuple #[.pointer (some ⟨b, 0, none⟩), .nilIface]) ∧ Gp w.heap.size w' b 0 again tries (-1) bm 0 (fun _ => none) (.slice none 0 0) [] ∧ Below w.heap.size w w' := by
  have hmm := @run_makeMap Tryz.prog
  go_enter Tryz.func63, Tryz.ntmps63
  go_wp2
  go_ret2
  exact ⟨w.heap.size + 1, w.heap.size, rfl, ⟨obj_new2 _ _ _, (MapAt.made _ _ _).block (Below.heap_alloc _ _ _ (by simp)), Nat.succ_ne_self _, World.ownsRow_nil _ _ _ _, by omega, by omega⟩, ((Below.refl _ _).alloc (Nat.le_refl _) _).alloc (by simp) _⟩
theorem gapsNew_bad (again tries : Int) (h : ¬ (1 ≤ again ∧ again ≤ 1000000 ∧ 1 ≤ tries ∧ tries ≤ 20)) (w : World) :
    Calls Tryz.prog 63 #[.int .i64 again, .int .i64 tries] w fun e w' => e = .returned (.tuple #[.pointer none, .iface 62 (.int .i64 1)]) ∧ w = w' := by
  have G := Lib.hid h
  clear h
  go_enter Tryz.func63, Tryz.ntmps63
  go_wp2
  all_goals first
    | (exfalso; have := G.out; omega)
    | (go_ret2; exact ⟨rfl, rfl⟩)
end Go.Proofs.YtcicfchpcbfdkaaGreatDoor
