import Derived.Test.YtcicfchpcbfdkaaGreatDoorMapI
import Derived.Test.YtcicfchpcbfdkaaGreatDoorClone
import Derived.Test.YtcicfchpcbfdkaaGreatDoorPk
import Derived.Test.YtcicfchpcbfdkaaGreatDoorClock
import Derived.Deep.QuietTactic
import Derived.BigQuiet
import Derived.Deep.DeepCutAuto
import Derived.StillTailTactics
/-! Contracts of package order. -/
namespace Go.Proofs.YtcicfchpcbfdkaaGreatDoor
open Go.RowKit
open Go.Maps (Keyed)
set_option linter.unusedVariables false
set_option linter.unusedSimpArgs false

theorem mlaw : Keyed Tryz.prog 3 := Maps.int_keyed Tryz.underlying3
/-- an order in memory -/
def OrderAt (w : World) (b : Nat) (now wait next : Int) (bm : Nat) : Prop := w.heap[b]? = some (.cells #[.int .i64 now, .int .i64 wait, .int .i64 next, .map (some bm)] 172 (0, 0))
abbrev OMap (w : World) (bm c : Nat) (f : Int → Option Value) : Prop := MapAt Tryz.prog 3 w bm c f
/-- what is kept: an item, and since when -/
abbrev keptV (num : Int) (gone : Bool) (s t l lv : Int) (st : Bool) (bv : Value) (at' : Int) : Value := .agg #[.int .i64 num, .bool gone, .int .i64 s, .int .i64 t, .int .i64 l, .int .i64 lv, .bool st, bv, .int .i64 at']

theorem orderNew_ok (wait : Int) (h1 : 0 ≤ wait) (h2 : wait ≤ 1000000) (w : World) :
    Calls Tryz.prog 65 #[.int .i64 wait] w fun e w' => ∃ b bm, e = .returned (.tuple #[.pointer (some ⟨b, 0, none⟩), .nilIface]) ∧ w.heap.size ≤ b ∧ w.heap.size ≤ bm ∧ b ≠ bm ∧ OrderAt w' b 0 wait (-1) bm ∧ OMap w' bm 0 (fun _ => none) ∧ Below w.heap.size w w' := by
  have hmm := @run_makeMap Tryz.prog
  go_enter Tryz.func65, Tryz.ntmps65
  go_wp2
  go_ret2
  exact ⟨w.heap.size + 1, w.heap.size, rfl, Nat.le_succ _, Nat.le_refl _, Nat.succ_ne_self _, obj_new2 _ _ _, (MapAt.made _ _ _).block (Below.heap_alloc _ _ _ (by simp)), ((Below.refl _ _).alloc (Nat.le_refl _) _).alloc (by simp) _⟩
theorem orderNew_bad (wait : Int) (h : ¬ (0 ≤ wait ∧ wait ≤ 1000000)) (w : World) :
    Calls Tryz.prog 65 #[.int .i64 wait] w fun e w' => e = .returned (.tuple #[.pointer none, .iface 62 (.int .i64 1)]) ∧ w = w' := by
  have G := Lib.hid h
  clear h
  go_enter Tryz.func65, Tryz.ntmps65
  go_wp2
  all_goals first
    | (exfalso; have := G.out; omega)
    | (go_ret2; exact ⟨rfl, rfl⟩)
/-- the zero of what is kept -/
abbrev zeroKept : Value := keptV 0 false 0 0 0 0 false (.slice none 0 0) 0
theorem zeroK (w : World) : (zeroValue 208).run Tryz.prog w = .ok zeroKept w := by kernel_rfl
/-- an item as a value -/
abbrev itemV (num : Int) (gone : Bool) (s t l lv : Int) (st : Bool) (bv : Value) : Value := .agg #[.int .i64 num, .bool gone, .int .i64 s, .int .i64 t, .int .i64 l, .int .i64 lv, .bool st, bv]
theorem OrderAt.other {a c : World} {b N : Nat} {now wait next : Int} {bm : Nat} (h : OrderAt a b now wait next bm) (k : KeepsBut N a c) (hn : b ≠ N) : OrderAt c b now wait next bm := Keeps.heap k h hn
/-- an item in memory -/
def ItemAt (w : World) (g : Nat) (num : Int) (gone : Bool) (s t l lv : Int) (st : Bool) (bv : Value) : Prop := w.heap[g]? = some (.cells #[.int .i64 num, .bool gone, .int .i64 s, .int .i64 t, .int .i64 l, .int .i64 lv, .bool st, bv] 175 (0, 0))
set_option maxRecDepth 100000 in
set_option maxHeartbeats 2000000 in
theorem orderKeep_new (b : Nat) (now wait next : Int) (bm c : Nat) (f : Int → Option Value) (num : Int) (gone : Bool) (s t l lv : Int) (st : Bool) (bv : Value) (at' : Int) (hf : f num = none) (h1 : next ≤ num) (h2 : num < next + 200) (h3 : 0 ≤ num) (h4 : num ≤ 1099511627776) (h5 : 0 ≤ next) (hc : c < 1000000) (w : World) (hg : OrderAt w b now wait next bm) (hm : OMap w bm c f) (hne : b ≠ bm) :
    Calls Tryz.prog 89 #[.pointer (some ⟨b, 0, none⟩), itemV num gone s t l lv st bv, .int .i64 at'] w fun e w' => e = .returned (.bool true) ∧ OrderAt w' b now wait next bm ∧ OMap w' bm (c + 1) (fun j => if j = num then some (keptV num gone s t l lv st bv at') else f j) ∧ KeepsBut bm w w' := by
  have hw : (Lit.int .i64 num).wf = true := by simp [Lit.wf, IntKind.min, IntKind.max, IntKind.signed, IntKind.bits]; omega
  have hb := lt_of_block hg
  have hbm := hm.lt
  go_enter Tryz.func89, Tryz.ntmps89
  go_upto_region 1 with fail
  have hbA : b < w.heap.size := hb
  refine abs_at (fun y => OrderAt y b now wait next bm ∧ OMap y bm c f ∧ ItemAt y w.heap.size num gone s t l lv st bv ∧ KeepsBut bm w y) ⟨obj_old hg _, hm.block (Below.heap_alloc _ _ _ hbm), obj_new _ _, (KeepsBut.refl _ _).alloc _⟩ ?_
  clear hg hm
  rintro w1 ⟨hg, hm, hi, kk⟩
  have hNl := lt_of_block hi
  have hbm1 := hm.lt
  generalize hN : w.heap.size = N at *
  clear hN
  have k3 := obj_cell hg (k := 3) rfl
  have i0 := obj_cell hi (k := 0) rfl
  have hlook := hm.drew.look_run mlaw Tryz.underlying3 Tryz.underlying170 (zeroK _) num hw
  rw [hf] at hlook
  simp only [Option.getD_none, Option.isSome_none] at hlook
  have hb1 := lt_of_block hg
  have hm2 : OMap (w1.alloc (.cells #[.int .i64 0, .bool false, .int .i64 0, .int .i64 0, .int .i64 0, .int .i64 0, .bool false, .slice none 0 0, .int .i64 0] 208)) bm c f := hm.block (Below.heap_alloc _ _ _ hbm1)
  have hlook2 := hm2.drew.look_run mlaw Tryz.underlying3 Tryz.underlying170 (zeroK _) num hw
  rw [hf] at hlook2
  simp only [Option.getD_none, Option.isSome_none] at hlook2
  clear hm2
  go_cut [8] (fun s8 y => s8 = .bool false ∧ OrderAt y b now wait next bm ∧ OMap y bm c f ∧ ItemAt y N num gone s t l lv st bv ∧ KeepsBut bm w y)
  case first =>
    go_region
    all_goals (
      go_wp2_with fail
      go_meet
      exact ⟨rfl, obj_old hg _, hm.block (Below.heap_alloc _ _ _ hbm1), obj_old hi _, Keeps.drew (kk.alloc _)⟩)
  case rest =>
  clear hg hm hi kk k3 i0 hlook hlook2 hb1 hbm1 hNl w1
  obtain ⟨rfl, hg, hm, hi, kk⟩ := hcut
  have k2 := obj_cell hg (k := 2) rfl
  have i0 := obj_cell hi (k := 0) rfl
  have e1 : decide (num < next) = false := by simp; omega
  have e2 : decide (next + 200 ≤ num) = false := by simp; omega
  go_upto_region 2 with fail
  go_quiet (fail)
  go_upto_region 4 with fail
  refine abs_at (fun y => OrderAt y b now wait next bm ∧ OMap y bm c f ∧ ItemAt y N num gone s t l lv st bv ∧ KeepsBut bm w y) ⟨by exact hg, by exact hm, by exact hi, by exact Keeps.drewN kk _⟩ ?_
  clear hg hm hi kk k2 i0 e1 e2
  rintro w3 ⟨hg, hm, hi, kk⟩
  have k3 := obj_cell hg (k := 3) rfl
  have i0 := obj_cell hi (k := 0) rfl
  have i1 := obj_cell hi (k := 1) rfl
  have i2 := obj_cell hi (k := 2) rfl
  have i3 := obj_cell hi (k := 3) rfl
  have i4 := obj_cell hi (k := 4) rfl
  have i5 := obj_cell hi (k := 5) rfl
  have i6 := obj_cell hi (k := 6) rfl
  have i7 := obj_cell hi (k := 7) rfl
  go_still_tail 9, (by kernel_rfl)
  change wpList _ _ _ _ _ w3.drew
  have hg' : OrderAt w3.drew b now wait next bm := hg
  have hm' : OMap w3.drew bm c f := hm
  have kk' : KeepsBut bm w w3.drew := Keeps.drew kk
  clear hg hm hi kk k3 i0 i1 i2 i3 i4 i5 i6 i7
  generalize w3.drew = w5 at *
  go_wp2_with (at_mapUpdate; refine wpList_mput _ rfl (.tmp 42) (.tmp 44) (.tmp 47) 170 rfl 3 208 mlaw Tryz.underlying3 Tryz.underlying170 bm c f rfl hm' (by unfold maxLen; omega) num _ rfl rfl hw ?_; intro w4 hm4 hgr)
  rw [hf] at hm4
  simp only [Option.isSome_none, if_false, Bool.false_eq_true] at hm4
  go_ret
  refine ⟨rfl, ?_, hm4, ?_⟩
  · have q := hgr.block b (lt_of_block hg') (by simp [hne])
    unfold OrderAt at *
    rw [q]
    exact hg'
  · exact Keeps.trans kk' ⟨hgr.os, hgr.tape, hgr.output, hgr.size, fun k hk hn => hgr.block k hk (by simpa using hn)⟩
end Go.Proofs.YtcicfchpcbfdkaaGreatDoor
