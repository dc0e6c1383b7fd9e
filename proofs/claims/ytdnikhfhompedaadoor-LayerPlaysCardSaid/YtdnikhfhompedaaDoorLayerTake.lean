import Derived.Test.YtdnikhfhompedaaDoorLayer
/-! The contract of (*layer.Layer).Take. -/
namespace Go.Proofs.YtdnikhfhompedaaDoor
open Go.RowKit
set_option linter.unusedVariables false
set_option linter.unusedSimpArgs false

set_option maxRecDepth 100000 in
set_option maxHeartbeats 1000000 in
theorem layerTake_range (b : Nat) (most now last : Int) (broken : Bool) (num : Int) (gone : Bool) (s t l lv : Int) (st : Bool) (body : Value) (h : Pl.long num = false) (w : World) (hg : LayerAt w b most now last broken) :
    Calls Tryd.prog 42 #[.pointer (some ⟨b, 0, none⟩), itV num gone s t l lv st body] w fun e w' => e = .returned (.tuple #[.bool false, .iface 98 (.int .i64 1)]) ∧ Below w.heap.size w w' := by
  go_enter Tryd.func42, Tryd.ntmps42
  go_wp2_with (go_at_call 46; refine (long_any _ _).mono ?_; rintro e w' ⟨rfl, rfl⟩)
  go_ret2
  exact ⟨rfl, (Below.refl _ _).alloc (Nat.le_refl _) _⟩

set_option maxRecDepth 100000 in
set_option maxHeartbeats 1000000 in
theorem layerTake_state (b : Nat) (most now last : Int) (broken : Bool) (num : Int) (gone : Bool) (s t l lv : Int) (st : Bool) (body : Value) (h : Pl.long num = true) (h2 : num ≤ last) (w : World) (hg : LayerAt w b most now last broken) :
    Calls Tryd.prog 42 #[.pointer (some ⟨b, 0, none⟩), itV num gone s t l lv st body] w fun e w' => e = .returned (.tuple #[.bool false, .iface 98 (.int .i64 6)]) ∧ Below w.heap.size w w' := by
  have k2 := obj_cell hg (k := 2) rfl
  have hb := lt_of_block hg
  go_enter Tryd.func42, Tryd.ntmps42
  go_wp2_with (go_at_call 46; refine (long_any _ _).mono ?_; rintro e w' ⟨rfl, rfl⟩)
  go_region
  go_wp2
  go_ret2
  exact ⟨rfl, ((Below.refl _ _).alloc (Nat.le_refl _) _).drew⟩

set_option maxRecDepth 100000 in
set_option maxHeartbeats 1000000 in
theorem layerTake_gone (b : Nat) (most now last : Int) (broken : Bool) (num : Int) (s t l lv : Int) (st : Bool) (body : Value) (h : Pl.long num = true) (h2 : last < num) (w : World) (hg : LayerAt w b most now last broken) :
    Calls Tryd.prog 42 #[.pointer (some ⟨b, 0, none⟩), itV num true s t l lv st body] w fun e w' => e = .returned (.tuple #[.bool false, .nilIface]) ∧ LayerAt w' b most now num (broken || decide (0 ≤ now)) ∧ KeepsBut b w w' := by
  have k1 := obj_cell hg (k := 1) rfl
  have k2 := obj_cell hg (k := 2) rfl
  have k3 := obj_cell hg (k := 3) rfl
  have f2 := obj_free hg 2
  have f3 := obj_free hg 3
  have hb := lt_of_block hg
  have hba : b ≠ w.heap.size := by omega
  cases broken
  · cases d : decide (0 ≤ now)
    all_goals
      go_enter Tryd.func42, Tryd.ntmps42
      go_wp2_with (go_at_call 46; refine (long_any _ _).mono ?_; rintro e w' ⟨rfl, rfl⟩)
      go_region
      go_wp2
      go_ret2
      exact ⟨rfl, obj_old (obj_set (obj_set hg 2 _) 3 _) _, by repeat (first | exact KeepsBut.refl _ _ | refine Keeps.drew ?_ | refine KeepsBut.set ?_ _ _ | refine Keeps.alloc ?_ _)⟩
  · go_enter Tryd.func42, Tryd.ntmps42
    go_wp2_with (go_at_call 46; refine (long_any _ _).mono ?_; rintro e w' ⟨rfl, rfl⟩)
    go_region
    go_wp2
    go_ret2
    exact ⟨rfl, obj_old (obj_set (obj_set hg 2 _) 3 _) _, by repeat (first | exact KeepsBut.refl _ _ | refine Keeps.drew ?_ | refine KeepsBut.set ?_ _ _ | refine Keeps.alloc ?_ _)⟩

set_option maxRecDepth 100000 in
set_option maxHeartbeats 1000000 in
theorem layerTake_fault (b : Nat) (most now last : Int) (broken : Bool) (num : Int) (s t l lv : Int) (st : Bool) (oa : Option Addr) (n c : Nat) (hn : n ≤ maxLen) (h : Pl.long num = true) (h2 : last < num) (hp : ¬ Pl.pkOk s t l lv n) (w : World) (hg : LayerAt w b most now last broken) :
    Calls Tryd.prog 42 #[.pointer (some ⟨b, 0, none⟩), itV num false s t l lv st (.slice oa n c)] w fun e w' => e = .returned (.tuple #[.bool false, .iface 98 (.int .i64 (Pl.pkFault s t l lv n))]) ∧ Below w.heap.size w w' := by
  have k2 := obj_cell hg (k := 2) rfl
  have hb := lt_of_block hg
  go_enter Tryd.func42, Tryd.ntmps42
  go_wp2_with (go_at_call 46; refine (long_any _ _).mono ?_; rintro e w' ⟨rfl, rfl⟩)
  go_region
  go_wp2_with (go_at_call 10; refine (check_bad s t l lv st oa n c hn hp _).mono ?_; rintro e w' ⟨rfl, hb'⟩)
  go_ret2
  refine ⟨rfl, Below.trans ?_ (hb'.mono ?_)⟩
  · repeat (first | exact Below.refl _ _ | refine Below.drew ?_ | refine Below.alloc ?_ (by simp) _)
  · simp; try omega

set_option maxRecDepth 100000 in
set_option maxHeartbeats 4000000 in
theorem layerTake_ok (b : Nat) (most now last : Int) (broken : Bool) (num : Int) (s t l lv : Int) (st : Bool) (oa : Option Addr) (n c : Nat) (h : Pl.long num = true) (h2 : last < num) (hp : Pl.pkOk s t l lv n) (w : World) (hg : LayerAt w b most now last broken) :
    Calls Tryd.prog 42 #[.pointer (some ⟨b, 0, none⟩), itV num false s t l lv st (.slice oa n c)] w fun e w' => e = .returned (.tuple #[.bool (Pl.take most now broken false l st).1, .nilIface]) ∧ LayerAt w' b most (Pl.take most now broken false l st).2.1 num (Pl.take most now broken false l st).2.2 ∧ KeepsBut b w w' := by
  have hb := lt_of_block hg
  have fin : ∀ (r : Bool) (x : Int) (y : Bool), (r, x, y) = Pl.take most now broken false l st → ∀ w2, LayerAt w2 b most x num y → KeepsBut b w w2 → (Ending.returned (.tuple #[.bool r, .nilIface]) = .returned (.tuple #[.bool (Pl.take most now broken false l st).1, .nilIface]) ∧ LayerAt w2 b most (Pl.take most now broken false l st).2.1 num (Pl.take most now broken false l st).2.2 ∧ KeepsBut b w w2) := by
    intro r x y e w2 g1 g2
    rw [← e]
    exact ⟨rfl, g1, g2⟩
  have Fin := Lib.hid fin
  clear fin
  have k0 := obj_cell hg (k := 0) rfl
  have k1 := obj_cell hg (k := 1) rfl
  have k2 := obj_cell hg (k := 2) rfl
  have k3 := obj_cell hg (k := 3) rfl
  go_enter Tryd.func42, Tryd.ntmps42
  go_wp2_with (go_at_call 46; refine (long_any _ _).mono ?_; rintro e w' ⟨rfl, rfl⟩)
  go_region
  go_wp2_with fail
  refine (check_ok s t l lv st oa n c hp _).mono ?_
  rintro e w1 ⟨rfl, hb'⟩
  simp at hb'
  have hg1 : LayerAt w1 b most now last broken := Below.heapAt hb' (obj_old (obj_old hg _) _) (by omega)
  have kk : KeepsBut b w w1 := Keeps.trans (Keeps.drew (Keeps.alloc (Keeps.alloc (KeepsBut.refl b w) _) _)) (Below.toKeeps hb' (by simp))
  clear k0 k1 k2 k3
  have k0 := obj_cell hg1 (k := 0) rfl
  have k1 := obj_cell hg1 (k := 1) rfl
  have k2 := obj_cell hg1 (k := 2) rfl
  have k3 := obj_cell hg1 (k := 3) rfl
  have f1 := obj_free hg1 1
  have f2 := obj_free hg1 2
  have f3 := obj_free hg1 3
  have q0 : w1.heap[w.heap.size]? = some (.cells #[.int .i64 num, .bool false, .int .i64 s, .int .i64 t, .int .i64 l, .int .i64 lv, .bool st, .slice oa n c] 49 (0, 0)) := Below.heapAt hb' (obj_old (obj_new _ _) _) (by omega)
  have q1 : w1.heap[w.heap.size + 1]? = some (.cells #[.int .i64 s, .int .i64 t, .int .i64 l, .int .i64 lv, .bool st, .slice oa n c] 24 (0, 0)) := Below.heapAt hb' (obj_new2 _ _ _) (by omega)
  have r0 := obj_cell q0 (k := 0) rfl
  have r2 := obj_cell q1 (k := 2) rfl
  have r4 := obj_cell q1 (k := 4) rfl
  clear q0 q1 hb'
  have hne : b ≠ w.heap.size := by omega
  have hne' : b ≠ w.heap.size + 1 := by omega
  have hl1 := lt_of_block hg1
  by_cases c1 : most < l
  · go_wp2
    go_region
    go_wp2
    go_ret2
    exact Fin.out _ _ _ (by simp [Pl.take, c1]) _ (obj_set hg1 2 _) (by repeat (first | exact kk | refine Keeps.drew ?_ | refine KeepsBut.set ?_ _ _))
  · cases st
    · cases d1 : (l == now)
      · go_wp2
        go_region
        go_wp2
        go_quiet (fail)
        go_wp2
        go_ret2
        exact Fin.out _ _ _ (by have : ¬ l = now := by simpa using d1
                                simp [Pl.take, c1, this]) _ (obj_set hg1 2 _) (Keeps.drewN (Keeps.drew (KeepsBut.set kk _ _)) _)
      · cases broken
        all_goals
          go_wp2
          go_region
          go_wp2
          go_quiet (fail)
          go_wp2
          go_ret2
          exact Fin.out _ _ _ (by have e : l = now := by simpa using d1
                                  subst e; simp [Pl.take]; try omega) _ (obj_set hg1 2 _) (Keeps.drewN (Keeps.drew (KeepsBut.set kk _ _)) _)
    · cases d1 : decide (now ≤ l)
      · cases broken
        · cases d3 : decide (most < now)
          · go_wp2
            go_region
            go_wp2
            go_quiet (fail)
            go_wp2
            go_ret2
            exact Fin.out _ _ _ (by simp at d1 d3; simp [Pl.take]; omega) _ (obj_set hg1 2 _) (Keeps.drewN (Keeps.drew (KeepsBut.set kk _ _)) _)
          · go_wp2
            go_region
            go_wp2
            go_quiet (fail)
            go_wp2
            go_ret2
            exact Fin.out _ _ _ (by simp at d1 d3; simp [Pl.take, d3]; omega) _ (obj_set (obj_set (obj_set hg1 2 _) 1 _) 3 _) (by repeat (first | exact kk | refine Keeps.drewN ?_ _ | refine Keeps.drew ?_ | refine KeepsBut.set ?_ _ _))
        · go_wp2
          go_region
          go_wp2
          go_quiet (fail)
          go_wp2
          go_ret2
          exact Fin.out _ _ _ (by simp [Pl.take]; omega) _ (obj_set (obj_set (obj_set hg1 2 _) 1 _) 3 _) (by repeat (first | exact kk | refine Keeps.drewN ?_ _ | refine Keeps.drew ?_ | refine KeepsBut.set ?_ _ _))
      · go_wp2
        go_region
        go_wp2
        go_quiet (fail)
        go_wp2
        go_ret2
        exact Fin.out _ _ _ (by simp at d1; simp [Pl.take, d1]; omega) _ (obj_set (obj_set (obj_set hg1 2 _) 1 _) 3 _) (by repeat (first | exact kk | refine Keeps.drewN ?_ _ | refine Keeps.drew ?_ | refine KeepsBut.set ?_ _ _))
/-- an item that is refused -/
def Pl.takeBad (last num : Int) (gone : Bool) (s t l lv : Int) (n : Nat) : Prop := Pl.long num = false ∨ num ≤ last ∨ (gone = false ∧ ¬ Pl.pkOk s t l lv n)
theorem layerTake_bad (b : Nat) (most now last : Int) (broken : Bool) (num : Int) (gone : Bool) (s t l lv : Int) (st : Bool) (oa : Option Addr) (n c : Nat) (hn : n ≤ maxLen) (h : Pl.takeBad last num gone s t l lv n) (w : World) (hg : LayerAt w b most now last broken) :
    Calls Tryd.prog 42 #[.pointer (some ⟨b, 0, none⟩), itV num gone s t l lv st (.slice oa n c)] w fun e w' => ∃ k : Int, e = .returned (.tuple #[.bool false, .iface 98 (.int .i64 k)]) ∧ LayerAt w' b most now last broken ∧ Below w.heap.size w w' := by
  have fin : ∀ {k : Int} {e : Ending} {w' : World}, (e = .returned (.tuple #[.bool false, .iface 98 (.int .i64 k)]) ∧ Below w.heap.size w w') → ∃ k : Int, e = .returned (.tuple #[.bool false, .iface 98 (.int .i64 k)]) ∧ LayerAt w' b most now last broken ∧ Below w.heap.size w w' :=
    fun {k} _ _ h => ⟨k, h.1, Below.heapAt h.2 hg (lt_of_block hg), h.2⟩
  cases hl : Pl.long num
  · exact (layerTake_range b most now last broken num gone s t l lv st _ hl w hg).mono fun _ _ h => fin h
  · by_cases h2 : num ≤ last
    · exact (layerTake_state b most now last broken num gone s t l lv st _ hl h2 w hg).mono fun _ _ h => fin h
    · rcases h with h | h | ⟨rfl, h⟩
      · rw [hl] at h; cases h
      · exact absurd h h2
      · exact (layerTake_fault b most now last broken num s t l lv st oa n c hn hl (by omega) h w hg).mono fun _ _ h => fin h
end Go.Proofs.YtdnikhfhompedaaDoor
