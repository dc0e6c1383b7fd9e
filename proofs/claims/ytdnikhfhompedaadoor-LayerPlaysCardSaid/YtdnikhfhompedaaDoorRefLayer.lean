import Derived.Test.YtdnikhfhompedaaDoorRefPk
import Derived.Test.YtdnikhfhompedaaDoorLayerTake
import Derived.Deep.DeepCutAuto
/-! Contracts of the reference's layer. -/
namespace Go.Proofs.YtdnikhfhompedaaDoor
open Go.RowKit
set_option linter.unusedVariables false
set_option linter.unusedSimpArgs false

/-- is it broken behind what is gone -/
def Pl.goneB (broken : Bool) (now : Int) : Bool := broken || !(now == -1)
/-- the reference's layer in memory -/
def RLayerAt (w : World) (b : Nat) (most now last : Int) (broken : Bool) : Prop := w.heap[b]? = some (.cells #[.int .i64 most, .int .i64 now, .int .i64 last, .bool broken] 92 (0, 0))
theorem RLayerAt.below {a c : World} {b B : Nat} {most now last : Int} {broken : Bool} (h : RLayerAt a b most now last broken) (k : Below B a c) (hn : b < B) : RLayerAt c b most now last broken := Below.heapAt k h hn
theorem RLayerAt.set1 {w : World} {b : Nat} {most now last : Int} {broken : Bool} (h : RLayerAt w b most now last broken) (v : Int) : RLayerAt (w.setCell ⟨b, 1, none⟩ (.int .i64 v)) b most v last broken := obj_set h 1 _
theorem RLayerAt.set2 {w : World} {b : Nat} {most now last : Int} {broken : Bool} (h : RLayerAt w b most now last broken) (v : Int) : RLayerAt (w.setCell ⟨b, 2, none⟩ (.int .i64 v)) b most now v broken := obj_set h 2 _
theorem RLayerAt.set3 {w : World} {b : Nat} {most now last : Int} {broken : Bool} (h : RLayerAt w b most now last broken) (v : Bool) : RLayerAt (w.setCell ⟨b, 3, none⟩ (.bool v)) b most now last v := obj_set h 3 _

set_option maxRecDepth 100000 in
set_option maxHeartbeats 2000000 in
theorem rTake_range (b : Nat) (num : Int) (gone : Bool) (s t l lv : Int) (st : Bool) (body : Value) (h : Pl.long num = false) (w : World) :
    Calls Tryd.prog 41 #[.pointer (some ⟨b, 0, none⟩), itV num gone s t l lv st body] w fun e w' => e = .returned (.tuple #[.bool false, .int .i64 1]) ∧ Below w.heap.size w w' := by
  go_enter Tryd.func41, Tryd.ntmps41
  go_wp2_with (go_at_call 55; refine (rLong_any _ _).mono ?_; rintro e w' ⟨rfl, rfl⟩)
  go_ret2
  exact ⟨rfl, (Below.refl _ _).alloc (Nat.le_refl _) _⟩

set_option maxRecDepth 100000 in
set_option maxHeartbeats 2000000 in
theorem rTake_state (b : Nat) (most now last : Int) (broken : Bool) (num : Int) (gone : Bool) (s t l lv : Int) (st : Bool) (body : Value) (h : Pl.long num = true) (h2 : num ≤ last) (w : World) (hg : RLayerAt w b most now last broken) :
    Calls Tryd.prog 41 #[.pointer (some ⟨b, 0, none⟩), itV num gone s t l lv st body] w fun e w' => e = .returned (.tuple #[.bool false, .int .i64 6]) ∧ Below w.heap.size w w' := by
  have k2 := obj_cell hg (k := 2) rfl
  have hb := lt_of_block hg
  have dn : decide (num ≤ last) = true := by simpa using h2
  go_enter Tryd.func41, Tryd.ntmps41
  go_wp2_with (go_at_call 55; refine (rLong_any _ _).mono ?_; rintro e w' ⟨rfl, rfl⟩)
  go_quiet (fail)
  go_wp2
  go_ret2
  exact ⟨rfl, Below.drewN ((Below.refl _ _).alloc (Nat.le_refl _) _) _⟩

set_option maxRecDepth 100000 in
set_option maxHeartbeats 4000000 in
theorem rTake_gone (b : Nat) (most now last : Int) (broken : Bool) (num : Int) (s t l lv : Int) (st : Bool) (body : Value) (h : Pl.long num = true) (h2 : last < num) (w : World) (hg : RLayerAt w b most now last broken) :
    Calls Tryd.prog 41 #[.pointer (some ⟨b, 0, none⟩), itV num true s t l lv st body] w fun e w' => e = .returned (.tuple #[.bool false, .int .i64 0]) ∧ RLayerAt w' b most now num (Pl.goneB broken now) ∧ KeepsBut b w w' := by
  have k1 := obj_cell hg (k := 1) rfl
  have k2 := obj_cell hg (k := 2) rfl
  have k3 := obj_cell hg (k := 3) rfl
  have f2 := obj_free hg 2
  have f3 := obj_free hg 3
  have hb := lt_of_block hg
  have hba : b ≠ w.heap.size := by omega
  have dn : decide (num ≤ last) = false := by simpa using h2
  have fin : ∀ (y : Bool) w2, y = (Pl.goneB broken now) → RLayerAt w2 b most now num y → KeepsBut b w w2 → (RLayerAt w2 b most now num (Pl.goneB broken now) ∧ KeepsBut b w w2) := by
    rintro y w2 rfl g1 g2; exact ⟨g1, g2⟩
  have Fin := Lib.hid fin
  clear fin
  have HG : Hid (RLayerAt w b most now last broken) := hg
  cases d1 : (now == -1)
  · go_enter Tryd.func41, Tryd.ntmps41
    go_wp2_with (go_at_call 55; refine (rLong_any _ _).mono ?_; rintro e w' ⟨rfl, rfl⟩)
    go_quiet (fail)
    go_wp2
    go_ret2
    refine ⟨rfl, Fin.out true _ (by simp [Pl.goneB, d1]) ?_ ?_⟩
    · first | exact RLayerAt.set3 (RLayerAt.set2 (obj_old HG.out _) _) _ | exact obj_old (obj_set (obj_set hg 2 _) 3 _) _
    · repeat (first | exact KeepsBut.refl _ _ | refine Keeps.drewN ?_ _ | refine KeepsBut.set ?_ _ _ | refine Keeps.alloc ?_ _)
  · go_enter Tryd.func41, Tryd.ntmps41
    go_wp2_with (go_at_call 55; refine (rLong_any _ _).mono ?_; rintro e w' ⟨rfl, rfl⟩)
    go_quiet (fail)
    go_wp2
    go_ret2
    refine ⟨rfl, Fin.out broken _ (by simp [Pl.goneB, d1]) ?_ ?_⟩
    · first | exact RLayerAt.set2 (obj_old HG.out _) _ | exact obj_old (obj_set hg 2 _) _
    · repeat (first | exact KeepsBut.refl _ _ | refine Keeps.drewN ?_ _ | refine KeepsBut.set ?_ _ _ | refine Keeps.alloc ?_ _)

set_option maxRecDepth 100000 in
set_option maxHeartbeats 4000000 in
theorem rTake_fault (b : Nat) (most now last : Int) (broken : Bool) (num : Int) (s t l lv : Int) (st : Bool) (oa : Option Addr) (n c : Nat) (hn : n ≤ maxLen) (h : Pl.long num = true) (h2 : last < num) (hp : ¬ Pl.pkOk s t l lv n) (w : World) (hg : RLayerAt w b most now last broken) :
    Calls Tryd.prog 41 #[.pointer (some ⟨b, 0, none⟩), itV num false s t l lv st (.slice oa n c)] w fun e w' => e = .returned (.tuple #[.bool false, .int .i64 (Pl.pkFault s t l lv n)]) ∧ Below w.heap.size w w' := by
  have k2 := obj_cell hg (k := 2) rfl
  have hb := lt_of_block hg
  have dn : decide (num ≤ last) = false := by simpa using h2
  have nf : ¬ Pl.pkFault s t l lv n = 0 := by rcases Pl.pkFault_bad hp with h | h <;> rw [h] <;> decide
  have df : (Pl.pkFault s t l lv n == 0) = false := by simpa using nf
  clear nf
  go_enter Tryd.func41, Tryd.ntmps41
  go_wp2_with (go_at_call 55; refine (rLong_any _ _).mono ?_; rintro e w' ⟨rfl, rfl⟩)
  go_quiet (fail)
  go_wp2_with fail
  refine (refPk_any s t l lv st oa n c hn _).mono ?_
  rintro e w1 ⟨rfl, hb'⟩
  go_wp2
  go_ret2
  exact ⟨rfl, (Below.drewN ((Below.refl _ _).alloc (Nat.le_refl _) _) _).trans (Below.mono hb' (by simp))⟩

set_option maxHeartbeats 1000000 in
theorem rWants_any (b : Nat) (most now last : Int) (broken : Bool) (w : World) (hg : RLayerAt w b most now last broken) (h : -1 ≤ now) :
    Calls Tryd.prog 45 #[.pointer (some ⟨b, 0, none⟩)] w fun e w' => e = .returned (.bool (Pl.wants most now broken)) ∧ ∃ m, w' = w.drewN m := by
  have k0 := obj_cell hg (k := 0) rfl
  have k1 := obj_cell hg (k := 1) rfl
  have k3 := obj_cell hg (k := 3) rfl
  have hn : (now == -1) = decide (now < 0) := by
    by_cases h0 : now = -1
    · subst h0; rfl
    · have e1 : (now == -1) = false := by simpa using h0
      have e2 : decide (now < 0) = false := by simp; omega
      rw [e1, e2]
  clear h
  cases d1 : (now == -1)
  · cases broken
    · cases d3 : decide (most < now)
      all_goals
        have e := Lib.hid (show decide (most < now) = Pl.wants most now false by simp only [Pl.wants]; rw [← hn, d1]; rfl)
        rw [d3] at e
        clear hn
        go_enter Tryd.func45, Tryd.ntmps45
        go_wp2
        go_quiet (fail)
        go_wp2
        go_ret
        exact ⟨ret_bool e.out, _, rfl⟩
    · have e := Lib.hid (show true = Pl.wants most now true by simp [Pl.wants])
      clear hn
      go_enter Tryd.func45, Tryd.ntmps45
      go_wp2
      go_quiet (fail)
      go_wp2
      go_ret
      exact ⟨ret_bool e.out, _, rfl⟩
  · have e := Lib.hid (show true = Pl.wants most now broken by simp only [Pl.wants]; rw [← hn, d1]; rfl)
    clear hn
    go_enter Tryd.func45, Tryd.ntmps45
    go_wp2
    go_quiet (fail)
    go_wp2
    go_ret
    exact ⟨ret_bool e.out, _, rfl⟩

/-- behind the look at the packet: a layer, the item that was boxed -/
theorem abs_rl {P : Program} {c : Code} {Q : Exit → Act → World → Prop} {a : Act} {W : World} (S : World → Prop) (h : S W) (k : ∀ wq, S wq → c.wp P Q a wq) : c.wp P Q a W := k W h
def PkIn (w : World) (g : Nat) (s t l lv : Int) (st : Bool) (bv : Value) : Prop := w.heap[g]? = some (.cells #[.int .i64 s, .int .i64 t, .int .i64 l, .int .i64 lv, .bool st, bv] 24 (0, 0))
def ItIn (w : World) (g : Nat) (num : Int) (gone : Bool) (s t l lv : Int) (st : Bool) (bv : Value) : Prop := w.heap[g]? = some (.cells #[.int .i64 num, .bool gone, .int .i64 s, .int .i64 t, .int .i64 l, .int .i64 lv, .bool st, bv] 49 (0, 0))

set_option maxRecDepth 100000 in
set_option maxHeartbeats 4000000 in
theorem rTake_ok (b : Nat) (most now last : Int) (broken : Bool) (num : Int) (s t l lv : Int) (st : Bool) (oa : Option Addr) (n c : Nat) (hn : n ≤ maxLen) (h : Pl.long num = true) (h2 : last < num) (hp : Pl.pkOk s t l lv n) (w : World) (hg : RLayerAt w b most now last broken) :
    Calls Tryd.prog 41 #[.pointer (some ⟨b, 0, none⟩), itV num false s t l lv st (.slice oa n c)] w fun e w' => e = .returned (.tuple #[.bool (Pl.take most now broken false l st).1, .int .i64 0]) ∧ RLayerAt w' b most (Pl.take most now broken false l st).2.1 num (Pl.take most now broken false l st).2.2 ∧ KeepsBut b w w' := by
  have k2 := obj_cell hg (k := 2) rfl
  have hb := lt_of_block hg
  have dn : decide (num ≤ last) = false := by simpa using h2
  have pf := Pl.pkFault_ok hp
  have fin : ∀ (r : Bool) (x : Int) (y : Bool), (r, x, y) = Pl.take most now broken false l st → ∀ w2, RLayerAt w2 b most x num y → KeepsBut b w w2 → (Ending.returned (.tuple #[.bool r, .int .i64 0]) = .returned (.tuple #[.bool (Pl.take most now broken false l st).1, .int .i64 0]) ∧ RLayerAt w2 b most (Pl.take most now broken false l st).2.1 num (Pl.take most now broken false l st).2.2 ∧ KeepsBut b w w2) := by
    intro r x y e w2 g1 g2
    rw [← e]
    exact ⟨rfl, g1, g2⟩
  have Fin := Lib.hid fin
  clear fin
  go_enter Tryd.func41, Tryd.ntmps41
  go_wp2_with (go_at_call 55; refine (rLong_any _ _).mono ?_; rintro e w' ⟨rfl, rfl⟩)
  go_quiet (fail)
  go_wp2_with fail
  refine (refPk_any s t l lv st oa n c hn _).mono ?_
  rw [pf]
  rintro e w1 ⟨rfl, hb'⟩
  have sz : (World.drewN (w.alloc (.cells #[.int .i64 num, .bool false, .int .i64 s, .int .i64 t, .int .i64 l, .int .i64 lv, .bool st, .slice oa n c] 49)) nq).heap.size = w.heap.size + 1 := by simp
  have hg1 : RLayerAt w1 b most now last broken := Below.heapAt hb' (obj_old hg _) (by rw [sz]; omega)
  have qi : ItIn w1 w.heap.size num false s t l lv st (.slice oa n c) := Below.heapAt hb' (obj_new _ _) (by rw [sz]; omega)
  have kk : KeepsBut b w w1 := Keeps.trans (Keeps.drewN (Keeps.alloc (KeepsBut.refl b w) _) _) (Below.toKeeps hb' (Nat.le_refl _) |>.mono (fun _ _ h => h))
  have hne : b ≠ w.heap.size := by omega
  clear hb' sz k2
  have i0 := obj_cell qi (k := 0) rfl
  have f2 := obj_free hg1 2
  have k2 := obj_cell hg1 (k := 2) rfl
  go_upto_region 15 with fail
  refine abs_rl (fun y => RLayerAt y b most now num broken ∧ ItIn y w.heap.size num false s t l lv st (.slice oa n c) ∧ KeepsBut b w y) ⟨RLayerAt.set2 hg1 _, obj_other qi hne _, KeepsBut.set kk _ _⟩ ?_
  clear hg1 qi kk i0 f2 k2
  rintro wy ⟨gy, qi, ky⟩
  have i2 := obj_cell qi (k := 2) rfl
  have i3 := obj_cell qi (k := 3) rfl
  have i4 := obj_cell qi (k := 4) rfl
  have i5 := obj_cell qi (k := 5) rfl
  have i6 := obj_cell qi (k := 6) rfl
  have i7 := obj_cell qi (k := 7) rfl
  go_upto_region 16 with fail
  refine abs_rl (fun y => RLayerAt y b most now num broken ∧ PkIn y wy.heap.size s t l lv st (.slice oa n c) ∧ KeepsBut b w y) ⟨obj_old gy _, obj_new _ _, Keeps.alloc ky _⟩ ?_
  clear gy qi ky i2 i3 i4 i5 i6 i7
  rintro wq ⟨gq, pq, kq⟩
  have p2 := obj_cell pq (k := 2) rfl
  have p4 := obj_cell pq (k := 4) rfl
  have k0 := obj_cell gq (k := 0) rfl
  have k1 := obj_cell gq (k := 1) rfl
  have k3 := obj_cell gq (k := 3) rfl
  have f1 := obj_free gq 1
  have f3 := obj_free gq 3
  have hlq := lt_of_block gq
  cases c1 : decide (most < l)
  · have c1' : ¬ most < l := by simpa using c1
    have C1 := Lib.hid c1'
    clear c1'
    cases st
    · cases d1 : (l == now)
      go_wp2_with fail
      go_quiet (fail)
      go_wp2_with fail
      go_quiet (fail)
      go_wp2_with fail
      go_quiet (fail)
      go_wp2
      go_ret2
      exact Fin.out false now broken (by have := C1.out; have d : ¬ l = now := (by simpa using d1); simp [Pl.take, this, d]) _ gq (by repeat (first | exact kq | refine Keeps.drewN ?_ _))
      · cases broken
        · skip
          go_wp2_with fail
          go_quiet (fail)
          go_wp2_with fail
          go_quiet (fail)
          go_wp2_with fail
          go_quiet (fail)
          go_wp2
          go_ret2
          exact Fin.out true now false (by have := C1.out; have d : l = now := (by simpa using d1); simp [Pl.take, this, d]; try omega) _ gq (by repeat (first | exact kq | refine Keeps.drewN ?_ _))
        · skip
          go_wp2_with fail
          go_quiet (fail)
          go_wp2_with fail
          go_quiet (fail)
          go_wp2_with fail
          go_quiet (fail)
          go_wp2
          go_ret2
          exact Fin.out false now true (by have := C1.out; have d : l = now := (by simpa using d1); simp [Pl.take, this, d]; try omega) _ gq (by repeat (first | exact kq | refine Keeps.drewN ?_ _))
    · cases d1 : decide (now ≤ l)
      · cases broken
        · cases d3 : decide (most < now)
          · skip
            go_wp2_with fail
            go_quiet (fail)
            go_wp2_with fail
            go_quiet (fail)
            go_wp2_with fail
            go_quiet (fail)
            go_wp2
            go_ret2
            exact Fin.out false now false (by have := C1.out; have e1 : ¬ now ≤ l := (by simpa using d1); have e3 : ¬ most < now := (by simpa using d3); simp [Pl.take, this, e1, e3]) _ gq (by repeat (first | exact kq | refine Keeps.drewN ?_ _))
          · skip
            go_wp2_with fail
            go_quiet (fail)
            go_wp2_with fail
            go_quiet (fail)
            go_wp2
            go_ret2
            exact Fin.out true l false (by have := C1.out; have e3 : most < now := (by simpa using d3); simp [Pl.take, this, e3]) _ (RLayerAt.set3 (RLayerAt.set1 gq _) _) (KeepsBut.set (KeepsBut.set (Keeps.drewN kq _) _ _) _ _)
        · skip
          go_wp2_with fail
          go_quiet (fail)
          go_wp2_with fail
          go_quiet (fail)
          go_wp2
          go_ret2
          exact Fin.out true l false (by have := C1.out; simp [Pl.take, this]) _ (RLayerAt.set3 (RLayerAt.set1 gq _) _) (KeepsBut.set (KeepsBut.set (Keeps.drewN kq _) _ _) _ _)
      · skip
        go_wp2_with fail
        go_quiet (fail)
        go_wp2_with fail
        go_quiet (fail)
        go_wp2
        go_ret2
        exact Fin.out true l false (by have := C1.out; have e1 : now ≤ l := (by simpa using d1); simp [Pl.take, this, e1]) _ (RLayerAt.set3 (RLayerAt.set1 gq _) _) (KeepsBut.set (KeepsBut.set (Keeps.drewN kq _) _ _) _ _)
  · have c1' : most < l := by simpa using c1
    have C1 := Lib.hid c1'
    clear c1'
    go_wp2_with fail
    go_quiet (fail)
    go_wp2
    go_ret2
    exact Fin.out false now broken (by have := C1.out; simp [Pl.take, this]) _ gq (by repeat (first | exact kq | refine Keeps.drewN ?_ _))
end Go.Proofs.YtdnikhfhompedaaDoor
