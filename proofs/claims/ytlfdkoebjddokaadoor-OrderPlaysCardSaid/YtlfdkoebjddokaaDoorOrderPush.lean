import Derived.Test.YtlfdkoebjddokaaDoorPkIn
import Derived.Test.YtlfdkoebjddokaaDoorOrder
/-! order.Push of an empty packet. -/
namespace Go.Proofs.YtlfdkoebjddokaaDoor
open Go.RowKit
set_option linter.unusedVariables false
set_option linter.unusedSimpArgs false
/-- an order's two blocks alone are written -/
abbrev KB2 (b bm : Nat) (w w' : World) : Prop := Keeps (fun k => k = b ∨ k = bm) w w'
/-- an order with its map -/
structure Ord (w : World) (b : Nat) (now wait next : Int) (bm c : Nat) (f : Int → Option Value) : Prop where
  at_ : OrderAt w b now wait next bm
  map : OMap w bm c f
  ne : b ≠ bm
theorem Ord.alloc {w : World} {b : Nat} {now wait next : Int} {bm c : Nat} {f : Int → Option Value} (h : Ord w b now wait next bm c f) (o : Obj) : Ord (w.alloc o) b now wait next bm c f :=
  ⟨obj_old h.at_ _, h.map.block (Below.heap_alloc _ _ _ h.map.lt), h.ne⟩
theorem Ord.below {w w' : World} {b : Nat} {now wait next : Int} {bm c : Nat} {f : Int → Option Value} (h : Ord w b now wait next bm c f) (k : Below w.heap.size w w') : Ord w' b now wait next bm c f :=
  ⟨Below.heapAt k h.at_ (lt_of_block h.at_), h.map.below k h.map.lt, h.ne⟩
theorem Ord.set {w : World} {b : Nat} {now wait next now' wait' next' : Int} {bm c j : Nat} {f : Int → Option Value} {v : Value} (h : Ord w b now wait next bm c f) (hg : OrderAt (w.setCell ⟨b, j, none⟩ v) b now' wait' next' bm) : Ord (w.setCell ⟨b, j, none⟩ v) b now' wait' next' bm c f :=
  ⟨hg, h.map.block (Below.heap_setCell _ _ _ _ (Ne.symm h.ne)), h.ne⟩
theorem Ord.setOther {w : World} {b g : Nat} {now wait next : Int} {bm c j : Nat} {f : Int → Option Value} {v : Value} (h : Ord w b now wait next bm c f) (h1 : g ≠ b) (h2 : g ≠ bm) : Ord (w.setCell ⟨g, j, none⟩ v) b now wait next bm c f :=
  ⟨obj_other h.at_ h1 _, h.map.block (Below.heap_setCell _ _ _ _ (Ne.symm h2)), h.ne⟩

set_option maxRecDepth 100000 in
set_option maxHeartbeats 4000000 in
theorem orderPush_new (b : Nat) (cur wait next now : Int) (bm c : Nat) (f : Int → Option Value) (num T : Int) (hT : Hid (T = if next < 0 then num else next)) (hc : Pl.clockOk cur now) (hl : Pl.long num = true) (hn1 : -1 ≤ next) (hn2 : next ≤ 1099511627776) (hf : f num = none) (h1 : T ≤ num) (h2 : num < T + 200) (hcc : c < 1000000) (w : World) (hO : Ord w b cur wait next bm c f) :
    Calls Tryd.prog 8 #[.pointer (some ⟨b, 0, none⟩), .int .i64 num, pkV 0 0 0 0 false (.slice none 0 0), .int .i64 now] w fun e w' => ∃ (oa : Option Addr) (cc : Nat), e = .returned (.tuple #[.bool true, .nilIface]) ∧ Ord w' b now wait T bm (c + 1) (fun j => if j = num then some (keptV num false 0 0 0 0 false (.slice oa 0 cc) now) else f j) ∧ KB2 b bm w w' := by
  have hnum := (Pl.long_iff num).1 hl
  obtain ⟨hm1, hm2⟩ := hnum
  go_enter Tryd.func8, Tryd.ntmps8
  go_upto_region 1 with fail
  refine abs_at (fun y => Ord y b cur wait next bm c f ∧ PkIn y w.heap.size 0 0 0 0 false (.slice none 0 0) ∧ Hid (KB2 b bm w y)) ⟨hO.alloc _, obj_new _ _, Lib.hid ((Keeps.refl _ _).alloc _)⟩ ?_
  have hNb : w.heap.size ≠ b := by have := lt_of_block hO.at_; omega
  have hNm : w.heap.size ≠ bm := by have := hO.map.lt; omega
  have hNl : w.heap.size ≤ w.heap.size := Nat.le_refl _
  clear hO
  generalize hN : w.heap.size = N at *
  have HN := Lib.hid hN
  clear hN
  rintro w1 ⟨hO, hp, kk⟩
  have k0 := obj_cell hO.at_ (k := 0) rfl
  go_wp2_with fail
  refine (clockCheck_ok b 0 cur now hc _ k0).mono ?_
  rintro e w' ⟨rfl, rfl⟩
  go_wp2_with fail
  refine (long_any num _).mono ?_
  rw [hl]
  rintro e w' ⟨rfl, rfl⟩
  have p0 := obj_cell hp (k := 0) rfl
  have p1 := obj_cell hp (k := 1) rfl
  have p2 := obj_cell hp (k := 2) rfl
  have p3 := obj_cell hp (k := 3) rfl
  have p4 := obj_cell hp (k := 4) rfl
  have p5 := obj_cell hp (k := 5) rfl
  go_wp2_with fail
  refine (check_ok 0 0 0 0 false none 0 0 (by decide) _).mono ?_
  rintro e w2 ⟨rfl, k2⟩
  have hO2 := hO.below k2
  have hp2 : PkIn w2 N 0 0 0 0 false (.slice none 0 0) := Below.heapAt k2 hp (lt_of_block hp)
  have kk2 : Hid (KB2 b bm w w2) := Lib.hid (Keeps.trans kk.out (Below.toKeeps k2 (Nat.le_refl _)))
  clear hO hp kk k2 k0 p0 p1 p2 p3 p4 p5 w1
  have k2 := obj_cell hO2.at_ (k := 2) rfl
  have f2 := obj_free hO2.at_ 2
  go_upto_if 33 with fail
  go_cut [] (fun y => Ord y b cur wait T bm c f ∧ PkIn y N 0 0 0 0 false (.slice none 0 0) ∧ Hid (KB2 b bm w y))
  case first =>
    by_cases h5 : next < 0
    · have e : Hid (T = num) := Lib.hid (by rw [hT.out, if_pos h5])
      go_wp2_with fail
      go_meet
      exact ⟨hO2.set (by rw [e.out]; exact obj_set hO2.at_ 2 _), obj_other hp2 (Ne.symm hNb) _, Lib.hid (Keeps.setCell kk2.out (.inl (.inl rfl)) _)⟩
    · have e : Hid (T = next) := Lib.hid (by rw [hT.out, if_neg h5])
      go_wp2_with fail
      go_meet
      exact ⟨by rw [e.out]; exact hO2, hp2, kk2⟩
  case rest =>
  clear hO2 hp2 kk2 k2 f2 w2
  obtain ⟨hO, hp, kk⟩ := hcut
  have k0 := obj_cell hO.at_ (k := 0) rfl
  have k2 := obj_cell hO.at_ (k := 2) rfl
  have f0 := obj_free hO.at_ 0
  go_wp2_with fail
  refine (clockSet_any b 0 now _ _ k0 f0).mono ?_
  rintro e w3 ⟨rfl, rfl⟩
  go_upto_region 14 with fail
  refine abs_at (fun y => Ord y b now wait T bm c f ∧ PkIn y N 0 0 0 0 false (.slice none 0 0) ∧ Hid (KB2 b bm w y)) ⟨hO.set (obj_set hO.at_ 0 _), obj_other hp (Ne.symm hNb) _, Lib.hid (Keeps.setCell kk.out (.inl (.inl rfl)) _)⟩ ?_
  clear hO hp kk k0 k2 f0
  rintro w4 ⟨hO, hp, kk⟩
  have p5 := obj_cell hp (k := 5) rfl
  go_wp2_with fail
  refine (clone_any (.slice none 0 0) [] _ (Sl.nil _) (by simp)).mono ?_
  rintro e w5 ⟨bv, rfl, iv, k5⟩
  obtain ⟨oa8, c8, rfl, _⟩ := bytes_slice (iv _ (Keeps.refl _ _))
  have hO5 := hO.below k5
  have hp5 : PkIn w5 N 0 0 0 0 false (.slice none 0 0) := Below.heapAt k5 hp (lt_of_block hp)
  have kk5 : Hid (KB2 b bm w w5) := Lib.hid (Keeps.trans kk.out (Below.toKeeps k5 (Nat.le_refl _)))
  clear hO hp kk k5 iv p5 w4
  have p5 := obj_cell hp5 (k := 5) rfl
  have f5 := obj_free hp5 5
  have hNw : Hid (w.heap.size ≤ N) := Lib.hid (by have := HN.out; omega)
  go_upto_region 15 with fail
  refine abs_at (fun y => Ord y b now wait T bm c f ∧ PkIn y N 0 0 0 0 false (.slice oa8 0 c8) ∧ Hid (KB2 b bm w y)) ⟨hO5.setOther hNb hNm, obj_set hp5 5 _, Lib.hid (Keeps.setCell kk5.out (.inr hNw.out) _)⟩ ?_
  clear hO5 hp5 kk5 p5 f5
  rintro w6 ⟨hO, hp, kk⟩
  have p0 := obj_cell hp (k := 0) rfl
  have p1 := obj_cell hp (k := 1) rfl
  have p2 := obj_cell hp (k := 2) rfl
  have p3 := obj_cell hp (k := 3) rfl
  have p4 := obj_cell hp (k := 4) rfl
  have p5 := obj_cell hp (k := 5) rfl
  have hT0 : Hid (0 ≤ T) := Lib.hid (by have := hT.out; split at this <;> omega)
  go_wp2_with fail
  refine (orderKeep_new b now wait T bm c f num false 0 0 0 0 false (.slice oa8 0 c8) now hf h1 h2 hm1 hm2 hT0.out hcc _ hO.at_ hO.map hO.ne).mono ?_
  rintro e w7 ⟨rfl, g7, m7, k7⟩
  go_wp2
  go_ret2
  exact ⟨oa8, c8, rfl, ⟨g7, m7, hO.ne⟩, Keeps.trans kk.out (k7.mono (fun _ _ h => .inr h))⟩
end Go.Proofs.YtlfdkoebjddokaaDoor
