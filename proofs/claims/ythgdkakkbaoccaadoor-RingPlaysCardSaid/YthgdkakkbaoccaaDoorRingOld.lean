import Derived.Test.YthgdkakkbaoccaaDoorRing
/-! maps.DeleteFunc, as ring.Put calls it. -/
namespace Go.Proofs.YthgdkakkbaoccaaDoor
open Go.RowKit
open Go.Maps (Keyed)
set_option linter.unusedVariables false
set_option linter.unusedSimpArgs false
/-- what is there while it is struck -/
def Struck (lim : Int) (f : Int → Option Value) (left : Int → Bool) (f' : Int → Option Value) : Prop := ∀ j, f' j = if j ≤ lim ∧ left j = false then none else f j
theorem Struck.start (lim : Int) (f : Int → Option Value) : Struck lim f (fun j => (f j).isSome) f := fun j => by
  split
  · rename_i h; simpa using h.2
  · rfl
theorem Struck.at_ {lim : Int} {f f' : Int → Option Value} {left : Int → Bool} (h : Struck lim f left f') {x : Int} (hx : left x = true) : f' x = f x := by rw [h x, if_neg (by rw [hx]; simp)]
theorem Struck.drop {lim : Int} {f f' : Int → Option Value} {left : Int → Bool} (h : Struck lim f left f') {x : Int} (hx : x ≤ lim) : Struck lim f (fun j => (left j && !decide (j = x)) && !decide (j = x)) (fun j => if j = x then none else f' j) := fun j => by
  by_cases e : j = x
  · subst e; simp [hx]
  · simp [e]; exact h j
theorem Struck.stay {lim : Int} {f f' : Int → Option Value} {left : Int → Bool} (h : Struck lim f left f') {x : Int} (hx : ¬ x ≤ lim) : Struck lim f (fun j => left j && !decide (j = x)) f' := fun j => by
  by_cases e : j = x
  · subst e; simp [hx]; have := h j; simpa [hx] using this
  · simp [e]; exact h j
theorem Struck.done {lim : Int} {f f' : Int → Option Value} {left : Int → Bool} (h : Struck lim f left f') (hl : ∀ j, left j = false) : f' = fun j => if j ≤ lim then none else f j := by
  funext j
  rw [h j]
  simp [hl j]
set_option maxRecDepth 100000 in
set_option maxHeartbeats 4000000 in
theorem ringStrike_any (rb b : Nat) (n top : Int) (bm c : Nat) (f : Int → Option Value) (hn : 1 ≤ n ∧ n ≤ 64) (ht : -1 ≤ top ∧ top ≤ 1099511627776) (hall : AllPk f) (w : World) (h : Rng w b n top bm c f) (hr : w.cell? ⟨rb, 0, none⟩ = some (.pointer (some ⟨b, 0, none⟩))) (hrb : rb ≠ bm) :
    Calls Tryd.prog 58 #[.map (some bm), .func (.func 59) #[] #[.pointer (some ⟨rb, 0, none⟩)]] w fun e w' => e = .returned (.tuple #[]) ∧ (∃ c', c' ≤ c ∧ Rng w' b n top bm c' (fun j => if j ≤ top - n then none else f j)) ∧ KeepsBut bm w w' := by
  have hb := lt_of_block h.at_
  have hbm := h.map.lt
  have hrl : rb < w.heap.size := Sl.lt hr
  have hm := h.map
  have HALL := Lib.hid hall
  have HNE := Lib.hid h.ne
  have HH := Lib.hid h
  have HR := Lib.hid hr
  clear hall h hr
  go_enter Tryd.func58, Tryd.ntmps58
  go_wp2_with (first
    | (at_range; refine wpList_mrange _ rfl _ 104 rfl 3 36 rlaw Tryd.underlying104 bm c f rfl hm ?_; intro w0 hrg0 hg0 hs0)
    | go_in)
  go_frame
  clear hm
  go_loopw [4] (fun _ wr => ∃ (left : Int → Bool) (cnt c' : Nat) (f' : Int → Option Value), RangesAt Tryd.prog 3 wr bm w.heap.size c' f' left cnt ∧ Hid (Struck (top - n) f left f') ∧ c' ≤ c ∧ RingAt wr b n top bm ∧ wr.cell? ⟨rb, 0, none⟩ = some (.pointer (some ⟨b, 0, none⟩)) ∧ Hid (KeepsBut bm w wr))
    (fun _ wr => wr.rangeLeft bm w.heap.size)
  case atStart =>
    refine ⟨_, _, c, f, hrg0, Lib.hid (Struck.start _ _), Nat.le_refl _, ?_, ?_, Lib.hid ⟨hg0.os, hg0.tape, hg0.output, hg0.size, fun k hk _ => hg0.block k hk (by simp)⟩⟩
    · have q := hg0.block b hb (by simp)
      have g := HH.out.at_
      unfold RingAt at *
      rw [q]; exact g
    · rw [World.cell?_of_block (w := w) (hg0.block rb hrl (by simp))]; exact HR.out
  case round =>
    clear hrg0 hg0 hs0
    obtain ⟨left, cnt, c', f', hrg, hst, hc', hg, hcr, kk⟩ := hrel
    have hsz := kk.out.size
    go_wp2_with (first
      | (at_next; refine wpList_mnext _ rfl _ rfl 3 rlaw Tryd.underlying3 bm w.heap.size c' f' left cnt rfl hrg ?_ ?_)
      | go_in)
    · intro h0 hl0
      have e := hst.out.done hl0
      subst e
      have HM := Lib.hid hrg.map
      clear hrg hst
      go_wp2
      go_end0
      exact ⟨rfl, ⟨c', hc', hg, HM.out, HNE.out⟩, kk.out⟩
    · intro x v w1 cnt1 hw hlx hfx hrg1 hlt hg1 hs1 hen
      have hfx' : f x = some v := by rw [← hst.out.at_ hlx]; exact hfx
      obtain ⟨s, t, l, lv, st, oa, bn, bc, rfl⟩ := HALL.out x v hfx'
      have hb1 : b < wr.heap.size := lt_of_block hg
      have hrb1 : rb < wr.heap.size := Sl.lt hcr
      have hg1' : RingAt w1 b n top bm := by
        have q := hg1.block b hb1 (by simp; omega)
        unfold RingAt at *
        rw [q]; exact hg
      have hcr1 : w1.cell? ⟨rb, 0, none⟩ = some (.pointer (some ⟨b, 0, none⟩)) := by
        rw [World.cell?_of_block (w := wr) (hg1.block rb hrb1 (by simp; omega))]; exact hcr
      have kk1 : Hid (KeepsBut bm w w1) := Lib.hid ⟨hg1.os.trans kk.out.os, hg1.tape.trans kk.out.tape, hg1.output.trans kk.out.output, Nat.le_trans kk.out.size hg1.size, fun k hk hne => (hg1.block k (Nat.lt_of_lt_of_le hk kk.out.size) (by simp; omega)).trans (kk.out.block k hk hne)⟩
      have HLE := Lib.hid hrg.left_eq
      have HFX := Lib.hid hfx
      clear hg hcr kk hrg hfx hfx' hg1 hs1
      go_upto_region 3 with fail
      refine abs_at (fun y => Hid (RangesAt Tryd.prog 3 y bm w.heap.size c' f' (fun i => left i && !decide (i = x)) cnt1) ∧ RingAt y b n top bm ∧ y.cell? ⟨rb, 0, none⟩ = some (.pointer (some ⟨b, 0, none⟩)) ∧ PkIn y w1.heap.size s t l lv st (.slice oa bn bc) ∧ Hid (KeepsBut bm w y)) ⟨Lib.hid (hrg1.alloc _), obj_old hg1' _, by rw [Below.cell ((Below.refl _ _).alloc (Nat.le_refl _) _) (p := ⟨rb, 0, none⟩) (Sl.lt hcr1)]; exact hcr1, obj_new _ _, Lib.hid (kk1.out.alloc _)⟩ ?_
      clear hrg1 hg1' hcr1 kk1 hen
      generalize w1.heap.size = N
      rintro y ⟨hrg, hg, hcr, hp, kk⟩
      have p0 := obj_cell hp (k := 0) rfl
      have p1 := obj_cell hp (k := 1) rfl
      have p2 := obj_cell hp (k := 2) rfl
      have p3 := obj_cell hp (k := 3) rfl
      have p4 := obj_cell hp (k := 4) rfl
      have p5 := obj_cell hp (k := 5) rfl
      go_wp2_with fail
      refine (ringOld_any rb b n top bm hn ht x s t l lv st (.slice oa bn bc) _ hg hcr).mono ?_
      rintro e y2 ⟨rfl, k2⟩
      have hrg2 := Lib.hid (hrg.out.below k2)
      have hg2 : RingAt y2 b n top bm := Below.heapAt k2 hg (lt_of_block hg)
      have hcr2 : y2.cell? ⟨rb, 0, none⟩ = some (.pointer (some ⟨b, 0, none⟩)) := by rw [k2.cell (p := ⟨rb, 0, none⟩) (Sl.lt hcr)]; exact hcr
      have kk2 : Hid (KeepsBut bm w y2) := Lib.hid (Keeps.trans kk.out (Below.toKeeps k2 (Nat.le_refl _)))
      have hrR := hrg2.out
      clear p0 p1 p2 p3 p4 p5 hp hg hcr kk k2 hrg y
      by_cases hold : x ≤ top - n
      · go_wp2_with (at_delete; refine wpList_mdrop _ rfl (.tmp 17) (.tmp 18) 104 3 rfl 36 rlaw Tryd.underlying3 Tryd.underlying104 bm w.heap.size c' f' _ cnt1 rfl hrR x rfl hw ?_; intro w3 cnt3 hrg3 hle3 hturn)
        have hgr := hturn.grown
        have hg3 : RingAt w3 b n top bm := by
          have q := hgr.block b (lt_of_block hg2) (by simp [HNE.out])
          unfold RingAt at *
          rw [q]; exact hg2
        have hcr3 : w3.cell? ⟨rb, 0, none⟩ = some (.pointer (some ⟨b, 0, none⟩)) := by
          rw [World.cell?_of_block (w := y2) (hgr.block rb (Sl.lt hcr2) (by simp [hrb]))]; exact hcr2
        have kk3 : Hid (KeepsBut bm w w3) := Lib.hid (Keeps.trans kk2.out ⟨hgr.os, hgr.tape, hgr.output, hgr.size, fun k hk hne => hgr.block k hk (by simpa using hne)⟩)
        have HST := Lib.hid (hst.out.drop hold)
        have HLE3 := Lib.hid hrg3.left_eq
        have HR3 := Lib.hid hrg3
        clear hgr hturn hrg3 hrR
        go_wp2
        go_roundw
        case measure => rw [HLE.out, HLE3.out]; omega
        case rel => exact ⟨_, _, _, _, _, _, _, _, _, _, _, _, _, ⟨_, cnt3, _, _, HR3.out, HST, by first | (split <;> omega) | omega, hg3, hcr3, kk3⟩, rfl⟩
      · have HST := Lib.hid (hst.out.stay hold)
        have HLE3 := Lib.hid hrR.left_eq
        clear hrR
        go_wp2_with fail
        go_roundw
        case measure => rw [HLE.out, HLE3.out]; omega
        case rel => exact ⟨_, cnt1, _, _, hrg2.out, HST, hc', hg2, hcr2, kk2⟩
end Go.Proofs.YthgdkakkbaoccaaDoor
