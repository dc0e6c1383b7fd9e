import Derived.Test.YtlfdkoebjddokaaDoorOrderPush
import Derived.Maps.RangeWalk
/-! order.waited: a range over the map. -/
namespace Go.Proofs.YtlfdkoebjddokaaDoor
open Go.RowKit
open Go.Maps (Keyed)
set_option linter.unusedVariables false
set_option linter.unusedSimpArgs false
/-- all that lies in the map was kept at a time -/
def AllKept (f : Int → Option Value) : Prop := ∀ i v, f i = some v → ∃ (num : Int) (gone : Bool) (s t l lv : Int) (st : Bool) (oa : Option Addr) (bn bc : Nat) (at' : Int), v = keptV num gone s t l lv st (.slice oa bn bc) at' ∧ 0 ≤ at' ∧ at' ≤ 1000000
/-- something was kept for so long -/
def Waited (f : Int → Option Value) (now wait : Int) : Prop := ∃ (i num : Int) (gone : Bool) (s t l lv : Int) (st : Bool) (oa : Option Addr) (bn bc : Nat) (at' : Int), f i = some (keptV num gone s t l lv st (.slice oa bn bc) at') ∧ wait ≤ now - at'
set_option maxRecDepth 100000 in
set_option maxHeartbeats 4000000 in
theorem orderWaited_any (b : Nat) (cur wait next now : Int) (bm c : Nat) (f : Int → Option Value) (hall : AllKept f) (hn : 0 ≤ now ∧ now ≤ 1000000) (w : World) (hO : Ord w b cur wait next bm c f) :
    Calls Tryd.prog 36 #[.pointer (some ⟨b, 0, none⟩), .int .i64 now] w fun e w' => ∃ r, e = .returned (.bool r) ∧ (r = true → Waited f now wait) ∧ (r = false → ¬ Waited f now wait) ∧ Below w.heap.size w w' := by
  obtain ⟨n1, n2⟩ := hn
  have hb := lt_of_block hO.at_
  have hbm := hO.map.lt
  have HALL := Lib.hid hall
  clear hall
  obtain ⟨D, hown, hsz, hview⟩ := hO.map
  have hg := hO.at_
  have k3 := obj_cell hg (k := 3) rfl
  have HV := Lib.hid hview
  have HG := Lib.hid hg
  have HHAS := Lib.hid (fun i => MapAt.has (P := Tryd.prog) (k := 3) (w := w) (b := bm) (c := c) (f := f) (D := D) hview i)
  clear hview hO hg hsz
  go_enter Tryd.func36, Tryd.ntmps36
  go_wp2_with (first
    | (at_range; refine wpList_range_own _ rfl _ 71 rfl 3 90 mlaw Tryd.underlying71 Rv bm c D rfl hown ?_; intro w0 hrg0 hg0 hs0)
    | go_in)
  go_frame
  clear k3
  go_loopw [12] (fun _ wr => ∃ (left : Lit → Bool) (cnt : Nat), wr.ranges Tryd.prog 3 Rv bm w.heap.size c D left cnt ∧ OrderAt wr b cur wait next bm ∧ Hid (∀ (i num : Int) (gone : Bool) (s t l lv : Int) (st : Bool) (oa : Option Addr) (bn bc : Nat) (at' : Int), f i = some (keptV num gone s t l lv st (.slice oa bn bc) at') → left (.int .i64 i) = false → now - at' < wait) ∧ Below w.heap.size w wr)
    (fun _ wr => wr.rangeLeft bm w.heap.size)
  case atStart =>
    refine ⟨_, _, hrg0, ?_, Lib.hid ?_, ?_⟩
    · have q := hg0.block b hb (by simp)
      have g := HG.out
      unfold OrderAt at *
      rw [q]; exact g
    · intro i num gone s t l lv st oa bn bc at' h1 h2
      have q := HHAS.out i
      rw [h2, h1] at q
      simp at q
    · exact below_grown hg0
  case round =>
    obtain ⟨left, cnt, hrg, hg, hno, kb⟩ := hrel
    go_wp2_with (first
      | (at_next; refine wpList_next_ranges (α := Int) (β := Value) _ rfl _ rfl 3 mlaw Rv (fun x => .int .i64 x) (fun v => v) (fun key kl h => by obtain ⟨x, h1, _⟩ := Maps.keyOf_int_inv Tryd.underlying3 h; exact ⟨x, h1⟩) (fun v y _ => ⟨v, rfl⟩) bm w.heap.size c D left cnt rfl hrg ?_ ?_)
      | go_in)
    · intro h0 hl0
      go_wp2
      go_ret
      refine ⟨false, rfl, (fun h => by cases h), ?_, kb⟩
      rintro _ ⟨i, num, gone, s, t, l, lv, st, oa, bn, bc, at', h1, h2⟩
      have := hno.out i num gone s t l lv st oa bn bc at' h1 (hl0 _)
      omega
    · intro x v kl y1 y2 w1 cnt1 hk hlx hv hat hrg1 hlt hg1 hs1 hen
      obtain ⟨x', e1, e2, hw⟩ := Maps.keyOf_int_inv Tryd.underlying3 hk
      simp only [Value.int.injEq, true_and] at e1
      subst e1
      subst e2
      have hfx : f x = some v := by
        have q0 := HV.out x .nil
        rw [hat .nil] at q0
        simp only [Rv, Option.some.injEq, Prod.mk.injEq] at hv
        rw [← hv.1] at q0
        cases hf : f x with
        | none => rw [hf] at q0; simp [Rd] at q0
        | some u => rw [hf] at q0; simp [Rd] at q0; rw [q0]
      obtain ⟨num, gone, s, t, l, lv, st, oa, bn, bc, at', rfl, t1, t2⟩ := HALL.out x v hfx
      have HF := Lib.hid hfx
      have HNO := Lib.hid hno
      have hb1 : b < wr.heap.size := lt_of_block hg
      have hg1' : OrderAt w1 b cur wait next bm := by
        have q := hg1.block b hb1 (by have := hb; simp; omega)
        unfold OrderAt at *
        rw [q]; exact hg
      have kb1 : Below w.heap.size w w1 := kb.trans ((Below.refl _ _).grown hg1 kb.size (fun j hj => by cases hj; exact Nat.le_refl _))
      clear hfx hno hk hv hat hw hg hs1
      go_upto_region 4 with fail
      have hN8 : ∀ o : Array Value, o[8]? = some (.int .i64 at') → (w1.alloc (.cells o 90)).cell? ⟨w1.heap.size, 8, none⟩ = some (.int .i64 at') := fun o ho => obj_cell (obj_new w1 _) ho
      refine abs_at (fun y => y.ranges Tryd.prog 3 Rv bm w.heap.size c D (fun z => left z && !z.sameKey (.int .i64 x)) cnt1 ∧ OrderAt y b cur wait next bm ∧ y.cell? ⟨w1.heap.size, 8, none⟩ = some (.int .i64 at') ∧ Hid (Below w.heap.size w y)) ⟨?_, ?_, ?_, ?_⟩ ?_
      · exact hrg1.alloc _
      · exact obj_old hg1' _
      · exact hN8 _ rfl
      · exact Lib.hid (kb1.alloc kb1.size _)
      clear hN8 hg1' kb1 hen hg1
      have hle := hrg.left_eq
      have HLE := Lib.hid hle
      clear hle hrg
      generalize w1.heap.size = N
      rintro wy ⟨hrg2, hg2, hc8, kb2⟩
      have HR := Lib.hid hrg2
      clear hrg1 hrg2
      have k1 := obj_cell hg2 (k := 1) rfl
      cases e : decide (wait ≤ now - at')
      · have step : ∀ (i num' : Int) (gone' : Bool) (s' t' l' lv' : Int) (st' : Bool) (oa' : Option Addr) (bn' bc' : Nat) (at'' : Int), f i = some (keptV num' gone' s' t' l' lv' st' (.slice oa' bn' bc') at'') → (left (.int .i64 i) && !(Lit.int .i64 i).sameKey (.int .i64 x)) = false → now - at'' < wait := by
          intro i num' gone' s' t' l' lv' st' oa' bn' bc' at'' h1 h2
          by_cases hi : i = x
          · subst hi
            rw [HF.out] at h1
            simp at h1
            obtain ⟨_, _, _, _, _, _, _, _, h9⟩ := h1
            rw [← h9]
            simpa using e
          · rw [Maps.sameKey_ne (by simpa using hi)] at h2
            exact HNO.out i num' gone' s' t' l' lv' st' oa' bn' bc' at'' h1 (by simpa using h2)
        have STEP := Lib.hid step
        clear step
        go_quiet (fail)
        go_wp2
        go_roundw
        case measure =>
          rw [HLE.out]
          have q := HR.out.left_eq
          first | (rw [q]; exact hlt) | (simp only [World.rangeLeft] at q ⊢; simp [q]; exact hlt) | (show World.rangeLeft wy _ _ < _; rw [q]; exact hlt)
        case rel => exact ⟨fun z => left z && !z.sameKey (.int .i64 x), cnt1, (show World.ranges _ _ _ _ _ _ _ _ _ _ from HR.out), hg2, STEP, Below.drewN kb2.out _⟩
      · have hwt : Hid (wait ≤ now - at') := Lib.hid (by simpa using e)
        go_quiet (fail)
        go_wp2
        go_ret
        exact ⟨true, rfl, fun _ => ⟨x, num, gone, s, t, l, lv, st, oa, bn, bc, at', HF.out, hwt.out⟩, (fun h => by cases h), Below.drewN kb2.out _⟩
end Go.Proofs.YtlfdkoebjddokaaDoor
