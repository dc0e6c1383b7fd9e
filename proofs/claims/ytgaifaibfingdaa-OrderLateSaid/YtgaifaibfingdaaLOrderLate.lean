import Derived.Test.YtgaifaibfingdaaPLate
import Derived.Lib.SmallJoins
import Derived.Laws.OwnMore
/-! The walk of the law OrderLate . -/
namespace Go.Proofs.Ytgaifaibfingdaa
open Go.RowKit
set_option linter.unusedVariables false
set_option linter.unusedSimpArgs false
set_option maxRecDepth 100000 in
set_option maxHeartbeats 2000000 in
theorem walk_OrderLate_bad (a0 a1 : Int) (late : Bool) (h : ¬ (0 ≤ a0 ∧ a0 ≤ 1000000 ∧ 1 ≤ a1 ∧ a1 ≤ 100000)) (w : World) :
    Calls Try.prog 3 #[.int .i64 a0, .int .i64 a1, .bool late] w fun e w' => e = .returned (.bool true) ∧ Below w.heap.size w w' := by
  have G := Lib.hid h
  clear h
  have fin : ∀ r : Bool, r = true → Ending.returned (.bool r) = .returned (.bool true) := fun r h => by rw [h]
  have Fin := Lib.hid fin
  clear fin
  by_cases hw : 0 ≤ a1 ∧ a1 ≤ 1000000
  · obtain ⟨h1, h2⟩ := hw
    go_enter Try.func3, Try.ntmps3
    go_wp2_with fail
    refine (orderNew_ok a1 h1 h2 _).mono ?_
    rintro e w1 ⟨b, bm, rfl, hb, hbm, hne, g1, m1, k1⟩
    clear g1 m1
    go_upto_region 3 with fail
    all_goals first
      | (exfalso; have := G.out; omega)
      | (go_wp2; go_ret; exact ⟨by first | rfl | simp, k1⟩)
  · have HW := Lib.hid hw
    go_enter Try.func3, Try.ntmps3
    go_wp2_with fail
    refine (orderNew_bad a1 hw _).mono ?_
    rintro e w1 ⟨rfl, rfl⟩
    clear hw
    go_wp2
    all_goals first
      | (exfalso; have := HW.out; omega)
      | (go_ret; exact ⟨Fin.out _ (by have := HW.out; simp <;> omega), Below.refl _ _⟩)
set_option maxRecDepth 100000 in
set_option maxHeartbeats 8000000 in
theorem walk_OrderLate_run (a0 a1 : Int) (late : Bool) (h1 : 0 ≤ a0) (h2 : a0 ≤ 1000000) (h3 : 1 ≤ a1) (h4 : a1 ≤ 100000) (w : World) :
    Calls Try.prog 3 #[.int .i64 a0, .int .i64 a1, .bool late] w fun e w' => e = .returned (.bool true) ∧ Below w.heap.size w w' := by
  go_enter Try.func3, Try.ntmps3
  go_wp2_with fail
  refine (orderNew_ok a1 (by omega) (by omega) _).mono ?_
  rintro e w1 ⟨b, bm, rfl, hb, hbm, hne, g1, m1, k1⟩
  have O1 : Ord w1 b 0 a1 (-1) bm 0 (fun _ => none) := ⟨g1, m1, hne⟩
  clear g1 m1
  go_wp2_with fail
  refine (orderPush_new b 0 a1 (-1) 0 bm 0 (fun _ => none) a0 a0 (Lib.hid (by simp)) ⟨by decide, by decide, by decide⟩ (by simp [Pl.long]; omega) (by decide) (by decide) rfl (Int.le_refl _) (by omega) (by decide) _ O1).mono ?_
  rintro e w2 ⟨oa1, cc1, rfl, O2, k2⟩
  obtain ⟨f1, hf1⟩ : ∃ f1 : Int → Option Value, f1 = fun j => if j = a0 then some (keptV a0 false 0 0 0 0 false (.slice oa1 0 cc1) 0) else none := ⟨_, rfl⟩
  rw [← hf1] at O2
  have F1 : Hid (∀ j, f1 j = if j = a0 then some (keptV a0 false 0 0 0 0 false (.slice oa1 0 cc1) 0) else none) := Lib.hid (fun j => by rw [hf1])
  clear hf1
  have kb2 : Below w.heap.size w w2 := k1.trans (Keeps.below k2 k1.size (fun k hk e => by rcases e with e | e <;> omega))
  clear k1 k2 O1
  go_wp2_with fail
  refine (orderPush_new b 0 a1 a0 0 bm 1 f1 (a0 + 2) a0 (Lib.hid (by rw [if_neg (by omega)])) ⟨by decide, by decide, by decide⟩ (by simp [Pl.long]; omega) (by omega) (by omega) (by rw [F1.out, if_neg (by omega)]) (by omega) (by omega) (by decide) _ O2).mono ?_
  rintro e w3 ⟨oa2, cc2, rfl, O3, k3⟩
  obtain ⟨f2, hf2⟩ : ∃ f2 : Int → Option Value, f2 = fun j => if j = a0 + 2 then some (keptV (a0 + 2) false 0 0 0 0 false (.slice oa2 0 cc2) 0) else f1 j := ⟨_, rfl⟩
  rw [← hf2] at O3
  have F2 : Hid (∀ j, f2 j = if j = a0 + 2 then some (keptV (a0 + 2) false 0 0 0 0 false (.slice oa2 0 cc2) 0) else f1 j) := Lib.hid (fun j => by rw [hf2])
  clear hf2
  have kb3 : Below w.heap.size w w3 := kb2.trans (Keeps.below k3 kb2.size (fun k hk e => by rcases e with e | e <;> omega))
  clear kb2 k3 O2
  have A2 : Hid (AllKept f2) := Lib.hid (fun i v hv => by
    rw [F2.out, F1.out] at hv
    split at hv
    · simp at hv; exact ⟨_, _, _, _, _, _, _, _, _, _, _, hv.symm, by decide, by decide⟩
    · split at hv
      · simp at hv; exact ⟨_, _, _, _, _, _, _, _, _, _, _, hv.symm, by decide, by decide⟩
      · cases hv)
  have K2 : Hid (∀ i, (f2 i).isSome = true → a0 ≤ i ∧ i < a0 + 3) := Lib.hid (fun i hi => by
    rw [F2.out, F1.out] at hi
    split at hi
    · omega
    · split at hi
      · omega
      · simp at hi)
  go_wp2_with fail
  refine (orderPop_any b 0 a1 a0 0 bm 2 f2 (a0 + 3) A2.out K2.out (by omega) (by omega) h1 (by omega) ⟨by decide, by decide, by decide⟩ _ O3).mono ?_
  rintro e w4 ⟨L, f3, nx, c3, v4, rfl, hp, hn, hnw, row4, O4, hc3, k4⟩
  have H0 : f2 a0 = some (keptV a0 false 0 0 0 0 false (.slice oa1 0 cc1) 0) := by rw [F2.out, if_neg (by omega), F1.out, if_pos rfl]
  rcases hp.first_has H0 with ⟨_, rfl, rfl⟩ | ⟨L', rfl, hp'⟩
  · rw [H0] at hn
    cases hn
  have hz : (fun j => if j = a0 then none else f2 j) (a0 + 1) = none := by
    show (if a0 + 1 = a0 then none else f2 (a0 + 1)) = none
    rw [if_neg (by omega), F2.out, if_neg (by omega), F1.out, if_neg (by omega)]
  have hnw0 : ¬ Waited (fun j => if j = a0 then none else f2 j) 0 a1 := by
    rintro ⟨i, num, gone, s, t, l, lv, st, oa, bn, bc, at', g1, g2⟩
    simp only [F2.out, F1.out] at g1
    split at g1
    · cases g1
    · split at g1
      · simp at g1
        obtain ⟨_, _, _, _, _, _, _, _, g3⟩ := g1
        omega
      · cases g1
  obtain ⟨rfl, rfl, rfl⟩ := hp'.stay hz hnw0
  obtain ⟨g1, cap1, rfl⟩ := Joins.ownsRow_form row4 (by simp)
  obtain ⟨f3, hf3⟩ : ∃ f3 : Int → Option Value, f3 = fun j => if j = a0 then none else f2 j := ⟨_, rfl⟩
  rw [← hf3] at O4
  have F3 : Hid (∀ j, f3 j = if j = a0 + 2 then some (keptV (a0 + 2) false 0 0 0 0 false (.slice oa2 0 cc2) 0) else none) := Lib.hid (fun j => by
    rw [hf3]
    show (if j = a0 then none else f2 j) = _
    rw [F2.out, F1.out]
    split
    · rw [if_neg (by omega)]
    · rfl)
  have kb4 : Below w.heap.size w w4 := kb3.trans (Keeps.below k4 kb3.size (fun k hk e => by rcases e with e | e <;> omega))
  have A3 : Hid (AllKept f3) := Lib.hid (fun i v hv => by
    rw [F3.out] at hv
    split at hv
    · simp at hv; exact ⟨_, _, _, _, _, _, _, _, _, _, _, hv.symm, by decide, by decide⟩
    · cases hv)
  have K3 : Hid (∀ i, (f3 i).isSome = true → a0 + 1 ≤ i ∧ i < a0 + 3) := Lib.hid (fun i hi => by
    rw [F3.out] at hi
    split at hi
    · omega
    · simp at hi)
  clear hp hp' hn hnw hnw0 hz H0 hf3 O3 k4 kb3 row4 A2 K2
  have HB : Hid (w.heap.size ≤ b ∧ w.heap.size ≤ bm) := Lib.hid ⟨hb, hbm⟩
  clear hb hbm
  cases late
  · have NOW : Hid (a1 - 1 - 0 < a1) := Lib.hid (by omega)
    go_wp2_with fail
    refine (orderPop_any b 0 a1 (a0 + 1) (a1 - 1) bm c3 f3 (a0 + 3) A3.out K3.out (by omega) (by omega) (by omega) (by omega) ⟨by omega, by omega, by omega⟩ _ O4).mono ?_
    rintro e w5 ⟨L, f', nx, c5, v5, rfl, hp, hn, hnw, row5, O5, hc5, k5⟩
    obtain ⟨rfl, rfl, rfl⟩ := hp.stay (by rw [F3.out, if_neg (by omega)]) (not_waited_one (num := a0 + 2) F3.out NOW.out)
    have V5 := Joins.ownsRow_forms row5
    have kb5 : Below w.heap.size w w5 := kb4.trans (Keeps.below k5 kb4.size (fun k hk e => by have := HB.out; rcases e with e | e <;> omega))
    clear hp hn hnw row5 O4 k5 kb4
    go_wp2_with fail
    refine (orderPush_new b (a1 - 1) a1 (a0 + 1) (a1 - 1) bm c5 f' (a0 + 1) (a0 + 1) (Lib.hid (by rw [if_neg (by omega)])) ⟨by omega, by omega, by omega⟩ (by simp [Pl.long]; omega) (by omega) (by omega) (by rw [F3.out, if_neg (by omega)]) (by omega) (by omega) (by omega) _ O5).mono ?_
    rintro e w6 ⟨oa6, cc6, rfl, O6, k6⟩
    obtain ⟨f4, hf4⟩ : ∃ f4 : Int → Option Value, f4 = fun j => if j = a0 + 1 then some (keptV (a0 + 1) false 0 0 0 0 false (.slice oa6 0 cc6) (a1 - 1)) else f' j := ⟨_, rfl⟩
    rw [← hf4] at O6
    have F4 : Hid (∀ j, f4 j = if j = a0 + 1 then some (keptV (a0 + 1) false 0 0 0 0 false (.slice oa6 0 cc6) (a1 - 1)) else if j = a0 + 2 then some (keptV (a0 + 2) false 0 0 0 0 false (.slice oa2 0 cc2) 0) else none) := Lib.hid (fun j => by rw [hf4, ← F3.out])
    clear hf4
    have A4 : Hid (AllKept f4) := Lib.hid (fun i v hv => by
      rw [F4.out] at hv
      split at hv
      · simp at hv; exact ⟨_, _, _, _, _, _, _, _, _, _, _, hv.symm, by omega, by omega⟩
      · split at hv
        · simp at hv; exact ⟨_, _, _, _, _, _, _, _, _, _, _, hv.symm, by decide, by decide⟩
        · cases hv)
    have K4 : Hid (∀ i, (f4 i).isSome = true → a0 + 1 ≤ i ∧ i < a0 + 3) := Lib.hid (fun i hi => by
      rw [F4.out] at hi
      split at hi
      · omega
      · split at hi
        · omega
        · simp at hi)
    have kb6 : Below w.heap.size w w6 := kb5.trans (Keeps.below k6 kb5.size (fun k hk e => by have := HB.out; rcases e with e | e <;> omega))
    have hs6 : Hid (b < w6.heap.size ∧ bm < w6.heap.size) := Lib.hid ⟨lt_of_block O6.at_, O6.map.lt⟩
    clear O5 k6 kb5
    go_wp2_with fail
    refine (orderPop_any b (a1 - 1) a1 (a0 + 1) (a1 - 1) bm (c5 + 1) f4 (a0 + 3) A4.out K4.out (by omega) (by omega) (by omega) (by omega) ⟨by omega, by omega, by omega⟩ _ O6).mono ?_
    rintro e w7 ⟨L, f7, nx, c7, v7, rfl, hp, hn, hnw, row7, O7, hc7, k7⟩
    obtain ⟨rfl, rfl, hz⟩ := early_pop F4.out hp hn
    obtain ⟨g7, cap7, rfl⟩ := Joins.ownsRow_form row7 (by simp)
    have Z := Lib.hid hz
    have R7 := Lib.hid row7
    have kb7 : Below w.heap.size w w7 := kb6.trans (Keeps.below k7 kb6.size (fun k hk e => by have := HB.out; rcases e with e | e <;> omega))
    clear hp hn hnw hz row7 O6 k7 kb6
    go_wp2_with fail
    refine (orderPush_low b (a1 - 1) a1 (a0 + 3) (a1 - 1) bm c7 f7 a0 (a0 + 3) (Lib.hid (by rw [if_neg (by omega)])) ⟨by omega, by omega, by omega⟩ (by simp [Pl.long]; omega) (by omega) (by omega) (Z.out _) (by omega) (by omega) _ O7).mono ?_
    rintro e w8 ⟨rfl, O8, k8⟩
    have R8 := Lib.hid (rowI_keep R7.out (fun g o hg hM => k8.block g (lt_of_block hg) (by have := hs6.out; rintro (h | h) <;> omega)))
    have kb8 : Hid (Below w.heap.size w w8) := Lib.hid (kb7.trans (Keeps.below k8 kb7.size (fun k hk e => by have := HB.out; rcases e with e | e <;> omega)))
    clear R7 O7 k8 kb7 O8
    have c1 := R8.out.cellAt 1 (by simp)
    have c8 := R8.out.cellAt 8 (by simp)
    simp at c1 c8
    rcases V5 with ⟨rfl, _⟩ | ⟨g5, cap5, rfl⟩
    all_goals (
      go_wp2_with fail
      go_ret
      exact ⟨rfl, kb8.out⟩)
  · go_wp2_with fail
    refine (orderPop_any b 0 a1 (a0 + 1) a1 bm c3 f3 (a0 + 3) A3.out K3.out (by omega) (by omega) (by omega) (by omega) ⟨by omega, by omega, by omega⟩ _ O4).mono ?_
    rintro e w5 ⟨L, f', nx, c5, v5, rfl, hp, hn, hnw, row5, O5, hc5, k5⟩
    obtain ⟨rfl, rfl, hz⟩ := late_pop F3.out (Int.le_refl _) hp hn hnw
    obtain ⟨g2, cap2, rfl⟩ := Joins.ownsRow_form row5 (by simp)
    have Z := Lib.hid hz
    have kb5 : Below w.heap.size w w5 := kb4.trans (Keeps.below k5 kb4.size (fun k hk e => by have := HB.out; rcases e with e | e <;> omega))
    have R5 := Lib.hid row5
    have hs4 : Hid (b < w4.heap.size ∧ bm < w4.heap.size) := Lib.hid ⟨lt_of_block O4.at_, O4.map.lt⟩
    clear hp hn hnw hz row5 O4 k5 kb4
    go_wp2_with fail
    refine (orderPush_low b a1 a1 (a0 + 3) a1 bm c5 f' (a0 + 1) (a0 + 3) (Lib.hid (by rw [if_neg (by omega)])) ⟨by omega, by omega, by omega⟩ (by simp [Pl.long]; omega) (by omega) (by omega) (Z.out _) (by omega) (by omega) _ O5).mono ?_
    rintro e w6 ⟨rfl, O6, k6⟩
    have R6 := Lib.hid (rowI_keep R5.out (fun g o hg hM => k6.block g (lt_of_block hg) (by have := hs4.out; rintro (h | h) <;> omega)))
    have kb6 : Below w.heap.size w w6 := kb5.trans (Keeps.below k6 kb5.size (fun k hk e => by have := HB.out; rcases e with e | e <;> omega))
    clear R5 O5 k6 kb5
    go_wp2_with fail
    refine (orderPop_any b a1 a1 (a0 + 3) a1 bm c5 f' (a0 + 4) (fun i v hv => by rw [Z.out i] at hv; cases hv) (fun i hi => by rw [Z.out i] at hi; cases hi) (by omega) (by omega) (by omega) (by omega) ⟨by omega, by omega, by omega⟩ _ O6).mono ?_
    rintro e w7 ⟨L, f7, nx, c7, v7, rfl, hp, hn, hnw, row7, O7, hc7, k7⟩
    obtain ⟨rfl, rfl, rfl⟩ := hp.stay (Z.out _) (not_waited_none Z.out)
    have R7 := Lib.hid (rowI_keep R6.out (fun g o hg hM => k7.block g (lt_of_block hg) (by have := hs4.out; rintro (h | h) <;> omega)))
    have kb7 : Below w.heap.size w w7 := kb6.trans (Keeps.below k7 kb6.size (fun k hk e => by have := HB.out; rcases e with e | e <;> omega))
    have V7 := Joins.ownsRow_forms row7
    clear hp hn hnw row7 R6 O6 k7 kb6
    go_wp2_with fail
    refine (orderPush_low b a1 a1 (a0 + 3) a1 bm c7 f7 a0 (a0 + 3) (Lib.hid (by rw [if_neg (by omega)])) ⟨by omega, by omega, by omega⟩ (by simp [Pl.long]; omega) (by omega) (by omega) (Z.out _) (by omega) (by omega) _ O7).mono ?_
    rintro e w8 ⟨rfl, O8, k8⟩
    have R8 := Lib.hid (rowI_keep R7.out (fun g o hg hM => k8.block g (lt_of_block hg) (by have := hs4.out; rintro (h | h) <;> omega)))
    have kb8 : Hid (Below w.heap.size w w8) := Lib.hid (kb7.trans (Keeps.below k8 kb7.size (fun k hk e => by have := HB.out; rcases e with e | e <;> omega)))
    clear R7 O7 k8 kb7 O8
    have c1 := R8.out.cellAt 1 (by simp)
    have c9 := R8.out.cellAt 9 (by simp)
    simp at c1 c9
    rcases V7 with ⟨rfl, _⟩ | ⟨g7, cap7, rfl⟩
    all_goals (
      go_wp2_with fail
      go_ret
      exact ⟨rfl, kb8.out⟩)
theorem walk_OrderLate (a0 : Int) (wf0 : (Lit.int .i64 a0).wf = true) (a1 : Int) (wf1 : (Lit.int .i64 a1).wf = true) (late : Bool) (w : World) :
    Calls Try.prog 3 #[.int .i64 a0, .int .i64 a1, .bool late] w fun e w' => e = .returned (.bool true) ∧ Below w.heap.size w w' := by
  by_cases h : 0 ≤ a0 ∧ a0 ≤ 1000000 ∧ 1 ≤ a1 ∧ a1 ≤ 100000
  · exact walk_OrderLate_run a0 a1 late h.1 h.2.1 h.2.2.1 h.2.2.2 w
  · exact walk_OrderLate_bad a0 a1 late h w
end Go.Proofs.Ytgaifaibfingdaa
