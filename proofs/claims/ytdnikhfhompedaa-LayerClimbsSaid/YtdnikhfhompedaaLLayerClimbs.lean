import Derived.Test.YtdnikhfhompedaaLayerTake
/-! The walk of the law LayerClimbs. -/
namespace Go.Proofs.Ytdnikhfhompedaa
open Go.RowKit
set_option linter.unusedVariables false
set_option linter.unusedSimpArgs false

theorem pk_zero (a : Int) (h1 : 0 ≤ a) (h2 : a ≤ 3) : Pl.pkOk 0 0 a 0 0 := by unfold Pl.pkOk; omega
theorem Pl.take_first (a : Int) (h1 : 0 ≤ a) (h2 : a ≤ 3) : Pl.take 3 (-1) false false a true = (true, a, false) := by
  unfold Pl.take
  rw [if_neg (by simp), if_neg (by omega), if_neg (by simp), if_pos (by omega)]

/-- what the second start comes to -/
theorem Pl.take_second (m a b : Int) (g : Bool) (h1 : 0 ≤ a) : (Pl.take m a g false b true).1 = (decide (b ≤ m) && (decide (a ≤ b) || g || decide (m < a))) ∧
    (Pl.take m a g false b true).2.1 = if (decide (b ≤ m) && (decide (a ≤ b) || g || decide (m < a))) = true then b else a := by
  unfold Pl.take
  rw [if_neg (by simp)]
  by_cases c1 : m < b
  · rw [if_pos c1]
    have e : decide (b ≤ m) = false := by simpa using c1
    rw [e]; simp
  · rw [if_neg c1, if_neg (by simp)]
    have e : decide (b ≤ m) = true := by simpa using c1
    rw [e]
    by_cases c2 : a ≤ b <;> by_cases c3 : m < a <;> cases g <;> simp [c2, c3]
theorem Pl.wants_second (m a : Int) (g : Bool) (h1 : 0 ≤ a) : Pl.wants m a g = (g || decide (m < a)) := by
  have e : decide (a < 0) = false := by simpa using h1
  simp [Pl.wants, e]

set_option maxRecDepth 100000 in
set_option maxHeartbeats 8000000 in
theorem walk_LayerClimbs_ok (a0 a1 a3 m : Int) (a2 : Bool) (c1 : 0 ≤ a0) (c2 : a0 ≤ 3) (c3 : 0 ≤ a1) (c4 : a1 ≤ 3) (hm : (0 ≤ a3 ∧ a3 ≤ 3 ∧ m = a3) ∨ ((a3 < 0 ∨ 3 < a3) ∧ m = 3)) (w : World) :
    Calls Try.prog 8 #[.int .i64 a0, .int .i64 a1, .bool a2, .int .i64 a3] w fun e w' => e = .returned (.bool true) ∧ Below w.heap.size w w' := by
  have tf := Lib.hid (Pl.take_first a0 c1 c2)
  have TS := Lib.hid (Pl.take_second m a0 a1 a2 c1)
  have TW := Lib.hid (Pl.wants_second m a0 a2 c1)
  have d0 := Lib.hid (show decide (0 ≤ a0) = true by simpa using c1)
  have m1 : 0 ≤ m := by omega
  have m2 : m ≤ 3 := by omega
  have pk1 := Lib.hid (pk_zero a1 c3 c4)
  cases a2
  · rcases hm with ⟨e1, e2, rfl⟩ | ⟨e1, rfl⟩
    · go_enter Try.func8, Try.ntmps8
      go_wp2_with fail
      refine (layerNew_ok 3 (by omega) (by omega) _).mono ?_
      rintro e w1 ⟨b, rfl, hb, g1, k1⟩
      go_wp2_with fail
      refine (layerTake_ok b 3 (-1) (-1) false 1 0 0 a0 0 true none 0 0 (by decide) (by decide) (pk_zero a0 c1 c2) _ g1).mono ?_
      rw [tf.out]
      rintro e w2 ⟨rfl, g2, k2⟩
      have kb2 : Below w.heap.size w w2 := k1.trans (k2.below k1.size hb)
      clear g1 k1 k2
      go_wp2_with fail
      all_goals
        refine (layerLimit_ok b 3 a0 1 false _ m1 m2 _ g2).mono ?_
        rintro e w3 ⟨rfl, g3, k3⟩
        have kb3 : Below w.heap.size w w3 := kb2.trans (k3.below kb2.size hb)
        clear g2 k3 kb2
        go_wp2_with fail
        refine (layerWants_any b _ a0 1 false _ g3).mono ?_
        rw [TW.out]
        rintro e w4 ⟨rfl, k4⟩
        have kb4 : Below w.heap.size w w4 := kb3.trans (k4.mono kb3.size)
        have g4 := Below.heapAt k4 g3 (lt_of_block g3)
        clear g3 k4 kb3
        go_wp2_with fail
        refine (layerTake_ok b _ a0 1 false 3 0 0 a1 0 true none 0 0 (by decide) (by decide) pk1.out _ g4).mono ?_
        rw [TS.out.1, TS.out.2]
        generalize (Pl.take _ a0 false false a1 true).2.2 = brk
        have hcs : ∀ p q r : Prop, [Decidable p] → [Decidable q] → [Decidable r] → True := fun _ _ _ _ _ _ => trivial
        clear hcs
        by_cases c5 : a1 ≤ m <;> by_cases c6 : a0 ≤ a1 <;> by_cases c7 : m < a0
        all_goals first
          | (exfalso; omega)
          | (simp only [c5, c6, c7, decide_true, decide_false, Bool.and_true, Bool.true_and, Bool.false_and, Bool.and_false, Bool.or_true, Bool.true_or, Bool.or_false, Bool.false_or, if_true, if_false, Bool.false_eq_true, reduceIte]
             rintro e w5 ⟨rfl, g5, k5⟩
             have kb5 : Below w.heap.size w w5 := kb4.trans (k5.below kb4.size hb)
             clear g4 k5 kb4
             go_wp2_with (go_at_call 27; refine (layerNow_any b _ _ _ _ _ g5).mono ?_; rintro e w' ⟨rfl, rfl⟩)
             go_ret
             exact ⟨by simp, kb5⟩)
    · go_enter Try.func8, Try.ntmps8
      go_wp2_with fail
      refine (layerNew_ok 3 (by omega) (by omega) _).mono ?_
      rintro e w1 ⟨b, rfl, hb, g1, k1⟩
      go_wp2_with fail
      refine (layerTake_ok b 3 (-1) (-1) false 1 0 0 a0 0 true none 0 0 (by decide) (by decide) (pk_zero a0 c1 c2) _ g1).mono ?_
      rw [tf.out]
      rintro e w2 ⟨rfl, g2, k2⟩
      have kb2 : Below w.heap.size w w2 := k1.trans (k2.below k1.size hb)
      clear g1 k1 k2
      go_wp2_with fail
      all_goals
        refine (layerLimit_ok b 3 a0 1 false _ m1 m2 _ g2).mono ?_
        rintro e w3 ⟨rfl, g3, k3⟩
        have kb3 : Below w.heap.size w w3 := kb2.trans (k3.below kb2.size hb)
        clear g2 k3 kb2
        go_wp2_with fail
        refine (layerWants_any b _ a0 1 false _ g3).mono ?_
        rw [TW.out]
        rintro e w4 ⟨rfl, k4⟩
        have kb4 : Below w.heap.size w w4 := kb3.trans (k4.mono kb3.size)
        have g4 := Below.heapAt k4 g3 (lt_of_block g3)
        clear g3 k4 kb3
        go_wp2_with fail
        refine (layerTake_ok b _ a0 1 false 3 0 0 a1 0 true none 0 0 (by decide) (by decide) pk1.out _ g4).mono ?_
        rw [TS.out.1, TS.out.2]
        generalize (Pl.take _ a0 false false a1 true).2.2 = brk
        have hcs : ∀ p q r : Prop, [Decidable p] → [Decidable q] → [Decidable r] → True := fun _ _ _ _ _ _ => trivial
        clear hcs
        by_cases c5 : a1 ≤ 3 <;> by_cases c6 : a0 ≤ a1 <;> by_cases c7 : 3 < a0
        all_goals first
          | (exfalso; omega)
          | (simp only [c5, c6, c7, decide_true, decide_false, Bool.and_true, Bool.true_and, Bool.false_and, Bool.and_false, Bool.or_true, Bool.true_or, Bool.or_false, Bool.false_or, if_true, if_false, Bool.false_eq_true, reduceIte]
             rintro e w5 ⟨rfl, g5, k5⟩
             have kb5 : Below w.heap.size w w5 := kb4.trans (k5.below kb4.size hb)
             clear g4 k5 kb4
             go_wp2_with (go_at_call 27; refine (layerNow_any b _ _ _ _ _ g5).mono ?_; rintro e w' ⟨rfl, rfl⟩)
             go_ret
             exact ⟨by simp, kb5⟩)
  · rcases hm with ⟨e1, e2, rfl⟩ | ⟨e1, rfl⟩
    · go_enter Try.func8, Try.ntmps8
      go_wp2_with fail
      refine (layerNew_ok 3 (by omega) (by omega) _).mono ?_
      rintro e w1 ⟨b, rfl, hb, g1, k1⟩
      go_wp2_with fail
      refine (layerTake_ok b 3 (-1) (-1) false 1 0 0 a0 0 true none 0 0 (by decide) (by decide) (pk_zero a0 c1 c2) _ g1).mono ?_
      rw [tf.out]
      rintro e w2 ⟨rfl, g2, k2⟩
      have kb2 : Below w.heap.size w w2 := k1.trans (k2.below k1.size hb)
      clear g1 k1 k2
      go_wp2_with fail
      all_goals
        refine (layerLimit_ok b 3 a0 1 false _ m1 m2 _ g2).mono ?_
        rintro e w3 ⟨rfl, g3, k3⟩
        have kb3 : Below w.heap.size w w3 := kb2.trans (k3.below kb2.size hb)
        clear g2 k3 kb2
        go_wp2_with fail
        refine (layerTake_gone b _ a0 1 false 2 0 0 0 0 false (.slice none 0 0) (by decide) (by decide) _ g3).mono ?_
        rw [Bool.false_or, d0.out]
        rintro e w9 ⟨rfl, g9, k9⟩
        have kb9 : Below w.heap.size w w9 := kb3.trans (k9.below kb3.size hb)
        clear g3 k9 kb3
        go_wp2_with fail
        refine (layerWants_any b _ a0 2 true _ g9).mono ?_
        rw [TW.out]
        rintro e w4 ⟨rfl, k4⟩
        have kb4 : Below w.heap.size w w4 := kb9.trans (k4.mono kb9.size)
        have g4 := Below.heapAt k4 g9 (lt_of_block g9)
        clear g9 k4 kb9
        go_wp2_with fail
        refine (layerTake_ok b _ a0 2 true 3 0 0 a1 0 true none 0 0 (by decide) (by decide) pk1.out _ g4).mono ?_
        rw [TS.out.1, TS.out.2]
        generalize (Pl.take _ a0 true false a1 true).2.2 = brk
        have hcs : ∀ p q r : Prop, [Decidable p] → [Decidable q] → [Decidable r] → True := fun _ _ _ _ _ _ => trivial
        clear hcs
        by_cases c5 : a1 ≤ m <;> by_cases c6 : a0 ≤ a1 <;> by_cases c7 : m < a0
        all_goals first
          | (exfalso; omega)
          | (simp only [c5, c6, c7, decide_true, decide_false, Bool.and_true, Bool.true_and, Bool.false_and, Bool.and_false, Bool.or_true, Bool.true_or, Bool.or_false, Bool.false_or, if_true, if_false, Bool.false_eq_true, reduceIte]
             rintro e w5 ⟨rfl, g5, k5⟩
             have kb5 : Below w.heap.size w w5 := kb4.trans (k5.below kb4.size hb)
             clear g4 k5 kb4
             go_wp2_with (go_at_call 27; refine (layerNow_any b _ _ _ _ _ g5).mono ?_; rintro e w' ⟨rfl, rfl⟩)
             go_ret
             exact ⟨by simp, kb5⟩)
    · go_enter Try.func8, Try.ntmps8
      go_wp2_with fail
      refine (layerNew_ok 3 (by omega) (by omega) _).mono ?_
      rintro e w1 ⟨b, rfl, hb, g1, k1⟩
      go_wp2_with fail
      refine (layerTake_ok b 3 (-1) (-1) false 1 0 0 a0 0 true none 0 0 (by decide) (by decide) (pk_zero a0 c1 c2) _ g1).mono ?_
      rw [tf.out]
      rintro e w2 ⟨rfl, g2, k2⟩
      have kb2 : Below w.heap.size w w2 := k1.trans (k2.below k1.size hb)
      clear g1 k1 k2
      go_wp2_with fail
      all_goals
        refine (layerLimit_ok b 3 a0 1 false _ m1 m2 _ g2).mono ?_
        rintro e w3 ⟨rfl, g3, k3⟩
        have kb3 : Below w.heap.size w w3 := kb2.trans (k3.below kb2.size hb)
        clear g2 k3 kb2
        go_wp2_with fail
        refine (layerTake_gone b _ a0 1 false 2 0 0 0 0 false (.slice none 0 0) (by decide) (by decide) _ g3).mono ?_
        rw [Bool.false_or, d0.out]
        rintro e w9 ⟨rfl, g9, k9⟩
        have kb9 : Below w.heap.size w w9 := kb3.trans (k9.below kb3.size hb)
        clear g3 k9 kb3
        go_wp2_with fail
        refine (layerWants_any b _ a0 2 true _ g9).mono ?_
        rw [TW.out]
        rintro e w4 ⟨rfl, k4⟩
        have kb4 : Below w.heap.size w w4 := kb9.trans (k4.mono kb9.size)
        have g4 := Below.heapAt k4 g9 (lt_of_block g9)
        clear g9 k4 kb9
        go_wp2_with fail
        refine (layerTake_ok b _ a0 2 true 3 0 0 a1 0 true none 0 0 (by decide) (by decide) pk1.out _ g4).mono ?_
        rw [TS.out.1, TS.out.2]
        generalize (Pl.take _ a0 true false a1 true).2.2 = brk
        have hcs : ∀ p q r : Prop, [Decidable p] → [Decidable q] → [Decidable r] → True := fun _ _ _ _ _ _ => trivial
        clear hcs
        by_cases c5 : a1 ≤ 3 <;> by_cases c6 : a0 ≤ a1 <;> by_cases c7 : 3 < a0
        all_goals first
          | (exfalso; omega)
          | (simp only [c5, c6, c7, decide_true, decide_false, Bool.and_true, Bool.true_and, Bool.false_and, Bool.and_false, Bool.or_true, Bool.true_or, Bool.or_false, Bool.false_or, if_true, if_false, Bool.false_eq_true, reduceIte]
             rintro e w5 ⟨rfl, g5, k5⟩
             have kb5 : Below w.heap.size w w5 := kb4.trans (k5.below kb4.size hb)
             clear g4 k5 kb4
             go_wp2_with (go_at_call 27; refine (layerNow_any b _ _ _ _ _ g5).mono ?_; rintro e w' ⟨rfl, rfl⟩)
             go_ret
             exact ⟨by simp, kb5⟩)

set_option maxRecDepth 100000 in
set_option maxHeartbeats 1000000 in
theorem walk_LayerClimbs (a0 : Int) (w0 : (Lit.int .i64 a0).wf = true) (a1 : Int) (w1 : (Lit.int .i64 a1).wf = true) (a2 : Bool) (a3 : Int) (w3 : (Lit.int .i64 a3).wf = true) (w : World) :
    Calls Try.prog 8 #[.int .i64 a0, .int .i64 a1, .bool a2, .int .i64 a3] w fun e w' => e = .returned (.bool true) ∧ Below w.heap.size w w' := by
  by_cases hok : 0 ≤ a0 ∧ a0 ≤ 3 ∧ 0 ≤ a1 ∧ a1 ≤ 3
  · obtain ⟨c1, c2, c3, c4⟩ := hok
    by_cases h3 : 0 ≤ a3 ∧ a3 ≤ 3
    · exact walk_LayerClimbs_ok a0 a1 a3 a3 a2 c1 c2 c3 c4 (.inl ⟨h3.1, h3.2, rfl⟩) w
    · exact walk_LayerClimbs_ok a0 a1 a3 3 a2 c1 c2 c3 c4 (.inr ⟨by omega, rfl⟩) w
  · have G := Lib.hid hok
    clear hok
    go_enter Try.func8, Try.ntmps8
    go_wp2_with fail
    refine (layerNew_ok 3 (by omega) (by omega) _).mono ?_
    rintro e w1 ⟨b, rfl, hb, g1, k1⟩
    clear g1
    go_wp2_with fail
    all_goals first
      | (exfalso; have := G.out; omega)
      | (go_ret
         exact ⟨by simp, k1⟩)
end Go.Proofs.Ytdnikhfhompedaa
