import Derived.Test.YtanmokomefdaiaaLink
import Derived.Test.YtanmokomefdaiaaSlice
/-! The walk of the law LinkStays. -/
namespace Go.Proofs.Ytanmokomefdaiaa
open Go.RowKit
set_option linter.unusedVariables false
set_option linter.unusedSimpArgs false

set_option maxRecDepth 100000 in
set_option maxHeartbeats 2000000 in
theorem walk_LinkStays_bad (w : World) (a b : Int) (v : Value) (h : ¬ ((1 ≤ a ∧ a ≤ 1000000) ∧ 1 ≤ b ∧ b ≤ 1000000)) :
    Calls Try.prog 6 #[.int .i64 a, .int .i64 b, v] w fun e w' => e = .returned (.bool true) ∧ Below w.heap.size w w' := by
  by_cases ha : 1 ≤ a ∧ a ≤ 1000000
  · have hb : ¬ (1 ≤ b ∧ b ≤ 1000000) := fun hb => h ⟨ha, hb⟩
    go_enter Try.func6, Try.ntmps6
    go_wp2_with fail
    refine (linkNew_ok a ha.1 ha.2 _).mono ?_
    rintro e w1 ⟨bx, rfl, hbx, gx, k1⟩
    go_wp2_with fail
    refine (linkNew_bad b hb _).mono ?_
    rintro e w2 ⟨rfl, rfl⟩
    clear h hb ha
    go_wp2
    go_ret
    exact ⟨rfl, k1⟩
  · by_cases hb : 1 ≤ b ∧ b ≤ 1000000
    · go_enter Try.func6, Try.ntmps6
      go_wp2_with fail
      refine (linkNew_bad a ha _).mono ?_
      rintro e w1 ⟨rfl, rfl⟩
      go_wp2_with fail
      refine (linkNew_ok b hb.1 hb.2 _).mono ?_
      rintro e w2 ⟨by', rfl, hby, gy, k2⟩
      clear h hb ha
      go_wp2
      go_ret
      exact ⟨rfl, k2⟩
    · go_enter Try.func6, Try.ntmps6
      go_wp2_with fail
      refine (linkNew_bad a ha _).mono ?_
      rintro e w1 ⟨rfl, rfl⟩
      go_wp2_with fail
      refine (linkNew_bad b hb _).mono ?_
      rintro e w2 ⟨rfl, rfl⟩
      clear h hb ha
      go_wp2
      go_ret
      exact ⟨rfl, Below.refl _ _⟩

set_option maxRecDepth 100000 in
set_option maxHeartbeats 4000000 in
theorem walk_LinkStays_none (w : World) (a b : Int) (ha : 1 ≤ a ∧ a ≤ 1000000) (hb : 1 ≤ b ∧ b ≤ 1000000) (oa : Option Addr) (c : Nat) :
    Calls Try.prog 6 #[.int .i64 a, .int .i64 b, .slice oa 0 c] w fun e w' => e = .returned (.bool true) ∧ Below w.heap.size w w' := by
  go_enter Try.func6, Try.ntmps6
  go_wp2_with fail
  refine (linkNew_ok a ha.1 ha.2 _).mono ?_
  rintro e w1 ⟨bx, rfl, hbx, gx, k1⟩
  go_wp2_with fail
  refine (linkNew_ok b hb.1 hb.2 _).mono ?_
  rintro e w2 ⟨by', rfl, hby, gy, k2⟩
  have lx := lt_of_block gx
  have gx2 := LinkAt.below gx k2 lx
  have kb := k1.trans (k2.mono k1.size)
  have hne : bx ≠ by' := by omega
  have hby' : w.heap.size ≤ by' := Nat.le_trans k1.size hby
  have ly := lt_of_block gy
  have s2 := k2.size
  clear k1 k2 gx hby
  go_wp2_with fail
  refine (linkOpen_ok bx ⟨0, a, 0, 0, 0, 0⟩ 0 ⟨by simp, by simp, by simp⟩ (by simp) _ gx2).mono ?_
  rintro e w3 ⟨g1, rfl, hg1, m1, gx3, k3⟩
  have gy3 := LinkAt.other gy k3 (Ne.symm hne)
  have kb3 := kb.trans (k3.below kb.size hbx)
  have s3 := k3.size
  clear k3 gx2 gy kb
  simp only [] at m1 gx3
  go_wp2_with fail
  refine (linkHear_hello by' g1 ⟨0, b, 0, 0, 0, 0⟩ 0 a ⟨by simp, by simp, by simp⟩ (by simp) ⟨by omega, by omega, ha.1, ha.2, by omega, by omega⟩ _ gy3 m1 (by omega)).mono ?_
  rintro e w4 ⟨g2, rfl, hg2, m2, gy4, k4⟩
  have gx4 := LinkAt.other gx3 k4 hne
  have kb4 := kb3.trans (k4.below kb3.size hby')
  have s4 := k4.size
  clear k4 gx3 gy3 kb3 m1
  simp only [Pl.Lk.warm] at m2 gy4
  go_wp2_with fail
  refine (linkHear_reply bx g2 ⟨0, a, 0, 1, 0, 0⟩ 0 b ⟨by simp, by simp, by simp⟩ (by simp) ⟨by omega, by omega, hb.1, hb.2, by have := ha.1; simp; omega, by have := ha.2; simp; omega⟩ _ gx4 m2 (by omega)).mono ?_
  rintro e w5 ⟨g3, rfl, hg3, m3, gx5, k5⟩
  have gy5 := LinkAt.other gy4 k5 (Ne.symm hne)
  have kb5 := kb4.trans (k5.below kb4.size hbx)
  have s5 := k5.size
  clear k5 gx4 gy4 kb4 m2
  simp only [Pl.Lk.warm] at m3 gx5
  go_wp2_with fail
  refine (linkHear_alive by' g3 ⟨0, b, a, 2, 0, 0⟩ 0 ⟨by simp, by simp, by simp⟩ rfl ⟨by omega, by omega, ha.1, ha.2, by have := hb.1; simp; omega, by have := hb.2; simp; omega⟩ _ gy5 m3 (by omega)).mono ?_
  rintro e w6 ⟨rfl, gy6, k6⟩
  have gx6 := LinkAt.other gx5 k6 hne
  have kb6 := kb5.trans (k6.below kb5.size hby')
  clear k6 gx5 gy5 kb5 m3 s2 s3 s4 s5 hg1 hg2 hg3 lx ly
  simp only [Pl.Lk.warm] at gy6
  go_wp2
  refine wp_loop_once ?_
  go_wp2
  go_ret
  exact ⟨rfl, kb6⟩

set_option maxRecDepth 100000 in
set_option maxHeartbeats 16000000 in
theorem walk_LinkStays_run (w : World) (a b : Int) (ha : 1 ≤ a ∧ a ≤ 1000000) (hb : 1 ≤ b ∧ b ≤ 1000000) (b1 f1 c1 n1 : Nat) (zs : Nat → Int) (hc1 : n1 ≤ c1) (hm1 : c1 ≤ maxLen) (hlt : b1 < w.heap.size)
    (hcell : ∀ i, i < n1 → w.cell? ⟨b1, f1 + i, none⟩ = some (.int .i64 (zs i))) :
    Calls Try.prog 6 #[.int .i64 a, .int .i64 b, .slice (some ⟨b1, f1, none⟩) n1 c1] w fun e w' => e = .returned (.bool true) ∧ Below w.heap.size w w' := by
  have HC := Lib.hid hcell
  clear hcell
  unfold maxLen at hm1
  go_enter Try.func6, Try.ntmps6
  go_wp2_with fail
  refine (linkNew_ok a ha.1 ha.2 _).mono ?_
  rintro e w1 ⟨bx, rfl, hbx, gx, k1⟩
  go_wp2_with fail
  refine (linkNew_ok b hb.1 hb.2 _).mono ?_
  rintro e w2 ⟨by', rfl, hby, gy, k2⟩
  have lx := lt_of_block gx
  have gx2 := LinkAt.below gx k2 lx
  have kb := k1.trans (k2.mono k1.size)
  have hne : bx ≠ by' := by omega
  have hby' : w.heap.size ≤ by' := Nat.le_trans k1.size hby
  have ly := lt_of_block gy
  have s2 := k2.size
  clear k1 k2 gx hby
  go_wp2_with fail
  refine (linkOpen_ok bx ⟨0, a, 0, 0, 0, 0⟩ 0 ⟨by simp, by simp, by simp⟩ (by simp) _ gx2).mono ?_
  rintro e w3 ⟨g1, rfl, hg1, m1, gx3, k3⟩
  have gy3 := LinkAt.other gy k3 (Ne.symm hne)
  have kb3 := kb.trans (k3.below kb.size hbx)
  have s3 := k3.size
  clear k3 gx2 gy kb
  simp only [] at m1 gx3
  go_wp2_with fail
  refine (linkHear_hello by' g1 ⟨0, b, 0, 0, 0, 0⟩ 0 a ⟨by simp, by simp, by simp⟩ (by simp) ⟨by omega, by omega, ha.1, ha.2, by omega, by omega⟩ _ gy3 m1 (by omega)).mono ?_
  rintro e w4 ⟨g2, rfl, hg2, m2, gy4, k4⟩
  have gx4 := LinkAt.other gx3 k4 hne
  have kb4 := kb3.trans (k4.below kb3.size hby')
  have s4 := k4.size
  clear k4 gx3 gy3 kb3 m1
  simp only [Pl.Lk.warm] at m2 gy4
  go_wp2_with fail
  refine (linkHear_reply bx g2 ⟨0, a, 0, 1, 0, 0⟩ 0 b ⟨by simp, by simp, by simp⟩ (by simp) ⟨by omega, by omega, hb.1, hb.2, by have := ha.1; simp; omega, by have := ha.2; simp; omega⟩ _ gx4 m2 (by omega)).mono ?_
  rintro e w5 ⟨g3, rfl, hg3, m3, gx5, k5⟩
  have gy5 := LinkAt.other gy4 k5 (Ne.symm hne)
  have kb5 := kb4.trans (k5.below kb4.size hbx)
  have s5 := k5.size
  clear k5 gx4 gy4 kb4 m2
  simp only [Pl.Lk.warm] at m3 gx5
  go_wp2_with fail
  refine (linkHear_alive by' g3 ⟨0, b, a, 2, 0, 0⟩ 0 ⟨by simp, by simp, by simp⟩ rfl ⟨by omega, by omega, ha.1, ha.2, by have := hb.1; simp; omega, by have := hb.2; simp; omega⟩ _ gy5 m3 (by omega)).mono ?_
  rintro e w6 ⟨rfl, gy6, k6⟩
  have gx6 := LinkAt.other gx5 k6 hne
  have kb6 := kb5.trans (k6.below kb5.size hby')
  clear k6 gx5 gy5 kb5 m3 s2 s3 s4 s5 hg1 hg2 hg3 lx ly
  simp only [Pl.Lk.warm] at gy6
  go_wp2
  go_loopw [19, 20] (fun nv i wr => ∃ (k : Nat) (now hx hy : Int), k ≤ n1 ∧ k ≤ 60 ∧ i = .int .i64 k ∧ nv = .int .i64 now ∧ now ≤ 10 * k ∧ 0 ≤ hx ∧ hx ≤ now ∧ 0 ≤ hy ∧ hy ≤ now ∧ now - hx < 10 ∧ now - hy < 10 ∧ LinkAt wr bx ⟨now, a, b, 2, hx, hy⟩ ∧ LinkAt wr by' ⟨now, b, a, 2, hy, hx⟩ ∧ Below w.heap.size w wr) (fun _ i _ => 60 - (intOf i).toNat)
  case atStart => exact ⟨0, 0, 0, 0, by omega, by omega, rfl, rfl, by omega, by omega, by omega, by omega, by omega, by omega, by omega, gx6, gy6, kb6⟩
  case round =>
    clear gx6 gy6 kb6
    obtain ⟨k, now, hx, hy, hk, hk60, rfl, rfl, hnow, hx0, hx1, hy0, hy1, hxn, hyn, gx, gy, kb⟩ := hrel
    by_cases hlt1 : k < n1
    · by_cases hlt2 : k < 60
      · have cz := HC.out k hlt1
        generalize zs k = z at *
        have cz' : wr.cell? ⟨b1, f1 + k, none⟩ = some (.int .i64 z) := by rw [kb.cell (p := ⟨b1, f1 + k, none⟩) hlt]; exact cz
        clear cz
        by_cases hz0 : 0 ≤ z
        · by_cases hz1 : z ≤ 10
          · have lx := lt_of_block gx
            have ly := lt_of_block gy
            by_cases hsx : now + z - hy < 10
            · by_cases hsy : now + z - hx < 10
              · skip
                go_wp2_with fail
                refine (linkTick_quiet bx ⟨now, a, b, 2, hx, hy⟩ (now + z) ⟨by omega, by omega, by simp; omega⟩ rfl (by simp; omega) (by simp; omega) ⟨by omega, by simp; omega, by omega, by simp; omega⟩ _ gx).mono ?_
                rintro e w3 ⟨rfl, gx3, k3⟩
                have gy3 := LinkAt.other gy k3 (Ne.symm hne)
                have kb3 := kb.trans (k3.below kb.size hbx)
                have s3 := k3.size
                clear k3 gx gy kb
                simp only [] at gx3
                go_wp2_with fail
                refine (linkTick_quiet by' ⟨now, b, a, 2, hy, hx⟩ (now + z) ⟨by omega, by omega, by simp; omega⟩ rfl (by simp; omega) (by simp; omega) ⟨by omega, by simp; omega, by omega, by simp; omega⟩ _ gy3).mono ?_
                rintro e w4 ⟨rfl, gy4, k4⟩
                have gx4 := LinkAt.other gx3 k4 hne
                have kb4 := kb3.trans (k4.below kb3.size hby')
                have s4 := k4.size
                clear k4 gx3 gy3 kb3
                simp only [] at gy4
                have gx := gx4
                have gy := gy4
                have kb := kb4
                clear gx4 gy4 kb4
                go_wp2_with fail
                refine (linkState_any bx _ _ gx).mono ?_
                rintro e w' ⟨rfl, rfl⟩
                go_wp2_with fail
                refine (linkState_any by' _ _ gy).mono ?_
                rintro e w' ⟨rfl, rfl⟩
                go_wp2_with fail
                refine (linkOther_any bx _ _ gx).mono ?_
                rintro e w' ⟨rfl, rfl⟩
                go_wp2_with fail
                refine (linkOther_any by' _ _ gy).mono ?_
                rintro e w' ⟨rfl, rfl⟩
                go_wp2
                go_roundw
                case measure => simp [intOf]; omega
                case rel => exact ⟨k + 1, now + z, hx, hy, by omega, by omega, by go_num, by go_num, by omega, by omega, by omega, by omega, by omega, by omega, by omega, gx, gy, kb⟩
              · skip
                go_wp2_with fail
                refine (linkTick_quiet bx ⟨now, a, b, 2, hx, hy⟩ (now + z) ⟨by omega, by omega, by simp; omega⟩ rfl (by simp; omega) (by simp; omega) ⟨by omega, by simp; omega, by omega, by simp; omega⟩ _ gx).mono ?_
                rintro e w3 ⟨rfl, gx3, k3⟩
                have gy3 := LinkAt.other gy k3 (Ne.symm hne)
                have kb3 := kb.trans (k3.below kb.size hbx)
                have s3 := k3.size
                clear k3 gx gy kb
                simp only [] at gx3
                go_wp2_with fail
                refine (linkTick_say by' ⟨now, b, a, 2, hy, hx⟩ (now + z) ⟨by omega, by omega, by simp; omega⟩ rfl (by simp; omega) (by simp; omega) ⟨by omega, by simp; omega, by omega, by simp; omega⟩ _ gy3).mono ?_
                rintro e w4 ⟨gn, rfl, hgn, my, gy4, k4⟩
                have gx4 := LinkAt.other gx3 k4 hne
                have kb4 := kb3.trans (k4.below kb3.size hby')
                have s4 := k4.size
                clear k4 gx3 gy3 kb3
                simp only [] at gy4
                go_wp2_with fail
                refine (linkHear_alive bx gn ⟨now + z, a, b, 2, hx, hy⟩ (now + z) ⟨by omega, by omega, by simp⟩ rfl ⟨by omega, by omega, hb.1, hb.2, by have := ha.1; simp; omega, by have := ha.2; simp; omega⟩ _ gx4 my (by omega)).mono ?_
                rintro e w6 ⟨rfl, gx6, k6⟩
                have gy6 := LinkAt.other gy4 k6 (Ne.symm hne)
                have kb6 := kb4.trans (k6.below kb4.size hbx)
                clear k6 gx4 gy4 kb4
                simp only [Pl.Lk.warm] at gx6
                have gx := gx6
                have gy := gy6
                have kb := kb6
                clear gx6 gy6 kb6
                go_wp2_with fail
                refine (linkState_any bx _ _ gx).mono ?_
                rintro e w' ⟨rfl, rfl⟩
                go_wp2_with fail
                refine (linkState_any by' _ _ gy).mono ?_
                rintro e w' ⟨rfl, rfl⟩
                go_wp2_with fail
                refine (linkOther_any bx _ _ gx).mono ?_
                rintro e w' ⟨rfl, rfl⟩
                go_wp2_with fail
                refine (linkOther_any by' _ _ gy).mono ?_
                rintro e w' ⟨rfl, rfl⟩
                go_wp2
                go_roundw
                case measure => simp [intOf]; omega
                case rel => exact ⟨k + 1, now + z, now + z, hy, by omega, by omega, by go_num, by go_num, by omega, by omega, by omega, by omega, by omega, by omega, by omega, gx, gy, kb⟩
            · by_cases hsy : now + z - hx < 10
              · skip
                go_wp2_with fail
                refine (linkTick_say bx ⟨now, a, b, 2, hx, hy⟩ (now + z) ⟨by omega, by omega, by simp; omega⟩ rfl (by simp; omega) (by simp; omega) ⟨by omega, by simp; omega, by omega, by simp; omega⟩ _ gx).mono ?_
                rintro e w3 ⟨gm, rfl, hgm, mx, gx3, k3⟩
                have gy3 := LinkAt.other gy k3 (Ne.symm hne)
                have kb3 := kb.trans (k3.below kb.size hbx)
                have s3 := k3.size
                clear k3 gx gy kb
                simp only [] at gx3
                go_wp2_with fail
                refine (linkTick_quiet by' ⟨now, b, a, 2, hy, hx⟩ (now + z) ⟨by omega, by omega, by simp; omega⟩ rfl (by simp; omega) (by simp; omega) ⟨by omega, by simp; omega, by omega, by simp; omega⟩ _ gy3).mono ?_
                rintro e w4 ⟨rfl, gy4, k4⟩
                have gx4 := LinkAt.other gx3 k4 hne
                have kb4 := kb3.trans (k4.below kb3.size hby')
                have s4 := k4.size
                have mx4 := MsgAt.other mx k4 (by omega)
                clear k4 gx3 gy3 kb3
                simp only [] at gy4
                go_wp2_with fail
                refine (linkHear_alive by' gm ⟨now + z, b, a, 2, hy, hx⟩ (now + z) ⟨by omega, by omega, by simp⟩ rfl ⟨by omega, by omega, ha.1, ha.2, by have := hb.1; simp; omega, by have := hb.2; simp; omega⟩ _ gy4 mx4 (by omega)).mono ?_
                rintro e w5 ⟨rfl, gy5, k5⟩
                have gx5 := LinkAt.other gx4 k5 hne
                have kb5 := kb4.trans (k5.below kb4.size hby')
                have s5 := k5.size
                clear k5 gx4 gy4 kb4
                simp only [Pl.Lk.warm] at gy5
                have gx := gx5
                have gy := gy5
                have kb := kb5
                clear gx5 gy5 kb5
                go_wp2_with fail
                refine (linkState_any bx _ _ gx).mono ?_
                rintro e w' ⟨rfl, rfl⟩
                go_wp2_with fail
                refine (linkState_any by' _ _ gy).mono ?_
                rintro e w' ⟨rfl, rfl⟩
                go_wp2_with fail
                refine (linkOther_any bx _ _ gx).mono ?_
                rintro e w' ⟨rfl, rfl⟩
                go_wp2_with fail
                refine (linkOther_any by' _ _ gy).mono ?_
                rintro e w' ⟨rfl, rfl⟩
                go_wp2
                go_roundw
                case measure => simp [intOf]; omega
                case rel => exact ⟨k + 1, now + z, hx, now + z, by omega, by omega, by go_num, by go_num, by omega, by omega, by omega, by omega, by omega, by omega, by omega, gx, gy, kb⟩
              · skip
                go_wp2_with fail
                refine (linkTick_say bx ⟨now, a, b, 2, hx, hy⟩ (now + z) ⟨by omega, by omega, by simp; omega⟩ rfl (by simp; omega) (by simp; omega) ⟨by omega, by simp; omega, by omega, by simp; omega⟩ _ gx).mono ?_
                rintro e w3 ⟨gm, rfl, hgm, mx, gx3, k3⟩
                have gy3 := LinkAt.other gy k3 (Ne.symm hne)
                have kb3 := kb.trans (k3.below kb.size hbx)
                have s3 := k3.size
                clear k3 gx gy kb
                simp only [] at gx3
                go_wp2_with fail
                refine (linkTick_say by' ⟨now, b, a, 2, hy, hx⟩ (now + z) ⟨by omega, by omega, by simp; omega⟩ rfl (by simp; omega) (by simp; omega) ⟨by omega, by simp; omega, by omega, by simp; omega⟩ _ gy3).mono ?_
                rintro e w4 ⟨gn, rfl, hgn, my, gy4, k4⟩
                have gx4 := LinkAt.other gx3 k4 hne
                have kb4 := kb3.trans (k4.below kb3.size hby')
                have s4 := k4.size
                have mx4 := MsgAt.other mx k4 (by omega)
                clear k4 gx3 gy3 kb3
                simp only [] at gy4
                go_wp2_with fail
                refine (linkHear_alive by' gm ⟨now + z, b, a, 2, hy, now + z⟩ (now + z) ⟨by omega, by omega, by simp⟩ rfl ⟨by omega, by omega, ha.1, ha.2, by have := hb.1; simp; omega, by have := hb.2; simp; omega⟩ _ gy4 mx4 (by omega)).mono ?_
                rintro e w5 ⟨rfl, gy5, k5⟩
                have gx5 := LinkAt.other gx4 k5 hne
                have kb5 := kb4.trans (k5.below kb4.size hby')
                have s5 := k5.size
                have my5 := MsgAt.other my k5 (by omega)
                clear k5 gx4 gy4 kb4
                simp only [Pl.Lk.warm] at gy5
                go_wp2_with fail
                refine (linkHear_alive bx gn ⟨now + z, a, b, 2, hx, now + z⟩ (now + z) ⟨by omega, by omega, by simp⟩ rfl ⟨by omega, by omega, hb.1, hb.2, by have := ha.1; simp; omega, by have := ha.2; simp; omega⟩ _ gx5 my5 (by omega)).mono ?_
                rintro e w6 ⟨rfl, gx6, k6⟩
                have gy6 := LinkAt.other gy5 k6 (Ne.symm hne)
                have kb6 := kb5.trans (k6.below kb5.size hbx)
                clear k6 gx5 gy5 kb5
                simp only [Pl.Lk.warm] at gx6
                have gx := gx6
                have gy := gy6
                have kb := kb6
                clear gx6 gy6 kb6
                go_wp2_with fail
                refine (linkState_any bx _ _ gx).mono ?_
                rintro e w' ⟨rfl, rfl⟩
                go_wp2_with fail
                refine (linkState_any by' _ _ gy).mono ?_
                rintro e w' ⟨rfl, rfl⟩
                go_wp2_with fail
                refine (linkOther_any bx _ _ gx).mono ?_
                rintro e w' ⟨rfl, rfl⟩
                go_wp2_with fail
                refine (linkOther_any by' _ _ gy).mono ?_
                rintro e w' ⟨rfl, rfl⟩
                go_wp2
                go_roundw
                case measure => simp [intOf]; omega
                case rel => exact ⟨k + 1, now + z, now + z, now + z, by omega, by omega, by go_num, by go_num, by omega, by omega, by omega, by omega, by omega, by omega, by omega, gx, gy, kb⟩
          · go_wp2
            go_roundw
            case measure => simp [intOf]; omega
            case rel => exact ⟨k + 1, now, hx, hy, by omega, by omega, by go_num, rfl, by omega, hx0, hx1, hy0, hy1, hxn, hyn, gx, gy, kb⟩
        · go_wp2
          go_roundw
          case measure => simp [intOf]; omega
          case rel => exact ⟨k + 1, now, hx, hy, by omega, by omega, by go_num, rfl, by omega, hx0, hx1, hy0, hy1, hxn, hyn, gx, gy, kb⟩
      · have : k = 60 := by omega
        subst this
        go_wp2
        go_ret
        exact ⟨rfl, kb⟩
    · go_wp2
      go_ret
      exact ⟨rfl, kb⟩

theorem walk_LinkStays (w : World) (a : Int) (w0 : (Lit.int .i64 a).wf = true) (b : Int) (w1 : (Lit.int .i64 b).wf = true) (v : Value) (l : List Int) (o : IsInts w v l) :
    Calls Try.prog 6 #[.int .i64 a, .int .i64 b, v] w fun e w' => e = .returned (.bool true) ∧ Below w.heap.size w w' := by
  by_cases h : (1 ≤ a ∧ a ≤ 1000000) ∧ 1 ≤ b ∧ b ≤ 1000000
  · rcases o with ⟨⟨rfl, oa, cap, rfl, _, _⟩ | ⟨b1, f1, c1, rfl, q1, q2, q3⟩, _⟩
    · exact walk_LinkStays_none w a b h.1 h.2 oa cap
    · by_cases hn : l = []
      · subst hn
        exact walk_LinkStays_none w a b h.1 h.2 _ c1
      · have hp : 0 < l.length := List.length_pos_iff.2 hn
        exact walk_LinkStays_run w a b h.1 h.2 b1 f1 c1 l.length (fun i => l.getD i 0) q1 q2 (Sl.lt (q3 0 hp)) (fun i hi => by rw [q3 i hi]; simp [List.getD, hi])
  · exact walk_LinkStays_bad w a b v h
end Go.Proofs.Ytanmokomefdaiaa
