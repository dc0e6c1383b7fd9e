import Derived.Test.YthgdkakkbaoccaaDoorPPlaysS
import Derived.Deep.QuietTactic
import Derived.BigQuiet
import Derived.Deep.CutBlock
import Derived.Deep.DeepCutAuto
import Derived.Deep.RegionHeld3
import Derived.Deep.MidRow
/-! The walk of the law PullPlays. -/
namespace Go.Proofs.YthgdkakkbaoccaaDoor
open Go.RowKit
set_option linter.unusedVariables false
set_option linter.unusedSimpArgs false
set_option maxRecDepth 100000 in
set_option maxHeartbeats 8000000 in
theorem walk_PullPlays_run (w : World) (hE : Env w) (th : Int) (oa1 : Option Addr) (n1 c1 : Nat) (hm1 : n1 ≤ maxLen)
    (hz1 : ∀ k, k < n1 → ∃ b f oa n c, oa1 = some ⟨b, f, none⟩ ∧ b < w.heap.size ∧ w.cell? ⟨b, f + k, none⟩ = some (.slice oa n c) ∧ n ≤ maxLen ∧ ∀ j, j < n → ∃ b' f' x, oa = some ⟨b', f', none⟩ ∧ b' < w.heap.size ∧ w.cell? ⟨b', f' + j, none⟩ = some (.int .i64 x)) :
    Calls Tryd.prog 7 #[.int .i64 th, .slice oa1 n1 c1] w fun e w' => e = .returned (.bool true) ∧ Below w.heap.size w w' := by
  have HZ1 := Lib.hid hz1
  have HE := Lib.hid hE
  clear hz1 hE
  unfold maxLen at hm1
  go_enter Tryd.func7, Tryd.ntmps7
  by_cases hth : 1 ≤ th ∧ th ≤ 1000000
  case neg =>
    have HTH := Lib.hid hth
    have EA := Lib.hid ((error_hit 1 1 w HE.out).mono (fun e w' ⟨h1, h2⟩ => (show e = Ending.returned (.bool true) ∧ Below w.heap.size w w' from ⟨by rw [h1]; simp, h2⟩)))
    go_wp2_with fail
    refine (pullNew_bad th hth _).mono ?_
    rintro e w5 ⟨rfl, rfl⟩
    clear hth
    go_wp2_with (go_at_call 9; (with_reducible refine EA.out.mono ?_); rintro e w6 ⟨rfl, k6⟩)
    all_goals first
      | (exfalso; have := HTH.out; omega)
      | (go_ret; exact ⟨rfl, k6⟩)
  obtain ⟨ht1, ht2⟩ := hth
  go_wp2_with fail
  refine (pullNew_ok th ht1 ht2 _).mono ?_
  rintro e w5 ⟨b, mp, rfl, P5, k5⟩
  have EA := Lib.hid (error_nil 0 w5)
  have P5' := Lib.hid P5
  have kb5 := Lib.hid k5
  clear P5 k5
  go_upto_region 10 with (go_at_call 9; refine EA.out.mono ?_; rintro e w6 ⟨rfl, rfl⟩)
  have hM := Nat.le_refl w.heap.size
  refine abs_to (fun y => Hid (StE w.heap.size w th b mp w5.heap.size 0 y)) (Lib.hid ⟨0, fun _ => 0, fun _ => 0, fun _ => 0, fun _ _ => none, .slice none 0 0, [], ⟨P5'.out.below ((Below.refl _ _).alloc (Nat.le_refl _) _), ⟨obj_new _ _, World.ownsRow_nil _ _ _ _, kb5.out.size⟩, PR2.start, by simp, fun _ => Nat.le_refl _, fun _ => ⟨by omega, by omega⟩, ⟨by omega, by omega⟩, kb5.out.alloc kb5.out.size _⟩⟩) ?_
  generalize w5.heap.size = rb at *
  clear P5' kb5 EA
  rintro y0 S0
  go_loopw [10] (fun s10 wr => ∃ i : Nat, i ≤ n1 ∧ i ≤ 60 ∧ s10 = .int .i64 i ∧ Hid (StE w.heap.size w th b mp rb i wr)) (fun s10 _ => 60 - (RowKit.intOf s10).toNat)
  case atStart => exact ⟨0, by omega, by omega, rfl, S0⟩
  case round =>
    clear S0
    obtain ⟨i, hin, hi60, rfl, ST⟩ := hrel
    by_cases hlt : i < n1 ∧ i < 60
    · obtain ⟨hl1, hl2⟩ := hlt
      obtain ⟨b1, f1, oa, n, c, rfl, hb1, q0, hnm, hz⟩ := HZ1.out i hl1
      have Q := Lib.hid (fun y (k : Below w.heap.size w y) => (k.cell (p := ⟨b1, f1 + i, none⟩) hb1).trans q0)
      have HZ := Lib.hid hz
      unfold maxLen at hnm
      clear q0 hz
      go_upto_region 13 with fail
      have SA0 := Lib.hid (StA.start ST.out hM)
      have hA : w.heap.size ≤ wr.heap.size := by obtain ⟨_, _, _, _, _, _, _, s⟩ := ST.out; exact s.kb.size
      refine abs_to (fun y => Hid (StA w.heap.size w th b mp rb i wr.heap.size (fun _ => 0) y)) SA0 ?_
      clear SA0 ST
      obtain ⟨A, hAe⟩ : ∃ A, wr.heap.size = A := ⟨_, rfl⟩
      rw [hAe] at hA ⊢
      clear hAe
      rintro y1 SA
      go_upto_region 14 with fail
      go_loopw [12] (fun s12 wr => ∃ (j : Nat) (a : Nat → Int), j ≤ 4 ∧ s12 = .int .i64 j ∧ Hid (StA w.heap.size w th b mp rb i A a wr)) (fun s12 _ => 4 - (RowKit.intOf s12).toNat)
      case atStart => exact ⟨0, _, by omega, rfl, SA⟩
      case round =>
        clear SA
        obtain ⟨j, a, hj4, rfl, SA⟩ := hrel
        have q := Q.out wr SA.out.kb
        by_cases hj : j < n ∧ j < 4
        · obtain ⟨hj1, hj2⟩ := hj
          obtain ⟨b', f', x, rfl, hb', c0⟩ := HZ.out j hj1
          have c1 := (SA.out.kb.cell (p := ⟨b', f' + j, none⟩) hb').trans c0
          have c2 := SA.out.2.cell j hj2
          have f2 := obj_free SA.out.2 j
          have SB := Lib.hid (SA.out.put hA j hj2 x)
          generalize a j = aj at *
          clear SA c0
          go_wp2_with fail
          go_roundw
          case measure => simp [RowKit.intOf]; omega
          case rel => exact ⟨j + 1, _, by omega, rfl, SB⟩
        · have hj' := Lib.hid hj
          clear hj
          go_upto_region 14 with fail
          go_cut [62] from 42 to 62 (fun v x => v = .bool false ∧ wr = x)
          case first =>
            go_wp2_with fail
            all_goals first
              | (exfalso; have := hj'.out; omega)
              | (go_meet; exact ⟨rfl, rfl⟩)
              | (go_meet; exact ⟨by rw [decide_eq_false (by have := hj'.out; omega)], rfl⟩)
          case rest =>
            obtain ⟨rfl, rfl⟩ := hcut
            clear q
            go_upto_region 17 with fail
            have hA4 := SA.out.2
            have e0 := hA4.cell 0 (by decide)
            clear hA4
            obtain ⟨a0, ha0⟩ : ∃ a0, a 0 = a0 := ⟨_, rfl⟩
            rw [ha0] at e0
            clear ha0
            -- ARMS
            go_upto_block 4 with fail
            go_cut [8, 13, 14, 15, 16] from 76 to 144 (fun v _ _ _ _ x => v = .bool true ∧ Hid (StA w.heap.size w th b mp rb (i + 1) A a x))
            case first =>
              by_cases h0 : a0 = 0
              · subst h0
                go_upto_region 24 with fail
                obtain ⟨kf, Q0, Q1, hq0, Q0D, Q1D, PW, RW⟩ := plays_want w.heap.size A w hM th b mp rb i (by omega) a wr SA.out
                have PW' := Lib.hid PW
                have RW' := Lib.hid RW
                have Q0D' := Lib.hid Q0D
                have Q1D' := Lib.hid Q1D
                have EW := Lib.hid (fun z (h : StA w.heap.size w th b mp rb (i + 1) A a z) => (error_same kf z (errV_env rfl HE.out h)).mono (fun e w' ⟨h1, h2⟩ => (show e = Ending.returned (.bool true) ∧ StA w.heap.size w th b mp rb (i + 1) A a w' from ⟨h1, h.below hM h2⟩)))
                clear PW RW Q0D Q1D
                have hq0d := (Q0D'.out _ hq0).1
                have hA4 := SA.out.2
                have c1 := hA4.cell 1 (by decide)
                have c2 := hA4.cell 2 (by decide)
                have c3 := hA4.cell 3 (by decide)
                have hA5 := (Q0D'.out _ hq0d).2
                have d1 := hA5.cell 1 (by decide)
                have d2 := hA5.cell 2 (by decide)
                have d3 := hA5.cell 3 (by decide)
                clear SA hA4 hA5 e0
                go_region_held3 (fun w' => w'.cell? ⟨A, 1, none⟩ = some (.int .i64 (a 1)) ∧ w'.cell? ⟨A, 2, none⟩ = some (.int .i64 (a 2)) ∧ w'.cell? ⟨A, 3, none⟩ = some (.int .i64 (a 3)))
                  (first | (with_reducible assumption) | (refine And.intro ?_ (And.intro ?_ ?_) <;> with_reducible assumption))
                  (first
                  | (go_at_call 39; (with_reducible refine (PW'.out _ (by with_reducible assumption)).mono ?_); rintro e x1 ⟨rfl, hq1⟩; have hq1d := (Q1D'.out _ hq1).1; have hA1 := (Q1D'.out _ hq1).2; have c1 := (hA1).cell 1 (by decide); have c2 := (hA1).cell 2 (by decide); have c3 := (hA1).cell 3 (by decide); clear hA1)
                  | (go_at_call 45; (with_reducible refine (RW'.out _ (by with_reducible assumption)).mono ?_); rintro e x2 ⟨rfl, hs2⟩; have hs2d := hs2.drew; have hA2 := hs2.2; have c1 := (hA2).cell 1 (by decide); have c2 := (hA2).cell 2 (by decide); have c3 := (hA2).cell 3 (by decide); clear hA2)
                  | (go_at_call 9; (with_reducible refine (EW.out _ (by with_reducible assumption)).mono ?_); rintro e x3 ⟨rfl, hs3⟩; have hs3d := hs3.drew; have hA3 := hs3.2; have c1 := (hA3).cell 1 (by decide); have c2 := (hA3).cell 2 (by decide); have c3 := (hA3).cell 3 (by decide); clear hA3))
                have SB := Lib.hid hs3
                clear hs3 hs3d hs2 hs2d hq1 hq1d hq0 hq0d PW' RW' EW Q0D' Q1D' c1 c2 c3 d1 d2 d3
                go_wp2_with fail
                go_meet
                exact ⟨rfl, SB⟩
              by_cases h1 : a0 = 1
              · subst h1
                go_upto_region 24 with fail
                obtain ⟨kf, Q0, Q1, hq0, Q0D, Q1D, PW, RW⟩ := plays_want w.heap.size A w hM th b mp rb i (by omega) a wr SA.out
                have PW' := Lib.hid PW
                have RW' := Lib.hid RW
                have Q0D' := Lib.hid Q0D
                have Q1D' := Lib.hid Q1D
                have EW := Lib.hid (fun z (h : StA w.heap.size w th b mp rb (i + 1) A a z) => (error_same kf z (errV_env rfl HE.out h)).mono (fun e w' ⟨h1, h2⟩ => (show e = Ending.returned (.bool true) ∧ StA w.heap.size w th b mp rb (i + 1) A a w' from ⟨h1, h.below hM h2⟩)))
                clear PW RW Q0D Q1D
                have hq0d := (Q0D'.out _ hq0).1
                have hA4 := SA.out.2
                have c1 := hA4.cell 1 (by decide)
                have c2 := hA4.cell 2 (by decide)
                have c3 := hA4.cell 3 (by decide)
                have hA5 := (Q0D'.out _ hq0d).2
                have d1 := hA5.cell 1 (by decide)
                have d2 := hA5.cell 2 (by decide)
                have d3 := hA5.cell 3 (by decide)
                clear SA hA4 hA5 e0
                go_region_held3 (fun w' => w'.cell? ⟨A, 1, none⟩ = some (.int .i64 (a 1)) ∧ w'.cell? ⟨A, 2, none⟩ = some (.int .i64 (a 2)) ∧ w'.cell? ⟨A, 3, none⟩ = some (.int .i64 (a 3)))
                  (first | (with_reducible assumption) | (refine And.intro ?_ (And.intro ?_ ?_) <;> with_reducible assumption))
                  (first
                  | (go_at_call 39; (with_reducible refine (PW'.out _ (by with_reducible assumption)).mono ?_); rintro e x1 ⟨rfl, hq1⟩; have hq1d := (Q1D'.out _ hq1).1; have hA1 := (Q1D'.out _ hq1).2; have c1 := (hA1).cell 1 (by decide); have c2 := (hA1).cell 2 (by decide); have c3 := (hA1).cell 3 (by decide); clear hA1)
                  | (go_at_call 45; (with_reducible refine (RW'.out _ (by with_reducible assumption)).mono ?_); rintro e x2 ⟨rfl, hs2⟩; have hs2d := hs2.drew; have hA2 := hs2.2; have c1 := (hA2).cell 1 (by decide); have c2 := (hA2).cell 2 (by decide); have c3 := (hA2).cell 3 (by decide); clear hA2)
                  | (go_at_call 9; (with_reducible refine (EW.out _ (by with_reducible assumption)).mono ?_); rintro e x3 ⟨rfl, hs3⟩; have hs3d := hs3.drew; have hA3 := hs3.2; have c1 := (hA3).cell 1 (by decide); have c2 := (hA3).cell 2 (by decide); have c3 := (hA3).cell 3 (by decide); clear hA3))
                have SB := Lib.hid hs3
                clear hs3 hs3d hs2 hs2d hq1 hq1d hq0 hq0d PW' RW' EW Q0D' Q1D' c1 c2 c3 d1 d2 d3
                go_wp2_with fail
                go_meet
                exact ⟨rfl, SB⟩
              by_cases h2 : a0 = 2
              · subst h2
                go_upto_region 26 with fail
                obtain ⟨kf, Q0, Q1, hq0, Q0D, Q1D, PW, RW⟩ := plays_drop w.heap.size A w hM th b mp rb i (by omega) a wr SA.out
                have PW' := Lib.hid PW
                have RW' := Lib.hid RW
                have Q0D' := Lib.hid Q0D
                have Q1D' := Lib.hid Q1D
                have EW := Lib.hid (fun z (h : StA w.heap.size w th b mp rb (i + 1) A a z) => (error_same kf z (errV_env rfl HE.out h)).mono (fun e w' ⟨h1, h2⟩ => (show e = Ending.returned (.bool true) ∧ StA w.heap.size w th b mp rb (i + 1) A a w' from ⟨h1, h.below hM h2⟩)))
                clear PW RW Q0D Q1D
                have hq0d := (Q0D'.out _ hq0).1
                have hA4 := SA.out.2
                have c1 := hA4.cell 1 (by decide)
                have c2 := hA4.cell 2 (by decide)
                have c3 := hA4.cell 3 (by decide)
                have hA5 := (Q0D'.out _ hq0d).2
                have d1 := hA5.cell 1 (by decide)
                have d2 := hA5.cell 2 (by decide)
                have d3 := hA5.cell 3 (by decide)
                clear SA hA4 hA5 e0
                go_region_held3 (fun w' => w'.cell? ⟨A, 1, none⟩ = some (.int .i64 (a 1)) ∧ w'.cell? ⟨A, 2, none⟩ = some (.int .i64 (a 2)) )
                  (first | (with_reducible assumption) | (refine And.intro ?_ ?_ <;> with_reducible assumption))
                  (first
                  | (go_at_call 42; (with_reducible refine (PW'.out _ (by with_reducible assumption)).mono ?_); rintro e x1 ⟨rfl, hq1⟩; have hq1d := (Q1D'.out _ hq1).1; have hA1 := (Q1D'.out _ hq1).2; have c1 := (hA1).cell 1 (by decide); have c2 := (hA1).cell 2 (by decide); clear hA1)
                  | (go_at_call 46; (with_reducible refine (RW'.out _ (by with_reducible assumption)).mono ?_); rintro e x2 ⟨rfl, hs2⟩; have hs2d := hs2.drew; have hA2 := hs2.2; have c1 := (hA2).cell 1 (by decide); have c2 := (hA2).cell 2 (by decide); clear hA2)
                  | (go_at_call 9; (with_reducible refine (EW.out _ (by with_reducible assumption)).mono ?_); rintro e x3 ⟨rfl, hs3⟩; have hs3d := hs3.drew; have hA3 := hs3.2; have c1 := (hA3).cell 1 (by decide); have c2 := (hA3).cell 2 (by decide); clear hA3))
                have SB := Lib.hid hs3
                clear hs3 hs3d hs2 hs2d hq1 hq1d hq0 hq0d PW' RW' EW Q0D' Q1D' c1 c2 c3 d1 d2 d3
                go_wp2_with fail
                go_meet
                exact ⟨rfl, SB⟩
              by_cases h3 : a0 = 3
              · subst h3
                go_upto_region 28 with fail
                obtain ⟨Q1, Q2, PW, RW, SW⟩ := plays_changed w.heap.size A w hM th b mp rb i (by omega) a wr SA.out
                have PW' := Lib.hid PW
                have RW' := Lib.hid RW
                have SW' := Lib.hid SW
                clear PW RW SW SA e0
                go_wp2_with (first
                  | (go_at_call 41; (with_reducible refine PW'.out.mono ?_); rintro e x1 ⟨v1, rfl, hq1⟩)
                  | (go_at_call 48; (with_reducible refine (RW'.out _ _ (by with_reducible assumption)).mono ?_); rintro e x2 ⟨v2, rfl, hq2⟩)
                  | (go_at_call 47; (with_reducible refine (SW'.out _ _ _ (by with_reducible assumption)).mono ?_); rintro e x3 ⟨rfl, hs3⟩; have SB := Lib.hid hs3; clear hs3))
                clear hq1 hq2 PW' RW' SW'
                go_meet
                exact ⟨rfl, SB⟩
              have f0 : (a0 == 0) = false := by simpa using h0
              have f1 : (a0 == 1) = false := by simpa using h1
              have f2 : (a0 == 2) = false := by simpa using h2
              have f3 : (a0 == 3) = false := by simpa using h3
              clear h0 h1 h2 h3
              go_upto_region 18 with fail
              obtain ⟨kf, B, Q1, Q1D, RW, PW⟩ := plays_ask w.heap.size A w hM th b mp rb i (by omega) a wr SA.out
              have PW' := Lib.hid PW
              have RW' := Lib.hid RW
              have Q1D' := Lib.hid Q1D
              have EW := Lib.hid (fun z (h : StA w.heap.size w th b mp rb (i + 1) A a z) => (error_same kf z (errV_env rfl HE.out h)).mono (fun e w' ⟨h1, h2⟩ => (show e = Ending.returned (.bool true) ∧ StA w.heap.size w th b mp rb (i + 1) A a w' from ⟨h1, h.below hM h2⟩)))
              have hA4 := SA.out.2
              have c2 := hA4.cell 2 (by decide)
              have c3 := hA4.cell 3 (by decide)
              clear PW RW Q1D SA hA4 e0
              go_wp2_with (first
                | (go_at_call 49; (with_reducible refine RW'.out.mono ?_); rintro e x1 ⟨rfl, hq1⟩; have hA1 := (Q1D'.out _ hq1).2; have e2 := hA1.cell 2 (by decide); have e3 := hA1.cell 3 (by decide); clear hA1)
                | (go_at_call 43; (with_reducible refine (PW'.out _ (by with_reducible assumption)).mono ?_); rintro e x2 ⟨rfl, hs2⟩)
                | (go_at_call 9; (with_reducible refine (EW.out _ (by with_reducible assumption)).mono ?_); rintro e x3 ⟨rfl, hs3⟩; have SB := Lib.hid hs3; clear hs3))
              go_meet
              exact ⟨by first | rfl | simp, SB⟩
            case rest =>
              obtain ⟨rfl, SB⟩ := hcut
              clear SA e0
              obtain ⟨Q0, Q1, Q2, hq0, Q0D, Q1D, Q2A, PW, RW, SW⟩ := plays_who w.heap.size A w hM th b mp rb (i + 1) (by omega) a wc SB.out
              have PW' := Lib.hid PW
              have RW' := Lib.hid RW
              have SW' := Lib.hid SW
              have Q0D' := Lib.hid Q0D
              have Q1D' := Lib.hid Q1D
              have Q2A' := Lib.hid Q2A
              clear PW RW SW Q0D Q1D Q2A
              have hq0d := (Q0D'.out _ hq0).1
              have c2 := SB.out.2.cell 2 (by decide)
              have d2 := (Q0D'.out _ hq0d).2.cell 2 (by decide)
              clear SB
              go_upto_region 29 with fail
              go_region_held3 (fun w' => w'.cell? ⟨A, 2, none⟩ = some (.int .i64 (a 2)))
                (first | (with_reducible assumption))
                (first
                | (go_at_call 40; (with_reducible refine (PW'.out _ (by with_reducible assumption)).mono ?_); rintro e x1 ⟨v1, rfl, hq1⟩; have hq1d := (Q1D'.out _ _ hq1).1; have f2 := (Q1D'.out _ _ hq1).2.cell 2 (by decide))
                | (go_at_call 50; (with_reducible refine (RW'.out _ _ (by with_reducible assumption)).mono ?_); rintro e x2 ⟨v2, rfl, hq2⟩; have f2 := (Q2A'.out _ _ _ hq2).cell 2 (by decide))
                | (go_at_call 33; (with_reducible refine (SW'.out _ _ _ (by with_reducible assumption)).mono ?_); rintro e x3 ⟨rfl, hs3⟩; have f2 := hs3.2.cell 2 (by decide)))
              have SC := Lib.hid hs3
              clear hs3 hq2 hq1 hq1d hq0 hq0d f2 c2 d2 PW' RW' SW' Q0D' Q1D' Q2A'
              go_upto_region 30 with fail
              obtain ⟨nn, Q0, Q1, hq0, Q0D, Q1D, PW, RW⟩ := plays_need w.heap.size A w hM th b mp rb (i + 1) (by omega) a x3 SC.out
              have PW' := Lib.hid PW
              have RW' := Lib.hid RW
              have Q0D' := Lib.hid Q0D
              have Q1D' := Lib.hid Q1D
              clear PW RW Q0D Q1D
              have hq0d := (Q0D'.out _ hq0).1
              have c2 := SC.out.2.cell 2 (by decide)
              have d2 := (Q0D'.out _ hq0d).2.cell 2 (by decide)
              clear SC
              go_region_held3 (fun w' => w'.cell? ⟨A, 2, none⟩ = some (.int .i64 (a 2)))
                (first | (with_reducible assumption))
                (first
                | (go_at_call 44; (with_reducible refine (PW'.out _ (by with_reducible assumption)).mono ?_); rintro e x1 ⟨rfl, hq1⟩; have hq1d := (Q1D'.out _ hq1).1; have f2 := (Q1D'.out _ hq1).2.cell 2 (by decide))
                | (go_at_call 51; (with_reducible refine (RW'.out _ (by with_reducible assumption)).mono ?_); rintro e x2 ⟨rfl, hs4⟩; have f2 := hs4.2.cell 2 (by decide)))
              have SD := Lib.hid hs4.1
              clear hs4 hq1 hq1d hq0 hq0d f2 c2 d2 PW' RW' Q0D' Q1D'
              go_wp2_with fail
              go_roundw
              case measure => simp [RowKit.intOf]; omega
              case rel => exact ⟨i + 1, by omega, by omega, rfl, SD⟩
            -- END
    · have hlt' := Lib.hid hlt
      clear hlt
      go_wp2_with fail
      all_goals first
        | (exfalso; have := hlt'.out; omega)
        | (go_ret; obtain ⟨_, _, _, _, _, _, _, s⟩ := ST.out; exact ⟨rfl, s.kb⟩)
theorem walk_PullPlays (w : World) (a0 : Int) (wf0 : (Lit.int .i64 a0).wf = true) (v1 : Value) (l1 : List (Value × List Int)) (o1 : IsRows w v1 l1) (hE : Env w) :
    Calls Tryd.prog 7 #[.int .i64 a0, v1] w fun e w' => e = .returned (.bool true) ∧ Below w.heap.size w w' := by
  obtain ⟨h1, h2⟩ := o1
  have hl := h1.len
  have sub : ∀ x ∈ l1, ∃ oa n c, x.1 = .slice oa n c ∧ n ≤ maxLen ∧ ∀ j, j < n → ∃ b' f' y, oa = some ⟨b', f', none⟩ ∧ b' < w.heap.size ∧ w.cell? ⟨b', f' + j, none⟩ = some (.int .i64 y) := fun x hx => by
    obtain ⟨oa, c, e, hm, hz⟩ := ints_read (h2 x hx)
    exact ⟨oa, _, c, e, hm, fun j hj => by obtain ⟨b, f, q1, q2, q3, _⟩ := hz j hj; exact ⟨b, f, _, q1, q2, q3⟩⟩
  rcases h1 with ⟨rfl, oa, cap, rfl, r1, _⟩ | ⟨b2, f2, c2, rfl, r1, r2, r3⟩
  · exact walk_PullPlays_run w hE a0 oa 0 cap (by unfold maxLen; omega) (fun k hk => by omega)
  · refine walk_PullPlays_run w hE a0 _ l1.length c2 hl (fun k hk => ?_)
    obtain ⟨oa, n, c, e, hm, hz⟩ := sub l1[k] (List.getElem_mem hk)
    have q : w.cell? ⟨b2, f2 + k, none⟩ = some (l1[k]).1 := r3 k hk
    rw [e] at q
    exact ⟨b2, f2, oa, n, c, rfl, Sl.lt q, q, hm, hz⟩
end Go.Proofs.YthgdkakkbaoccaaDoor
