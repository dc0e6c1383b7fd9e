import Derived.Test.YtlfdkoebjddokaaDoorPGapsS
import Derived.Deep.QuietTactic
import Derived.BigQuiet
import Derived.Deep.CutBlock
import Derived.Deep.DeepCutAuto
import Derived.Deep.RegionHeld3
import Derived.Deep.MidRow
/-! The walk of the law GapsPlays. -/
namespace Go.Proofs.YtlfdkoebjddokaaDoor
open Go.RowKit
set_option linter.unusedVariables false
set_option linter.unusedSimpArgs false
set_option maxRecDepth 100000 in
set_option maxHeartbeats 8000000 in
theorem walk_GapsPlays_run (w : World) (hE : Env w) (again tries : Int) (oa1 : Option Addr) (n1 c1 : Nat) (hm1 : n1 ≤ maxLen)
    (hz1 : ∀ k, k < n1 → ∃ b f oa n c, oa1 = some ⟨b, f, none⟩ ∧ b < w.heap.size ∧ w.cell? ⟨b, f + k, none⟩ = some (.slice oa n c) ∧ n ≤ maxLen ∧ ∀ j, j < n → ∃ b' f' x, oa = some ⟨b', f', none⟩ ∧ b' < w.heap.size ∧ w.cell? ⟨b', f' + j, none⟩ = some (.int .i64 x)) :
    Calls Tryd.prog 4 #[.int .i64 again, .int .i64 tries, .slice oa1 n1 c1] w fun e w' => e = .returned (.bool true) ∧ Below w.heap.size w w' := by
  have HZ1 := Lib.hid hz1
  have HE := Lib.hid hE
  clear hz1 hE
  unfold maxLen at hm1
  go_enter Tryd.func4, Tryd.ntmps4
  by_cases hth : 1 ≤ again ∧ again ≤ 1000000 ∧ 1 ≤ tries ∧ tries ≤ 20
  case neg =>
    have HTH := Lib.hid hth
    have EA := Lib.hid ((error_hit 1 1 w HE.out).mono (fun e w' ⟨h1, h2⟩ => (show e = Ending.returned (.bool true) ∧ Below w.heap.size w w' from ⟨by rw [h1]; simp, h2⟩)))
    go_wp2_with fail
    refine (gapsNew_bad again tries hth _).mono ?_
    rintro e w5 ⟨rfl, rfl⟩
    clear hth
    go_wp2_with (go_at_call 6; (with_reducible refine EA.out.mono ?_); rintro e w6 ⟨rfl, k6⟩)
    all_goals first
      | (exfalso; have := HTH.out; omega)
      | (go_ret; exact ⟨rfl, k6⟩)
  have HAG := Lib.hid hth
  obtain ⟨ht1, ht2, ht3, ht4⟩ := hth
  go_wp2_with fail
  refine (gapsNew_ok again tries ht1 ht2 ht3 ht4 _).mono ?_
  rintro e w5 ⟨b, bm, rfl, P5, k5⟩
  have EA := Lib.hid (error_nil 0 w5)
  have P5' := Lib.hid P5
  have kb5 := Lib.hid k5
  clear P5 k5
  go_upto_region 9 with (go_at_call 6; refine EA.out.mono ?_; rintro e w6 ⟨rfl, rfl⟩)
  have hM := Nat.le_refl w.heap.size
  refine abs_to (fun y => Hid (StE w.heap.size w again tries b bm w5.heap.size 0 y)) (Lib.hid ⟨0, -1, 0, fun _ => none, .slice none 0 0, [], .slice none 0 0, [], .slice none 0 0, ⟨P5'.out.below ((Below.refl _ _).alloc (Nat.le_refl _) _), ⟨obj_new _ _, RecK.Own.nil _ _, World.ownsRow_nil _ _ _ _, kb5.out.size⟩, ApartV.nil _, PG.start tries, ⟨by omega, by omega⟩, by simp, kb5.out.alloc kb5.out.size _⟩⟩) ?_
  generalize w5.heap.size = rb at *
  clear P5' kb5 EA ht1 ht2 ht3 ht4
  rintro y0 S0
  go_upto_region 10 with fail
  go_loopw [12] (fun s12 wr => ∃ i : Nat, i ≤ n1 ∧ i ≤ 60 ∧ s12 = .int .i64 i ∧ Hid (StE w.heap.size w again tries b bm rb i wr)) (fun s12 _ => 60 - (RowKit.intOf s12).toNat)
  case atStart => exact ⟨0, by omega, by omega, rfl, S0⟩
  case round =>
    clear S0
    obtain ⟨i, hin, hi60, rfl, ST⟩ := hrel
    by_cases hlt : i < n1 ∧ i < 60
    · obtain ⟨hl1, hl2⟩ := hlt
      obtain ⟨b1, f1, oa, n, c, rfl, hb1, q0, hnm, hz⟩ := HZ1.out i hl1
      have Q := Lib.hid (fun y (k : Below w.heap.size w y) => (k.cell (p := ⟨b1, f1 + i, none⟩) hb1).trans q0)
      have HZ := Lib.hid hz
      unfold maxLen at hnm
      clear q0 hz
      go_upto_region 13 with fail
      have SA0 := Lib.hid (StA.start ST.out hM)
      have hA : w.heap.size ≤ wr.heap.size := by obtain ⟨_, _, _, _, _, _, _, _, _, s⟩ := ST.out; exact s.kb.size
      refine abs_to (fun y => Hid (StA w.heap.size w again tries b bm rb i wr.heap.size (fun _ => 0) y)) SA0 ?_
      clear SA0 ST
      obtain ⟨A, hAe⟩ : ∃ A, wr.heap.size = A := ⟨_, rfl⟩
      rw [hAe] at hA ⊢
      clear hAe
      rintro y1 SA
      go_upto_region 14 with fail
      go_loopw [14] (fun s14 wr => ∃ (j : Nat) (a : Nat → Int), j ≤ 3 ∧ s14 = .int .i64 j ∧ Hid (StA w.heap.size w again tries b bm rb i A a wr)) (fun s14 _ => 3 - (RowKit.intOf s14).toNat)
      case atStart => exact ⟨0, _, by omega, rfl, SA⟩
      case round =>
        clear SA
        obtain ⟨j, a, hj3, rfl, SA⟩ := hrel
        have q := Q.out wr SA.out.kb
        by_cases hj : j < n ∧ j < 3
        · obtain ⟨hj1, hj2⟩ := hj
          obtain ⟨b', f', x, rfl, hb', c0⟩ := HZ.out j hj1
          have c1 := (SA.out.kb.cell (p := ⟨b', f' + j, none⟩) hb').trans c0
          have c2 := SA.out.2.cell j hj2
          have f2 := obj_free SA.out.2 j
          have SB := Lib.hid (SA.out.put hA j hj2 x)
          generalize a j = aj at *
          clear SA c0
          go_wp2_with fail
          go_roundw
          case measure => simp [RowKit.intOf]; omega
          case rel => exact ⟨j + 1, _, by omega, rfl, SB⟩
        · have hj' := Lib.hid hj
          clear hj
          go_upto_region 14 with fail
          go_cut [80] from 60 to 80 (fun v x => v = .bool false ∧ wr = x)
          case first =>
            go_wp2_with fail
            all_goals first
              | (exfalso; have := hj'.out; omega)
              | (go_meet; exact ⟨rfl, rfl⟩)
              | (go_meet; exact ⟨by rw [decide_eq_false (by have := hj'.out; omega)], rfl⟩)
          case rest =>
            obtain ⟨rfl, rfl⟩ := hcut
            clear q
            go_upto_region 17 with fail
            have hA4 := SA.out.2
            have e0 := hA4.cell 0 (by decide)
            clear hA4
            obtain ⟨a0, ha0⟩ : ∃ a0, a 0 = a0 := ⟨_, rfl⟩
            rw [ha0] at e0
            clear ha0
            go_upto_block 4 with fail
            go_cut [10, 15, 16, 17, 18, 19, 20, 21, 22, 23, 24] from 94 to 163 (fun v _ _ _ _ _ _ _ _ _ _ x => v = .bool true ∧ Hid (StA w.heap.size w again tries b bm rb (i + 1) A a x))
            case first =>
              by_cases h0 : a0 = 0
              · subst h0
                go_upto_region 24 with fail
                obtain ⟨B, kf, Q1, Q1A, RW, PW⟩ := gplays_hear hM HAG.out (by omega) SA.out
                have PW' := Lib.hid PW
                have RW' := Lib.hid RW
                have Q1A' := Lib.hid Q1A
                have EW := Lib.hid (fun z (h : StA w.heap.size w again tries b bm rb (i + 1) A a z) => (error_same kf z (errV_env rfl HE.out h.kb)).mono (fun e w' ⟨h1, h2⟩ => (show e = Ending.returned (.bool true) ∧ StA w.heap.size w again tries b bm rb (i + 1) A a w' from ⟨h1, h.below hM h2⟩)))
                have hA4 := SA.out.2
                have c1 := hA4.cell 1 (by decide)
                have c2 := hA4.cell 2 (by decide)
                clear PW RW Q1A SA hA4 e0
                go_wp2_with (first
                  | (go_at_call 16; (with_reducible refine RW'.out.mono ?_); rintro e x1 ⟨rfl, hq1⟩; have hA1 := Q1A'.out _ hq1; have e1 := hA1.cell 1 (by decide); have e2 := hA1.cell 2 (by decide); clear hA1)
                  | (go_at_call 17; (with_reducible refine (PW'.out _ (by with_reducible assumption)).mono ?_); rintro e x2 ⟨rfl, hs2⟩)
                  | (go_at_call 6; (with_reducible refine (EW.out _ (by with_reducible assumption)).mono ?_); rintro e x3 ⟨rfl, hs3⟩; have SB := Lib.hid hs3; clear hs3))
                go_meet
                exact ⟨by first | rfl | simp, SB⟩
              by_cases h1 : a0 = 1
              · subst h1
                go_upto_region 24 with fail
                obtain ⟨B, kf, Q1, Q1A, RW, PW⟩ := gplays_hear hM HAG.out (by omega) SA.out
                have PW' := Lib.hid PW
                have RW' := Lib.hid RW
                have Q1A' := Lib.hid Q1A
                have EW := Lib.hid (fun z (h : StA w.heap.size w again tries b bm rb (i + 1) A a z) => (error_same kf z (errV_env rfl HE.out h.kb)).mono (fun e w' ⟨h1, h2⟩ => (show e = Ending.returned (.bool true) ∧ StA w.heap.size w again tries b bm rb (i + 1) A a w' from ⟨h1, h.below hM h2⟩)))
                have hA4 := SA.out.2
                have c1 := hA4.cell 1 (by decide)
                have c2 := hA4.cell 2 (by decide)
                clear PW RW Q1A SA hA4 e0
                go_wp2_with (first
                  | (go_at_call 16; (with_reducible refine RW'.out.mono ?_); rintro e x1 ⟨rfl, hq1⟩; have hA1 := Q1A'.out _ hq1; have e1 := hA1.cell 1 (by decide); have e2 := hA1.cell 2 (by decide); clear hA1)
                  | (go_at_call 17; (with_reducible refine (PW'.out _ (by with_reducible assumption)).mono ?_); rintro e x2 ⟨rfl, hs2⟩)
                  | (go_at_call 6; (with_reducible refine (EW.out _ (by with_reducible assumption)).mono ?_); rintro e x3 ⟨rfl, hs3⟩; have SB := Lib.hid hs3; clear hs3))
                go_meet
                exact ⟨by first | rfl | simp, SB⟩
              by_cases h2 : a0 = 2
              · subst h2
                go_upto_region 24 with fail
                obtain ⟨B, kf, Q1, Q1A, RW, PW⟩ := gplays_hear hM HAG.out (by omega) SA.out
                have PW' := Lib.hid PW
                have RW' := Lib.hid RW
                have Q1A' := Lib.hid Q1A
                have EW := Lib.hid (fun z (h : StA w.heap.size w again tries b bm rb (i + 1) A a z) => (error_same kf z (errV_env rfl HE.out h.kb)).mono (fun e w' ⟨h1, h2⟩ => (show e = Ending.returned (.bool true) ∧ StA w.heap.size w again tries b bm rb (i + 1) A a w' from ⟨h1, h.below hM h2⟩)))
                have hA4 := SA.out.2
                have c1 := hA4.cell 1 (by decide)
                have c2 := hA4.cell 2 (by decide)
                clear PW RW Q1A SA hA4 e0
                go_wp2_with (first
                  | (go_at_call 16; (with_reducible refine RW'.out.mono ?_); rintro e x1 ⟨rfl, hq1⟩; have hA1 := Q1A'.out _ hq1; have e1 := hA1.cell 1 (by decide); have e2 := hA1.cell 2 (by decide); clear hA1)
                  | (go_at_call 17; (with_reducible refine (PW'.out _ (by with_reducible assumption)).mono ?_); rintro e x2 ⟨rfl, hs2⟩)
                  | (go_at_call 6; (with_reducible refine (EW.out _ (by with_reducible assumption)).mono ?_); rintro e x3 ⟨rfl, hs3⟩; have SB := Lib.hid hs3; clear hs3))
                go_meet
                exact ⟨by first | rfl | simp, SB⟩
              by_cases h3 : a0 = 3
              · subst h3
                go_upto_region 30 with fail
                obtain ⟨kf, Q1, Q2, Q1A, Q2B, Q2K, RW, PW, SW⟩ := gplays_due hM HAG.out (by omega) SA.out
                have PW' := Lib.hid PW
                have RW' := Lib.hid RW
                have SW' := Lib.hid SW
                have Q1A' := Lib.hid Q1A
                have EW := Lib.hid (fun v1 v2 z (h : Q2 v1 v2 z) => (error_same kf z (errV_env rfl HE.out (Q2B v1 v2 z h))).mono (fun e w' ⟨h1, h2⟩ => (show e = Ending.returned (.bool true) ∧ Q2 v1 v2 w' from ⟨h1, Q2K v1 v2 z w' h h2⟩)))
                have hA4 := SA.out.2
                have c2 := hA4.cell 2 (by decide)
                clear PW RW SW Q1A Q2B Q2K SA hA4 e0
                go_wp2_with (first
                  | (go_at_call 18; (with_reducible refine RW'.out.mono ?_); rintro e x1 ⟨v2, rfl, hq1⟩; have hA1 := Q1A'.out _ _ hq1; have e2 := hA1.cell 2 (by decide); clear hA1)
                  | (go_at_call 19; (with_reducible refine (PW'.out _ _ (by with_reducible assumption)).mono ?_); rintro e x2 ⟨v1, rfl, hq2⟩)
                  | (go_at_call 6; (with_reducible refine (EW.out _ _ _ (by with_reducible assumption)).mono ?_); rintro e x3 ⟨rfl, hq3⟩)
                  | (go_at_call 20; (with_reducible refine (SW'.out _ _ _ (by with_reducible assumption)).mono ?_); rintro e x4 ⟨rfl, hs3⟩; have SB := Lib.hid hs3; clear hs3))
                go_meet
                exact ⟨by first | rfl | simp, SB⟩
              by_cases h4 : a0 = 4
              · subst h4
                go_upto_region 30 with fail
                obtain ⟨kf, Q1, Q2, Q1A, Q2B, Q2K, RW, PW, SW⟩ := gplays_due hM HAG.out (by omega) SA.out
                have PW' := Lib.hid PW
                have RW' := Lib.hid RW
                have SW' := Lib.hid SW
                have Q1A' := Lib.hid Q1A
                have EW := Lib.hid (fun v1 v2 z (h : Q2 v1 v2 z) => (error_same kf z (errV_env rfl HE.out (Q2B v1 v2 z h))).mono (fun e w' ⟨h1, h2⟩ => (show e = Ending.returned (.bool true) ∧ Q2 v1 v2 w' from ⟨h1, Q2K v1 v2 z w' h h2⟩)))
                have hA4 := SA.out.2
                have c2 := hA4.cell 2 (by decide)
                clear PW RW SW Q1A Q2B Q2K SA hA4 e0
                go_wp2_with (first
                  | (go_at_call 18; (with_reducible refine RW'.out.mono ?_); rintro e x1 ⟨v2, rfl, hq1⟩; have hA1 := Q1A'.out _ _ hq1; have e2 := hA1.cell 2 (by decide); clear hA1)
                  | (go_at_call 19; (with_reducible refine (PW'.out _ _ (by with_reducible assumption)).mono ?_); rintro e x2 ⟨v1, rfl, hq2⟩)
                  | (go_at_call 6; (with_reducible refine (EW.out _ _ _ (by with_reducible assumption)).mono ?_); rintro e x3 ⟨rfl, hq3⟩)
                  | (go_at_call 20; (with_reducible refine (SW'.out _ _ _ (by with_reducible assumption)).mono ?_); rintro e x4 ⟨rfl, hs3⟩; have SB := Lib.hid hs3; clear hs3))
                go_meet
                exact ⟨by first | rfl | simp, SB⟩
              have f0 : (a0 == 0) = false := by simpa using h0
              have f1 : (a0 == 1) = false := by simpa using h1
              have f2 : (a0 == 2) = false := by simpa using h2
              have f3 : (a0 == 3) = false := by simpa using h3
              have f4 : (a0 == 4) = false := by simpa using h4
              clear h0 h1 h2 h3 h4
              go_upto_region 18 with fail
              obtain ⟨rgv, Q1, Q2, Q3, c5, RW, PW, SW, FW⟩ := gplays_gave hM (by omega) SA.out
              have PW' := Lib.hid PW
              have RW' := Lib.hid RW
              have SW' := Lib.hid SW
              have FW' := Lib.hid FW
              clear PW RW SW FW SA e0
              go_upto_region 20 with (first
                | (go_at_call 21; (with_reducible refine RW'.out.mono ?_); rintro e x1 ⟨v2, rfl, hq1⟩)
                | (go_at_call 22; (with_reducible refine (PW'.out _ _ (by with_reducible assumption)).mono ?_); rintro e x2 ⟨v1, rfl, hq2⟩)
                | (go_at_call 20; (with_reducible refine (SW'.out _ _ _ (by with_reducible assumption)).mono ?_); rintro e x3 ⟨rfl, hq3⟩))
              obtain ⟨_, d5, g5, SB⟩ := FW'.out _ hq3
              have SB := Lib.hid SB
              clear hq1 hq2 hq3 c5 PW' RW' SW' FW'
              go_wp2_with fail
              go_meet
              exact ⟨by first | rfl | simp, SB⟩
            case rest =>
              obtain ⟨rfl, SB⟩ := hcut
              clear SA e0
              obtain ⟨Q1, Q2, PW, RW, SW⟩ := gplays_lacks hM (by omega) SB.out
              have PW' := Lib.hid PW
              have RW' := Lib.hid RW
              have SW' := Lib.hid SW
              clear PW RW SW SB
              go_wp2_with (first
                | (go_at_call 23; (with_reducible refine PW'.out.mono ?_); rintro e x1 ⟨v1, rfl, hq1⟩)
                | (go_at_call 24; (with_reducible refine (RW'.out _ _ (by with_reducible assumption)).mono ?_); rintro e x2 ⟨v2, rfl, hq2⟩)
                | (go_at_call 20; (with_reducible refine (SW'.out _ _ _ (by with_reducible assumption)).mono ?_); rintro e x3 ⟨rfl, hs3⟩; have SD := Lib.hid hs3; clear hs3))
              go_roundw
              case measure => simp [RowKit.intOf]; omega
              case rel => exact ⟨i + 1, by omega, by omega, rfl, SD⟩
    · have hlt' := Lib.hid hlt
      clear hlt
      go_wp2_with fail
      all_goals first
        | (exfalso; have := hlt'.out; omega)
        | (go_ret; obtain ⟨_, _, _, _, _, _, _, _, _, s⟩ := ST.out; exact ⟨rfl, s.kb⟩)
theorem walk_GapsPlays (w : World) (a0 : Int) (wf0 : (Lit.int .i64 a0).wf = true) (a1 : Int) (wf1 : (Lit.int .i64 a1).wf = true) (v1 : Value) (l1 : List (Value × List Int)) (o1 : IsRows w v1 l1) (hE : Env w) :
    Calls Tryd.prog 4 #[.int .i64 a0, .int .i64 a1, v1] w fun e w' => e = .returned (.bool true) ∧ Below w.heap.size w w' := by
  obtain ⟨h1, h2⟩ := o1
  have hl := h1.len
  have sub : ∀ x ∈ l1, ∃ oa n c, x.1 = .slice oa n c ∧ n ≤ maxLen ∧ ∀ j, j < n → ∃ b' f' y, oa = some ⟨b', f', none⟩ ∧ b' < w.heap.size ∧ w.cell? ⟨b', f' + j, none⟩ = some (.int .i64 y) := fun x hx => by
    obtain ⟨oa, c, e, hm, hz⟩ := ints_read (h2 x hx)
    exact ⟨oa, _, c, e, hm, fun j hj => by obtain ⟨b, f, q1, q2, q3, _⟩ := hz j hj; exact ⟨b, f, _, q1, q2, q3⟩⟩
  rcases h1 with ⟨rfl, oa, cap, rfl, r1, _⟩ | ⟨b2, f2, c2, rfl, r1, r2, r3⟩
  · exact walk_GapsPlays_run w hE a0 a1 oa 0 cap (by unfold maxLen; omega) (fun k hk => by omega)
  · refine walk_GapsPlays_run w hE a0 a1 _ l1.length c2 hl (fun k hk => ?_)
    obtain ⟨oa, n, c, e, hm, hz⟩ := sub l1[k] (List.getElem_mem hk)
    have q : w.cell? ⟨b2, f2 + k, none⟩ = some (l1[k]).1 := r3 k hk
    rw [e] at q
    exact ⟨b2, f2, oa, n, c, rfl, Sl.lt q, q, hm, hz⟩
end Go.Proofs.YtlfdkoebjddokaaDoor
