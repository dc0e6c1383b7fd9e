import Derived.Test.YtlfdkoebjddokaaDoorPOrdP
import Derived.Test.YtlfdkoebjddokaaDoorBoxR
import Derived.Deep.QuietTactic
import Derived.BigQuiet
import Derived.Deep.CutBlock
import Derived.Deep.DeepCutAuto
import Derived.Deep.RegionHeld3
import Derived.Deep.MidRow
/-! The walk of the law OrderPlays. -/
namespace Go.Proofs.YtlfdkoebjddokaaDoor
open Go.RowKit
set_option linter.unusedVariables false
set_option linter.unusedSimpArgs false
set_option maxRecDepth 100000 in
set_option maxHeartbeats 8000000 in
theorem walk_OrderPlays_run (w : World) (hE : Env w) (wait : Int) (oa1 : Option Addr) (n1 c1 : Nat) (hm1 : n1 ≤ maxLen)
    (hz1 : ∀ k, k < n1 → ∃ b f oa n c, oa1 = some ⟨b, f, none⟩ ∧ b < w.heap.size ∧ w.cell? ⟨b, f + k, none⟩ = some (.slice oa n c) ∧ n ≤ maxLen ∧ ∀ j, j < n → ∃ b' f' x, oa = some ⟨b', f', none⟩ ∧ b' < w.heap.size ∧ w.cell? ⟨b', f' + j, none⟩ = some (.int .i64 x))
    (oa2 : Option Addr) (n2 c2 : Nat) (hm2 : n2 ≤ maxLen) (hz2 : ∀ k, k < n2 → ∃ b f s t l lv st oa bc body, oa2 = some ⟨b, f, none⟩ ∧ b < w.heap.size ∧ (∀ (j : Nat) (u : Value), (Pk.cells ⟨s, t, l, lv, st, .slice oa (body : List UInt8).length bc, body⟩)[j]? = some u → w.cell? ⟨b, f + (k * 6 + j), none⟩ = some u) ∧ body.length ≤ maxLen ∧ IsBytes w (.slice oa body.length bc) body ∧ (∀ a, oa = some a → body ≠ [] → a.block < w.heap.size)) :
    Calls Tryd.prog 3 #[.int .i64 wait, .slice oa1 n1 c1, .slice oa2 n2 c2] w fun e w' => e = .returned (.bool true) ∧ Below w.heap.size w w' := by
  have HZ1 := Lib.hid hz1
  have HZ2 := Lib.hid hz2
  have HE := Lib.hid hE
  clear hz1 hz2 hE
  unfold maxLen at hm1 hm2
  go_enter Tryd.func3, Tryd.ntmps3
  by_cases hth : 0 ≤ wait ∧ wait ≤ 1000000
  case neg =>
    have HTH := Lib.hid hth
    have EA := Lib.hid ((error_hit 1 1 w HE.out).mono (fun e w' ⟨h1, h2⟩ => (show e = Ending.returned (.bool true) ∧ Below w.heap.size w w' from ⟨by rw [h1]; simp, h2⟩)))
    go_wp2_with fail
    refine (orderNew_bad wait hth _).mono ?_
    rintro e w5 ⟨rfl, rfl⟩
    clear hth
    go_wp2_with (go_at_call 6; (with_reducible refine EA.out.mono ?_); rintro e w6 ⟨rfl, k6⟩)
    all_goals first
      | (exfalso; have := HTH.out; omega)
      | (go_ret; exact ⟨rfl, k6⟩)
  have HW := Lib.hid hth
  obtain ⟨ht1, ht2⟩ := hth
  go_wp2_with fail
  refine (orderNew_ok wait ht1 ht2 _).mono ?_
  rintro e w5 ⟨b, bm, rfl, l1, l2, ne5, at5, mp5, k5⟩
  have EA := Lib.hid (error_nil 0 w5)
  have P5' := Lib.hid (show Ord w5 b 0 wait (-1) bm 0 (fun _ => none) from ⟨at5, mp5, ne5⟩)
  have LOW := Lib.hid (And.intro l1 l2)
  have kb5 := Lib.hid k5
  clear at5 mp5 ne5 l1 l2 k5
  go_upto_region 9 with (go_at_call 6; refine EA.out.mono ?_; rintro e w6 ⟨rfl, rfl⟩)
  have hM := Nat.le_refl w.heap.size
  refine abs_to (fun y => Hid (StN w.heap.size w wait b bm w5.heap.size 0 y) ∧ Hid (Below w.heap.size w y)) ⟨Lib.hid (StN.start hM (P5'.out.below ((Below.refl _ _).alloc (Nat.le_refl _) _)) ⟨obj_new _ _, RecK.Own.nil _ _, kb5.out.size⟩ LOW.out (kb5.out.alloc kb5.out.size _)), Lib.hid (kb5.out.alloc kb5.out.size _)⟩ ?_
  generalize w5.heap.size = rb at *
  clear P5' kb5 EA ht1 ht2 LOW
  rintro y0 ⟨S0, K0⟩
  go_upto_region 10 with fail
  go_loopw [12] (fun s12 wr => ∃ i : Nat, i ≤ n1 ∧ i ≤ 60 ∧ s12 = .int .i64 i ∧ Hid (StN w.heap.size w wait b bm rb i wr) ∧ Hid (Below w.heap.size w wr)) (fun s12 _ => 60 - (RowKit.intOf s12).toNat)
  case atStart => exact ⟨0, by omega, by omega, rfl, S0, K0⟩
  case round =>
    clear S0 K0
    obtain ⟨i, hin, hi60, rfl, ST, KB⟩ := hrel
    by_cases hlt : i < n1 ∧ i < 60
    · obtain ⟨hl1, hl2⟩ := hlt
      obtain ⟨b1, f1, oa, n, c, rfl, hb1, q0, hnm, hz⟩ := HZ1.out i hl1
      have Q := Lib.hid (fun y (k : Below w.heap.size w y) => (k.cell (p := ⟨b1, f1 + i, none⟩) hb1).trans q0)
      have HZ := Lib.hid hz
      unfold maxLen at hnm
      clear q0 hz
      go_upto_region 13 with fail
      have hA : w.heap.size ≤ wr.heap.size := KB.out.size
      have BA : Below wr.heap.size wr (wr.alloc (.cells #[.int .i64 0, .int .i64 0, .int .i64 0] 34)) := (Below.refl _ _).alloc (Nat.le_refl _) _
      have STF := Lib.hid (show ∀ (X : Nat) (a : Nat → Int) (s t l lv : Int) (st : Bool) (bv : Value) (z : World), Below wr.heap.size wr z → Arr3 z wr.heap.size a → PkIn z X s t l lv st bv → StA w.heap.size wr.heap.size X w a s t l lv st bv wait b bm rb i z from fun X a s t l lv st bv z k h1 h2 => ST.out _ X a s t l lv st bv z k h1 h2)
      have KBF := Lib.hid (show ∀ z, Below wr.heap.size wr z → Below w.heap.size w z from fun z k => KB.out.trans (k.mono hA))
      refine abs_to (fun y => Hid (Below wr.heap.size wr y) ∧ Hid (Arr3 y wr.heap.size (fun _ => 0))) ⟨Lib.hid BA, Lib.hid (obj_new _ _)⟩ ?_
      clear BA ST KB
      generalize wr.heap.size = A at *
      rintro y1 ⟨BY, AY⟩
      go_upto_region 14 with fail
      go_loopw [14] (fun s14 y => ∃ (j : Nat) (a : Nat → Int), j ≤ 3 ∧ s14 = .int .i64 j ∧ Hid (Below A wr y) ∧ Hid (Arr3 y A a)) (fun s14 _ => 3 - (RowKit.intOf s14).toNat)
      case atStart => exact ⟨0, _, by omega, rfl, BY, AY⟩
      case round =>
        clear BY AY
        obtain ⟨j, a, hj3, rfl, BY, AY⟩ := hrel
        have kb := KBF.out _ BY.out
        have q := Q.out wr kb
        by_cases hj : j < n ∧ j < 3
        · obtain ⟨hj1, hj2⟩ := hj
          obtain ⟨b', f', x, rfl, hb', c0⟩ := HZ.out j hj1
          have c1 := (kb.cell (p := ⟨b', f' + j, none⟩) hb').trans c0
          have c2 := AY.out.cell j hj2
          have f2 := obj_free AY.out j
          have AB := Lib.hid (AY.out.set j hj2 x)
          have BB := Lib.hid (Below.setCell BY.out (p := ⟨A, j, none⟩) (Nat.le_refl A) (.int .i64 x))
          generalize a j = aj at *
          clear AY BY c0 kb
          go_wp2_with fail
          go_roundw
          case measure => simp [RowKit.intOf]; omega
          case rel => exact ⟨j + 1, _, by omega, rfl, BB, AB⟩
        · have hj' := Lib.hid hj
          clear hj
          go_upto_region 14 with fail
          go_cut [69] from 49 to 69 (fun v x => v = .bool false ∧ wr = x)
          case first =>
            go_wp2_with fail
            all_goals first
              | (exfalso; have := hj'.out; omega)
              | (go_meet; exact ⟨rfl, rfl⟩)
              | (go_meet; exact ⟨by rw [decide_eq_false (by have := hj'.out; omega)], rfl⟩)
          case rest =>
            obtain ⟨rfl, rfl⟩ := hcut
            clear q
            obtain ⟨X, hX⟩ : ∃ X, wr.heap.size = X := ⟨_, rfl⟩
            have hXM : w.heap.size ≤ X := by have := kb.size; omega
            have hAX : A < X := by have := lt_of_block AY.out; omega
            have KB0 := Lib.hid kb
            clear kb
            go_upto_if 83 with fail
            go_cut [83] from 81 to 90 (fun _ z => Hid (Below X wr z) ∧ Hid (BoxR w.heap.size w z X))
            case first =>
              have BA : Below X wr (wr.alloc (.cells #[.int .i64 0, .int .i64 0, .int .i64 0, .int .i64 0, .bool false, .slice none 0 0] 38)) := (Below.refl _ _).alloc (by omega) _
              have PA : PkIn (wr.alloc (.cells #[.int .i64 0, .int .i64 0, .int .i64 0, .int .i64 0, .bool false, .slice none 0 0] 38)) X 0 0 0 0 false (.slice none 0 0) := by rw [← hX]; exact obj_new _ _
              by_cases h2 : 0 < n2
              · have hlt2 := Nat.mod_lt i h2
                obtain ⟨b2, f2, s, t, l, lv, st, oa, bc, body, rfl, hb2', hc2, hbl, hby, hoa⟩ := HZ2.out (i % n2) hlt2
                have W1 : IntKind.i64.wrap (Int.tmod (i : Int) (n2 : Int)) = ((i % n2 : Nat) : Int) := by
                  rw [← Int.ofNat_tmod, IntKind.wrap_i64]; omega
                have KA := KB0.out.trans (BA.mono hXM)
                have g0 := (KA.cell (p := ⟨b2, f2 + (i % n2) * 6, none⟩) hb2').trans (hc2 0 (.int .i64 s) rfl)
                have g1 := (KA.cell (p := ⟨b2, f2 + (i % n2) * 6 + 1, none⟩) hb2').trans (hc2 1 (.int .i64 t) rfl)
                have g2 := (KA.cell (p := ⟨b2, f2 + (i % n2) * 6 + 2, none⟩) hb2').trans (hc2 2 (.int .i64 l) rfl)
                have g3 := (KA.cell (p := ⟨b2, f2 + (i % n2) * 6 + 3, none⟩) hb2').trans (hc2 3 (.int .i64 lv) rfl)
                have g4 := (KA.cell (p := ⟨b2, f2 + (i % n2) * 6 + 4, none⟩) hb2').trans (hc2 4 (.bool st) rfl)
                have g5 := (KA.cell (p := ⟨b2, f2 + (i % n2) * 6 + 5, none⟩) hb2').trans (hc2 5 (.slice oa body.length bc) rfl)
                have BXR := Lib.hid (show BoxR w.heap.size w (wr.alloc (.cells #[.int .i64 s, .int .i64 t, .int .i64 l, .int .i64 lv, .bool st, .slice oa body.length bc] 38)) X from ⟨s, t, l, lv, st, oa, bc, body, by rw [← hX]; exact obj_new _ _, hbl, hby, hoa⟩)
                have HBA : Hid (Below X wr (wr.alloc (.cells #[.int .i64 s, .int .i64 t, .int .i64 l, .int .i64 lv, .bool st, .slice oa body.length bc] 38))) := Lib.hid ((Below.refl _ _).alloc (by omega) _)
                clear hc2 hby hoa hbl KA BA PA
                go_wp2_with fail
                go_meet
                exact ⟨HBA, BXR⟩
              · obtain rfl : n2 = 0 := by omega
                have BXR := Lib.hid (show BoxR w.heap.size w (wr.alloc (.cells #[.int .i64 0, .int .i64 0, .int .i64 0, .int .i64 0, .bool false, .slice none 0 0] 38)) X from ⟨0, 0, 0, 0, false, none, 0, [], PA, by simp, .inl ⟨rfl, none, 0, rfl, by simp, fun _ => rfl⟩, fun a e => (by cases e)⟩)
                have HBA := Lib.hid BA
                clear BA PA
                go_wp2_with fail
                go_meet
                exact ⟨HBA, BXR⟩
            case rest =>
              obtain ⟨KX, BX⟩ := hcut
              obtain ⟨s, t, l, lv, st, oab, bcb, body, PX, hbl, hby, hoa⟩ := BX.out
              have hby := Lib.hid hby
              have hoa := Lib.hid hoa
              have SA := Lib.hid (STF.out X a s t l lv st (.slice oab body.length bcb) wc (BY.out.trans (KX.out.mono (by omega))) (Below.heapAt KX.out AY.out hAX) PX)
              clear BX PX KX BY AY KB0 hX STF KBF
              go_upto_region 20 with fail
              have e0 := SA.out.arr.cell 0 (by decide)
              obtain ⟨a0, ha0⟩ : ∃ a0, a 0 = a0 := ⟨_, rfl⟩
              rw [ha0] at e0
              clear ha0
              go_upto_block 4 with fail
              go_cut [10, 16, 17, 18, 19, 20, 21, 22, 23, 24] from 93 to 164 (fun v _ _ _ _ _ _ _ _ _ x => v = .bool true ∧ Hid (StA w.heap.size A X w a s t l lv st (.slice oab body.length bcb) wait b bm rb (i + 1) x))
              case first =>
                by_cases h0 : a0 = 0
                · subst h0
                  go_upto_region 29 with fail
                  obtain ⟨B, kf, Q1, Q1A, RW, PW⟩ := oplays_push hM (by omega) hbl hby.out hoa.out SA.out
                  have PW' := Lib.hid PW
                  have RW' := Lib.hid RW
                  have Q1A' := Lib.hid Q1A
                  have EW := Lib.hid (fun z (h : StA w.heap.size A X w a s t l lv st (.slice oab body.length bcb) wait b bm rb (i + 1) z) => (error_same kf z (HE.out.below h.kb)).mono (fun e w' ⟨h1, h2⟩ => (show e = Ending.returned (.bool true) ∧ StA w.heap.size A X w a s t l lv st (.slice oab body.length bcb) wait b bm rb (i + 1) w' from ⟨h1, h.below hM h2⟩)))
                  have hA4 := SA.out.arr
                  have c1 := hA4.cell 1 (by decide)
                  have c2 := hA4.cell 2 (by decide)
                  obtain ⟨p0, p1, p2, p3, p4, p5⟩ := pkIn_cells SA.out.box
                  clear PW RW Q1A SA hA4 e0
                  go_wp2_with (first
                    | (go_at_call 7; (with_reducible refine RW'.out.mono ?_); rintro e x1 ⟨rfl, hq1⟩; obtain ⟨hA1, hB1⟩ := Q1A'.out _ hq1; have e1 := hA1.cell 1 (by decide); have e2 := hA1.cell 2 (by decide); obtain ⟨r0, r1, r2, r3, r4, r5⟩ := pkIn_cells hB1; clear hA1 hB1)
                    | (go_at_call 8; (with_reducible refine (PW'.out _ (by with_reducible assumption)).mono ?_); rintro e x2 ⟨rfl, hs2⟩)
                    | (go_at_call 6; (with_reducible refine (EW.out _ (by with_reducible assumption)).mono ?_); rintro e x3 ⟨rfl, hs3⟩; have SB := Lib.hid hs3; clear hs3))
                  go_meet
                  exact ⟨by first | rfl | simp, SB⟩
                by_cases h1 : a0 = 1
                · subst h1
                  go_upto_region 29 with fail
                  obtain ⟨B, kf, Q1, Q1A, RW, PW⟩ := oplays_push hM (by omega) hbl hby.out hoa.out SA.out
                  have PW' := Lib.hid PW
                  have RW' := Lib.hid RW
                  have Q1A' := Lib.hid Q1A
                  have EW := Lib.hid (fun z (h : StA w.heap.size A X w a s t l lv st (.slice oab body.length bcb) wait b bm rb (i + 1) z) => (error_same kf z (HE.out.below h.kb)).mono (fun e w' ⟨h1, h2⟩ => (show e = Ending.returned (.bool true) ∧ StA w.heap.size A X w a s t l lv st (.slice oab body.length bcb) wait b bm rb (i + 1) w' from ⟨h1, h.below hM h2⟩)))
                  have hA4 := SA.out.arr
                  have c1 := hA4.cell 1 (by decide)
                  have c2 := hA4.cell 2 (by decide)
                  obtain ⟨p0, p1, p2, p3, p4, p5⟩ := pkIn_cells SA.out.box
                  clear PW RW Q1A SA hA4 e0
                  go_wp2_with (first
                    | (go_at_call 7; (with_reducible refine RW'.out.mono ?_); rintro e x1 ⟨rfl, hq1⟩; obtain ⟨hA1, hB1⟩ := Q1A'.out _ hq1; have e1 := hA1.cell 1 (by decide); have e2 := hA1.cell 2 (by decide); obtain ⟨r0, r1, r2, r3, r4, r5⟩ := pkIn_cells hB1; clear hA1 hB1)
                    | (go_at_call 8; (with_reducible refine (PW'.out _ (by with_reducible assumption)).mono ?_); rintro e x2 ⟨rfl, hs2⟩)
                    | (go_at_call 6; (with_reducible refine (EW.out _ (by with_reducible assumption)).mono ?_); rintro e x3 ⟨rfl, hs3⟩; have SB := Lib.hid hs3; clear hs3))
                  go_meet
                  exact ⟨by first | rfl | simp, SB⟩
                by_cases h2 : a0 = 2
                · subst h2
                  go_upto_region 29 with fail
                  obtain ⟨B, kf, Q1, Q1A, RW, PW⟩ := oplays_push hM (by omega) hbl hby.out hoa.out SA.out
                  have PW' := Lib.hid PW
                  have RW' := Lib.hid RW
                  have Q1A' := Lib.hid Q1A
                  have EW := Lib.hid (fun z (h : StA w.heap.size A X w a s t l lv st (.slice oab body.length bcb) wait b bm rb (i + 1) z) => (error_same kf z (HE.out.below h.kb)).mono (fun e w' ⟨h1, h2⟩ => (show e = Ending.returned (.bool true) ∧ StA w.heap.size A X w a s t l lv st (.slice oab body.length bcb) wait b bm rb (i + 1) w' from ⟨h1, h.below hM h2⟩)))
                  have hA4 := SA.out.arr
                  have c1 := hA4.cell 1 (by decide)
                  have c2 := hA4.cell 2 (by decide)
                  obtain ⟨p0, p1, p2, p3, p4, p5⟩ := pkIn_cells SA.out.box
                  clear PW RW Q1A SA hA4 e0
                  go_wp2_with (first
                    | (go_at_call 7; (with_reducible refine RW'.out.mono ?_); rintro e x1 ⟨rfl, hq1⟩; obtain ⟨hA1, hB1⟩ := Q1A'.out _ hq1; have e1 := hA1.cell 1 (by decide); have e2 := hA1.cell 2 (by decide); obtain ⟨r0, r1, r2, r3, r4, r5⟩ := pkIn_cells hB1; clear hA1 hB1)
                    | (go_at_call 8; (with_reducible refine (PW'.out _ (by with_reducible assumption)).mono ?_); rintro e x2 ⟨rfl, hs2⟩)
                    | (go_at_call 6; (with_reducible refine (EW.out _ (by with_reducible assumption)).mono ?_); rintro e x3 ⟨rfl, hs3⟩; have SB := Lib.hid hs3; clear hs3))
                  go_meet
                  exact ⟨by first | rfl | simp, SB⟩
                by_cases h3 : a0 = 3
                · subst h3
                  go_upto_region 34 with fail
                  obtain ⟨kf, Q0, Q1, hq0, Q0D, Q1D, PW, RW⟩ := oplays_gone hM (by omega) SA.out
                  have PW' := Lib.hid PW
                  have RW' := Lib.hid RW
                  have Q0D' := Lib.hid Q0D
                  have Q1D' := Lib.hid Q1D
                  have EW := Lib.hid (fun z (h : StA w.heap.size A X w a s t l lv st (.slice oab body.length bcb) wait b bm rb (i + 1) z) => (error_same kf z (HE.out.below h.kb)).mono (fun e w' ⟨h1, h2⟩ => (show e = Ending.returned (.bool true) ∧ StA w.heap.size A X w a s t l lv st (.slice oab body.length bcb) wait b bm rb (i + 1) w' from ⟨h1, h.below hM h2⟩)))
                  clear PW RW Q0D Q1D
                  have hq0d := (Q0D'.out _ hq0).1
                  have hA4 := SA.out.arr
                  have c1 := hA4.cell 1 (by decide)
                  have c2 := hA4.cell 2 (by decide)
                  have hA5 := (Q0D'.out _ hq0d).2
                  have d1 := hA5.cell 1 (by decide)
                  have d2 := hA5.cell 2 (by decide)
                  clear SA hA4 hA5 e0
                  go_region_held3 (fun w' => w'.cell? ⟨A, 1, none⟩ = some (.int .i64 (a 1)) ∧ w'.cell? ⟨A, 2, none⟩ = some (.int .i64 (a 2)))
                    (first | (with_reducible assumption) | (refine And.intro ?_ ?_ <;> with_reducible assumption))
                    (first
                    | (go_at_call 9; (with_reducible refine (PW'.out _ (by with_reducible assumption)).mono ?_); rintro e x1 ⟨rfl, hq1⟩; have hq1d := (Q1D'.out _ hq1).1; have hA1 := (Q1D'.out _ hq1).2; have c1 := (hA1).cell 1 (by decide); have c2 := (hA1).cell 2 (by decide); clear hA1)
                    | (go_at_call 10; (with_reducible refine (RW'.out _ (by with_reducible assumption)).mono ?_); rintro e x2 ⟨rfl, hs2⟩; have hA2 := hs2.arr; have c1 := (hA2).cell 1 (by decide); have c2 := (hA2).cell 2 (by decide); clear hA2)
                    | (go_at_call 6; (with_reducible refine (EW.out _ (by with_reducible assumption)).mono ?_); rintro e x3 ⟨rfl, hs3⟩; have hA3 := hs3.arr; have c1 := (hA3).cell 1 (by decide); have c2 := (hA3).cell 2 (by decide); clear hA3))
                  have SB := Lib.hid hs3
                  clear hs3 hs2 hq1 hq1d hq0 hq0d PW' RW' EW Q0D' Q1D' c1 c2 d1 d2
                  go_wp2_with fail
                  go_meet
                  exact ⟨by first | rfl | simp, SB⟩
                have f0 : (a0 == 0) = false := by simpa using h0
                have f1 : (a0 == 1) = false := by simpa using h1
                have f2 : (a0 == 2) = false := by simpa using h2
                have f3 : (a0 == 3) = false := by simpa using h3
                clear h0 h1 h2 h3
                go_upto_region 21 with fail
                obtain ⟨kf, Q1, Q2, Q1A, Q2B, Q2K, RW, PW, SW⟩ := oplays_pop hM (by omega) HW.out SA.out
                have PW' := Lib.hid PW
                have RW' := Lib.hid RW
                have SW' := Lib.hid SW
                have Q1A' := Lib.hid Q1A
                have EW := Lib.hid (fun v1 v2 z (h : Q2 v1 v2 z) => (error_same kf z (HE.out.below (Q2B v1 v2 z h))).mono (fun e w' ⟨h1, h2⟩ => (show e = Ending.returned (.bool true) ∧ Q2 v1 v2 w' from ⟨h1, Q2K v1 v2 z w' h h2⟩)))
                have hA4 := SA.out.arr
                have c2 := hA4.cell 2 (by decide)
                clear PW RW SW Q1A Q2B Q2K SA hA4 e0
                go_wp2_with (first
                  | (go_at_call 11; (with_reducible refine RW'.out.mono ?_); rintro e x1 ⟨v2, rfl, hq1⟩; have hA1 := Q1A'.out _ _ hq1; have e2 := hA1.cell 2 (by decide); clear hA1)
                  | (go_at_call 12; (with_reducible refine (PW'.out _ _ (by with_reducible assumption)).mono ?_); rintro e x2 ⟨v1, rfl, hq2⟩)
                  | (go_at_call 6; (with_reducible refine (EW.out _ _ _ (by with_reducible assumption)).mono ?_); rintro e x3 ⟨rfl, hq3⟩)
                  | (go_at_call 13; (with_reducible refine (SW'.out _ _ _ (by with_reducible assumption)).mono ?_); rintro e x4 ⟨rfl, hs3⟩; have SB := Lib.hid hs3; clear hs3))
                go_meet
                exact ⟨by first | rfl | simp, SB⟩
              case rest =>
                obtain ⟨rfl, SB⟩ := hcut
                clear SA e0
                obtain ⟨oL, nL, cL, g3, LEN⟩ := oplays_len hM (by omega) SB.out
                have LEN' := Lib.hid LEN
                clear LEN
                have SD := Lib.hid (fun n => (SB.out.drewN n))
                clear SB
                go_upto_region 35 with fail
                go_quiet ((first | (go_at_call 14; exact Calls.quietS (LEN'.out _))))
                go_wp2_with fail
                go_roundw
                case measure => simp [RowKit.intOf]; omega
                case rel => exact ⟨i + 1, by omega, by omega, rfl, Lib.hid ((SD.out _).free hM), Lib.hid (SD.out _).kb⟩
    · have hlt' := Lib.hid hlt
      clear hlt
      go_wp2_with fail
      all_goals first
        | (exfalso; have := hlt'.out; omega)
        | (go_ret; exact ⟨rfl, KB.out⟩)
theorem walk_OrderPlays (w : World) (a0 : Int) (wf0 : (Lit.int .i64 a0).wf = true) (v1 : Value) (l1 : List (Value × List Int)) (o1 : IsRows w v1 l1) (v2 : Value) (l2 : List Pk) (o2 : IsPks w v2 l2) (hE : Env w) :
    Calls Tryd.prog 3 #[.int .i64 a0, v1, v2] w fun e w' => e = .returned (.bool true) ∧ Below w.heap.size w w' := by
  obtain ⟨oa2, c2, rfl, m2, z2⟩ := pks_read o2
  obtain ⟨h1, h2⟩ := o1
  have hl := h1.len
  have sub : ∀ x ∈ l1, ∃ oa n c, x.1 = .slice oa n c ∧ n ≤ maxLen ∧ ∀ j, j < n → ∃ b' f' y, oa = some ⟨b', f', none⟩ ∧ b' < w.heap.size ∧ w.cell? ⟨b', f' + j, none⟩ = some (.int .i64 y) := fun x hx => by
    obtain ⟨oa, c, e, hm, hz⟩ := ints_read (h2 x hx)
    exact ⟨oa, _, c, e, hm, fun j hj => by obtain ⟨b, f, q1, q2, q3, _⟩ := hz j hj; exact ⟨b, f, _, q1, q2, q3⟩⟩
  rcases h1 with ⟨rfl, oa, cap, rfl, r1, _⟩ | ⟨b2, f2, c2', rfl, r1, r2, r3⟩
  · exact walk_OrderPlays_run w hE a0 oa 0 cap (by unfold maxLen; omega) (fun k hk => by omega) oa2 _ c2 m2 z2
  · refine walk_OrderPlays_run w hE a0 _ l1.length c2' hl (fun k hk => ?_) oa2 _ c2 m2 z2
    obtain ⟨oa, n, c, e, hm, hz⟩ := sub l1[k] (List.getElem_mem hk)
    have q : w.cell? ⟨b2, f2 + k, none⟩ = some (l1[k]).1 := r3 k hk
    rw [e] at q
    exact ⟨b2, f2, oa, n, c, rfl, Sl.lt q, q, hm, hz⟩
end Go.Proofs.YtlfdkoebjddokaaDoor
