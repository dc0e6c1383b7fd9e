import Derived.Test.YtanmokomefdaiaaPMeet
import Derived.Test.YtanmokomefdaiaaSlRows
import Derived.Deep.QuietTactic
import Derived.BigQuiet
/-! The walk of the law LinkMeets. -/
namespace Go.Proofs.Ytanmokomefdaiaa
open Go.RowKit
set_option linter.unusedVariables false
set_option linter.unusedSimpArgs false

set_option maxRecDepth 100000 in
set_option maxHeartbeats 16000000 in
theorem walk_LinkMeets (w : World) (a : Int) (wa : (Lit.int .i64 a).wf = true) (b : Int) (wb : (Lit.int .i64 b).wf = true) (v1 : Value) (l1 : List (Value × List Int)) (o1 : IsRows w v1 l1) :
    Calls Try.prog 7 #[.int .i64 a, .int .i64 b, v1] w fun e w' => e = .returned (.bool true) ∧ Below w.heap.size w w' := by
  obtain ⟨b1, f1, c1, oa1, e1, _, _⟩ := o1.1.shape
  have hl1 := o1.1.len
  have O1 := Lib.hid o1
  unfold maxLen at hl1
  clear o1
  subst e1
  go_enter Try.func7, Try.ntmps7
  go_wp2_with fail
  refine (linkNew_ok 7 (by decide) (by decide) _).mono ?_
  rintro e w1 ⟨bo, rfl, hbo, g1, k1⟩
  go_wp2_with fail
  refine (linkOpen_ok bo ⟨0, 7, 0, 0, 0, 0⟩ 0 ⟨by decide, by decide, by decide⟩ (by decide) _ g1).mono ?_
  rintro e w2 ⟨gm, rfl, hgm, m2, g2, k2⟩
  have kb2 := k1.trans (k2.below k1.size hbo)
  clear k1 g1
  have hne2 := lt_of_block g2
  go_upto_region 5 with fail
  refine abs_at (fun y => LinkAt y bo ⟨0, 7, 0, 1, 0, 0⟩ ∧ MsgAt y gm 1 7 0 ∧ gm ≠ bo ∧ bo < y.heap.size ∧ gm < y.heap.size ∧ Below w.heap.size w y) ⟨g2, m2, (by rintro rfl; unfold MsgAt at m2; unfold LinkAt at g2; rw [m2] at g2; simp at g2), lt_of_block g2, lt_of_block m2, kb2⟩ ?_
  clear g2 m2 k2 kb2 hgm hne2
  rintro w3 ⟨g3, m3, hne3, hs3, hs3', kb3⟩
  have hnew : MsgIn (w3.alloc (.cells #[.int .i64 1, .int .i64 9, .int .i64 0] 3)) w3.heap.size 0 1 9 0 := ⟨obj_cell (obj_new w3 _) rfl, obj_cell (obj_new w3 _) rfl, obj_cell (obj_new w3 _) rfl⟩
  go_wp2_with fail
  refine (linkHear_1cold bo w3.heap.size 0 3 ⟨0, 7, 0, 1, 0, 0⟩ 0 9 0 ⟨by decide, by decide, by decide⟩ rfl ⟨by decide, by decide, by decide, by decide, by decide, by decide⟩ _ (obj_old g3 _) hnew (by omega)).mono ?_
  rintro e w4 ⟨gn, rfl, hgn, m4, g4, k4⟩
  have m4' : MsgAt w4 gm 1 7 0 := Keeps.heap k4 (obj_old m3 _) hne3
  have kb4 := (kb3.alloc kb3.size (.cells #[.int .i64 1, .int .i64 9, .int .i64 0] 3)).trans (k4.below (by have := kb3.size; simp; omega) hbo)
  clear g3 m3 k4 hnew kb3
  have c1 := obj_cell m4' (k := 1) rfl
  have c0 := obj_cell m4 (k := 0) rfl
  have c2 := obj_cell m4 (k := 2) rfl
  have hst := Lib.hid (linkState_any bo _ w4 g4)
  have hot := Lib.hid (linkOther_any bo _ w4 g4)
  go_upto_region 8 with (first | (go_at_call 22; refine hst.out.mono ?_; rintro e w' ⟨rfl, rfl⟩) | (go_at_call 23; refine hot.out.mono ?_; rintro e w' ⟨rfl, rfl⟩))
  refine abs_at (fun y => Below w.heap.size w y) kb4 ?_
  clear m4 m4' kb4 c0 c1 c2 g4 hst hot
  rintro w5 kb5
  as_aux_lemma =>
  have fin : ∀ r : Bool, r = true → Ending.returned (.bool r) = .returned (.bool true) := fun r h => by rw [h]
  have Fin := Lib.hid fin
  clear fin
  by_cases hb : 1 ≤ b ∧ b ≤ 1000000
  case neg => as_aux_lemma =>
    have HB := Lib.hid hb
    by_cases ha : 1 ≤ a ∧ a ≤ 1000000
    · go_wp2_with fail
      refine (linkNew_ok a ha.1 ha.2 _).mono ?_
      rintro e w6 ⟨bx, rfl, hbx, g6, k6⟩
      go_wp2_with fail
      refine (linkNew_bad b hb _).mono ?_
      rintro e w7 ⟨rfl, rfl⟩
      have kb7 := kb5.trans (k6.mono kb5.size)
      clear hb g6 k6
      go_wp2
      all_goals first
        | (exfalso; have := HB.out; omega)
        | (go_ret; exact ⟨Fin.out _ (by have := HB.out; simp <;> omega), kb7⟩)
    · go_wp2_with fail
      refine (linkNew_bad a ha _).mono ?_
      rintro e w6 ⟨rfl, rfl⟩
      go_wp2_with fail
      refine (linkNew_bad b hb _).mono ?_
      rintro e w7 ⟨rfl, rfl⟩
      clear hb ha
      go_wp2
      all_goals first
        | (exfalso; have := HB.out; omega)
        | (go_ret; exact ⟨Fin.out _ (by have := HB.out; simp <;> omega), kb5⟩)
  by_cases ha : 1 ≤ a ∧ a ≤ 1000000
  case neg => as_aux_lemma =>
    have HA := Lib.hid ha
    go_wp2_with fail
    refine (linkNew_bad a ha _).mono ?_
    rintro e w6 ⟨rfl, rfl⟩
    go_wp2_with fail
    refine (linkNew_ok b hb.1 hb.2 _).mono ?_
    rintro e w7 ⟨by', rfl, hby, g7, k7⟩
    have kb7 := kb5.trans (k7.mono kb5.size)
    clear ha g7 k7
    go_wp2
    all_goals first
      | (exfalso; have := HA.out; omega)
      | (go_ret; exact ⟨Fin.out _ (by have := HA.out; simp <;> omega), kb7⟩)
  obtain ⟨a1, a2⟩ := ha
  obtain ⟨b1', b2'⟩ := hb
  go_wp2_with fail
  refine (linkNew_ok a a1 a2 _).mono ?_
  rintro e w6 ⟨bx, rfl, hbx, g6, k6⟩
  go_wp2_with fail
  refine (linkNew_ok b b1' b2' _).mono ?_
  rintro e w7 ⟨c0, rfl, hc0, gy7, k7⟩
  have gx7 := g6.below k7 (lt_of_block g6)
  have kb7 := kb5.trans (k6.mono kb5.size)
  have kb8 := kb7.trans (k7.mono kb7.size)
  have hB := kb5.size
  have hBx : w.heap.size ≤ bx := by omega
  have hBy : w.heap.size ≤ c0 := by have := k6.size; omega
  have hxy : bx ≠ c0 := by have := lt_of_block g6; omega
  clear g6 k6 k7 kb7 kb5
  by_cases hb9 : b ≤ 999000
  case neg =>
    go_wp2
    go_ret
    exact ⟨rfl, kb8⟩
  go_wp2_with fail
  refine (linkOpen_ok bx ⟨0, a, 0, 0, 0, 0⟩ 0 ⟨by decide, by decide, Int.le_refl _⟩ (by simp) _ gx7).mono ?_
  rintro e w9 ⟨gp, rfl, hgp, m9, gx9, k9⟩
  have gy9 := gy7.other k9 (Ne.symm hxy)
  have kb9 := kb8.trans (k9.below kb8.size hBx)
  have mt9 : Mt w.heap.size w9 bx c0 ⟨0, a, 0, 1, 0, 0⟩ ⟨0, b, 0, 0, 0, 0⟩ (.slice none 0 0) (.slice none 0 0) [] [] :=
    ⟨gx9, gy9, hxy, hBx, hBy, World.ownsRow_nil _ _ _ _, World.ownsRow_nil _ _ _ _, (fun k hk => by simp [Value.ownBlock] at hk), by simp, by simp⟩
  have mv9 : MsgV w9 (.slice (some ⟨gp, 0, none⟩) 3 3) [1, a, 0] := ⟨gp, 1, a, 0, rfl, rfl, m9⟩
  clear gx7 gy7 kb8 m9 gx9 gy9 k9
  have RUN := Lib.hid (run_more (w9.alloc (.cells #[.slice (some ⟨gp, 0, none⟩) 3 3] 23)) w.heap.size (.slice none 0 0) (.slice (some ⟨gp, 0, none⟩) 3 3) 0 [] (World.ownsRow_nil _ _ _ _) w9.heap.size (obj_new _ _) rfl (by omega) (by have := kb9.size; simp; omega))
  go_upto_block 0 with (at_builtin; obtain ⟨vY, w10, hr, ho, hg, hb⟩ := RUN.out; refine Lib.wpList_append_run _ rfl (.tmp 143) (.tmp 145) 57 57 rfl _ _ rfl rfl _ _ hr ?_)
  have kbA := kb9.alloc kb9.size (.cells #[.slice (some ⟨gp, 0, none⟩) 3 3] 23)
  refine abs_at (fun y => Rnd w.heap.size bx a b y (.int .i64 b) (.pointer (some ⟨c0, 0, none⟩)) (.slice none 0 0) vY (.int .i64 0) 0 ∧ Below w.heap.size w y) ⟨⟨b, 0, c0, ⟨0, a, 0, 1, 0, 0⟩, ⟨0, b, 0, 0, 0, 0⟩, [], [(.slice (some ⟨gp, 0, none⟩) 3 3, [1, a, 0])], rfl, rfl, rfl, Mt.moreY (mt9.below ((Below.refl _ _).alloc (Nat.le_refl _) _)) ho hg hb (mv9.keep (TK.below ((Below.refl _ _).alloc (Nat.le_refl _) _))), ⟨rfl, ⟨Int.le_refl _, by simp, Int.le_refl _, Int.le_refl _, Int.le_refl _, Int.le_refl _⟩, Int.le_refl _, (fun q => absurd q (by simp)), fun _ => rfl⟩, Pl.SideY.new b1' (Int.le_refl _), by simp, by simp; exact ⟨1, a, 0, rfl, by omega, by omega, rfl, by omega, by omega⟩, Int.le_refl _, by omega, Int.le_refl _, by omega, by simp, by simp⟩, Below.grown kbA hg kbA.size (fun k hk => by simp [Value.ownBlock] at hk)⟩ ?_
  clear mt9 mv9 RUN kb9 kbA ho hg hb hr hgp
  rintro w11 ⟨rn, kb11⟩
  as_aux_lemma =>
  have RN := Lib.hid rn
  clear rn
  have hB1 := Lib.hid hBx
  clear hBx hBy hxy hc0 hbx hB
  go_cut [1, 15, 17, 18, 19, 23] (fun s1 s15 s17 s18 s19 _ y => ∃ k : Nat, k ≤ 60 ∧ Rnd w.heap.size bx a b y s1 s15 s17 s18 s19 k ∧ Below w.heap.size w y)
  case first =>
    as_aux_lemma =>
    go_wp2_with fail
    go_loopw [1, 15, 17, 18, 19, 23] (fun s1 s15 s17 s18 s19 i wr => ∃ k : Nat, k ≤ l1.length ∧ k ≤ 60 ∧ i = .int .i64 k ∧ Rnd w.heap.size bx a b wr s1 s15 s17 s18 s19 k ∧ Below w.heap.size w wr) (fun _ _ _ _ _ i _ => 60 - (intOf i).toNat)
    case atStart => exact ⟨0, by omega, by omega, rfl, RN.out, kb11⟩
    case round =>
      as_aux_lemma =>
      clear RN kb11
      obtain ⟨k, hk, hk60, rfl, ⟨bb, now, c, x, y, tX, tY, rfl, rfl, rfl, mt, sx, sy, mx, my, i1, i2, i3, i4, i5, i6⟩, kb⟩ := hrel
      have MXh := Lib.hid mx
      have MYh := Lib.hid my
      clear mx my
      by_cases hlt1 : k < l1.length
      case neg =>
        go_wp2_with fail
        go_meet
        exact ⟨k, hk60, ⟨bb, now, c, x, y, tX, tY, rfl, rfl, rfl, mt, sx, sy, MXh.out, MYh.out, i1, i2, i3, i4, i5, i6⟩, kb⟩
      by_cases hlt2 : k < 60
      case neg =>
        go_wp2_with fail
        go_meet
        exact ⟨k, hk60, ⟨bb, now, c, x, y, tX, tY, rfl, rfl, rfl, mt, sx, sy, MXh.out, MYh.out, i1, i2, i3, i4, i5, i6⟩, kb⟩
      obtain ⟨oaX, cX, hvX⟩ := row_len mt.rX
      subst hvX
      obtain ⟨oaY, cY, hvY⟩ := row_len mt.rY
      subst hvY
      have bnd : Pl.Bnd a b bb now := ⟨a1, a2, b1', i1, by omega, i3, by omega⟩
      obtain ⟨bi, fi, ci, oa, n, cc, m, bm, om, ev, q, hbi, hn, hs, hnl, hbm, hcm⟩ := O1.out.at hlt1
      simp only [Value.slice.injEq] at ev
      obtain ⟨rfl, _, rfl⟩ := ev
      unfold maxLen at hnl
      have Q := Lib.hid (fun W (hW : Below w.heap.size w W) => (hW.cell (p := ⟨bi, fi + k, none⟩) hbi).trans q)
      have HC := Lib.hid (fun W (hW : Below w.heap.size w W) j (hj : j < m.length) (hp : 0 < n) => (hW.cell (p := ⟨bm, om + j, none⟩) (hbm hp).2).trans (hcm j hj))
      have HB := Lib.hid hbm
      clear q hcm hbm hs
      go_upto_region 23 with fail
      refine abs_at (fun y => In3 wr y wr.heap.size) ⟨0, 0, 0, obj_new _ _, (Below.refl _ _).alloc (Nat.le_refl _) _⟩ ?_
      obtain ⟨bv, hbv⟩ : ∃ bv, bv = wr.heap.size := ⟨_, rfl⟩
      rw [← hbv]
      have hbv' : wr.heap.size ≤ bv := by omega
      clear hbv
      obtain ⟨w0, hw0⟩ : ∃ w0, w0 = wr := ⟨_, rfl⟩
      subst hw0
      have hks := kb.size
      rintro w3 in3
      as_aux_lemma =>
      go_upto_block 2 with fail
      go_cut [25] from 147 to 328 (fun _ y => In3 w0 y bv)
      case first => as_aux_lemma =>
        go_wp2_with fail
        go_loopw [25] (fun j y => ∃ (jj : Nat), jj ≤ 3 ∧ j = .int .i64 jj ∧ In3 w0 y bv) (fun j _ => 3 - (intOf j).toNat)
        case atStart => exact ⟨0, by omega, rfl, in3⟩
        case round =>
          clear in3
          obtain ⟨jj, hj3, rfl, z0, z1, z2, gv, kj⟩ := hrel
          have kbj := kb.trans (kj.mono hks)
          have q := Q.out _ kbj
          by_cases hj : jj < n
          · by_cases hj' : jj < 3
            · obtain ⟨rfl, hbm⟩ := HB.out (by omega)
              have z := HC.out _ kbj jj (by omega) (by omega)
              generalize m[jj]'(by omega) = zz at *
              have fin : ∀ u, In3 w0 (World.setCell wr ⟨bv, jj, none⟩ (.int .i64 u)) bv := by
                intro u
                have KS := kj.trans ((KeepsBut.set (KeepsBut.refl bv wr) jj (.int .i64 u)).below kj.size hbv')
                obtain rfl | rfl | rfl : jj = 0 ∨ jj = 1 ∨ jj = 2 := by omega
                · exact ⟨u, z1, z2, obj_set gv 0 _, KS⟩
                · exact ⟨z0, u, z2, obj_set gv 1 _, KS⟩
                · exact ⟨z0, z1, u, obj_set gv 2 _, KS⟩
              have fin' := fin zz
              obtain ⟨cu, hcu⟩ : ∃ cu, World.cell? wr ⟨bv, jj, none⟩ = some cu := by
                obtain rfl | rfl | rfl : jj = 0 ∨ jj = 1 ∨ jj = 2 := by omega
                · exact ⟨_, obj_cell gv (k := 0) rfl⟩
                · exact ⟨_, obj_cell gv (k := 1) rfl⟩
                · exact ⟨_, obj_cell gv (k := 2) rfl⟩
              have gvj := obj_free gv jj
              clear fin
              have hjn : (jj : Int) < (n : Int) := by omega
              go_wp2_with fail
              go_roundw
              case measure => simp [intOf]; omega
              case rel => first | exact ⟨jj + 1, by omega, by go_num, fin'⟩ | exact ⟨jj + 1, by omega, by go_num⟩
            · go_wp2_with fail
              go_meet
              exact ⟨z0, z1, z2, gv, kj⟩
          · go_wp2_with fail
            go_meet
            exact ⟨z0, z1, z2, gv, kj⟩
      case rest =>
      as_aux_lemma =>
      clear in3 w3
      obtain ⟨z0, z1, z2, g3, k3⟩ := hcut
      have mt3 := mt.below k3
      have kb3 := kb.trans (k3.mono hks)
      clear mt k3 kb hbv' hks Q HC HB
      have c0' := obj_cell g3 (k := 0) rfl
      have c1' := obj_cell g3 (k := 1) rfl
      have c2' := obj_cell g3 (k := 2) rfl
      clear g3
      go_upto_block 4 with fail
      go_cut [1, 15, 19, 26, 27, 28] from 147 to 328 (fun s1 s15 s19 v26 v27 v28 y => v27 = .nilIface ∧ Blk w.heap.size bx a b y s1 s15 s19 v26 v28 (.slice oaX tX.length cX) (.slice oaY tY.length cY) tX tY bb now ∧ Below w.heap.size w y)
      case first =>
        as_aux_lemma =>
        by_cases h0 : z0 = 0 ∨ z0 = 1
        · as_aux_lemma =>
          obtain rfl | rfl := h0
          · as_aux_lemma =>
            by_cases hin : 0 ≤ z1 ∧ z1 < tX.length
            · obtain ⟨q1, q2⟩ := hin
              obtain ⟨kz, rfl⟩ := Int.eq_ofNat_of_zero_le q1
              obtain ⟨rg, rc, rv, rcell⟩ := row_elem mt3.rX (k := kz) (by omega)
              simp only [Value.slice.injEq] at rv
              obtain ⟨rfl, -, rfl⟩ := rv
              have mv := mt3.mX _ (List.getElem_mem (show kz < tX.length by omega))
              have hM := MXh.out _ (List.getElem_mem (show kz < tX.length by omega))
              generalize tX[kz]'(by omega) = p at *
              obtain ⟨pv, pl⟩ := p
              have mv' := mv
              obtain ⟨gg, k0, s0, o0, h8, h9, hm⟩ := mv'
              simp only [] at h8 h9 hM mv rcell
              subst h8
              subst h9
              clear hm
              have MV := Lib.hid mv
              have HM := Lib.hid hM
              clear mv hM
              go_wp2_with fail
              refine (linkHear_any bx x [k0, s0, o0] _ now _ mt3.gx MV.out.sl (MV.out.away mt3.gx)).mono ?_
              rintro e w5 d
              obtain ⟨v5, rfl, blk, k5⟩ := blk_x mt3 sy (Int.le_refl bb) (by omega) (Int.le_refl now) (by omega) (sx.hear bnd HM.out) d
              go_wp2_with fail
              go_meet
              exact ⟨rfl, blk, kb3.trans (k5.below kb3.size hB1.out)⟩
            · have hg2 : (decide (0 ≤ z1) && decide (z1 < (tX.length : Int))) = false := by
                have := hin
                simp only [Bool.and_eq_false_iff, decide_eq_false_iff_not]
                omega
              have HIN := Lib.hid hin
              clear hin
              go_wp2_with fail
              all_goals try (exfalso; have := HIN.out; omega)
              all_goals (
                go_meet
                exact ⟨rfl, blk_none true mt3 sx sy (Int.le_refl bb) (by omega) (Int.le_refl now) (by omega), kb3⟩)
          · as_aux_lemma =>
            by_cases hin : 0 ≤ z1 ∧ z1 < tX.length
            · obtain ⟨q1, q2⟩ := hin
              obtain ⟨kz, rfl⟩ := Int.eq_ofNat_of_zero_le q1
              obtain ⟨rg, rc, rv, rcell⟩ := row_elem mt3.rX (k := kz) (by omega)
              simp only [Value.slice.injEq] at rv
              obtain ⟨rfl, -, rfl⟩ := rv
              have mv := mt3.mX _ (List.getElem_mem (show kz < tX.length by omega))
              have hM := MXh.out _ (List.getElem_mem (show kz < tX.length by omega))
              generalize tX[kz]'(by omega) = p at *
              obtain ⟨pv, pl⟩ := p
              have mv' := mv
              obtain ⟨gg, k0, s0, o0, h8, h9, hm⟩ := mv'
              simp only [] at h8 h9 hM mv rcell
              subst h8
              subst h9
              clear hm
              have MV := Lib.hid mv
              have HM := Lib.hid hM
              clear mv hM
              go_wp2_with fail
              refine (linkHear_any bx x [k0, s0, o0] _ now _ mt3.gx MV.out.sl (MV.out.away mt3.gx)).mono ?_
              rintro e w5 d
              obtain ⟨v5, rfl, blk, k5⟩ := blk_x mt3 sy (Int.le_refl bb) (by omega) (Int.le_refl now) (by omega) (sx.hear bnd HM.out) d
              go_wp2_with fail
              go_meet
              exact ⟨rfl, blk, kb3.trans (k5.below kb3.size hB1.out)⟩
            · have hg2 : (decide (0 ≤ z1) && decide (z1 < (tX.length : Int))) = false := by
                have := hin
                simp only [Bool.and_eq_false_iff, decide_eq_false_iff_not]
                omega
              have HIN := Lib.hid hin
              clear hin
              go_wp2_with fail
              all_goals try (exfalso; have := HIN.out; omega)
              all_goals (
                go_meet
                exact ⟨rfl, blk_none true mt3 sx sy (Int.le_refl bb) (by omega) (Int.le_refl now) (by omega), kb3⟩)
        by_cases h2 : z0 = 2 ∨ z0 = 3
        · as_aux_lemma =>
          clear h0
          obtain rfl | rfl := h2
          · as_aux_lemma =>
            by_cases hin : 0 ≤ z1 ∧ z1 < tY.length
            · obtain ⟨q1, q2⟩ := hin
              obtain ⟨kz, rfl⟩ := Int.eq_ofNat_of_zero_le q1
              obtain ⟨rg, rc, rv, rcell⟩ := row_elem mt3.rY (k := kz) (by omega)
              simp only [Value.slice.injEq] at rv
              obtain ⟨rfl, -, rfl⟩ := rv
              have mv := mt3.mY _ (List.getElem_mem (show kz < tY.length by omega))
              have hM := MYh.out _ (List.getElem_mem (show kz < tY.length by omega))
              generalize tY[kz]'(by omega) = p at *
              obtain ⟨pv, pl⟩ := p
              have mv' := mv
              obtain ⟨gg, k0, s0, o0, h8, h9, hm⟩ := mv'
              simp only [] at h8 h9 hM mv rcell
              subst h8
              subst h9
              clear hm
              have MV := Lib.hid mv
              have HM := Lib.hid hM
              clear mv hM
              go_wp2_with fail
              refine (linkHear_any c y [k0, s0, o0] _ now _ mt3.gy MV.out.sl (MV.out.away mt3.gy)).mono ?_
              rintro e w5 d
              obtain ⟨v5, rfl, blk, k5⟩ := blk_y mt3 sx (Int.le_refl bb) (by omega) (Int.le_refl now) (by omega) (sy.hear bnd HM.out) d
              go_wp2_with fail
              go_meet
              exact ⟨rfl, blk, kb3.trans (k5.below kb3.size mt3.hy)⟩
            · have hg2 : (decide (0 ≤ z1) && decide (z1 < (tY.length : Int))) = false := by
                have := hin
                simp only [Bool.and_eq_false_iff, decide_eq_false_iff_not]
                omega
              have HIN := Lib.hid hin
              clear hin
              go_wp2_with fail
              all_goals try (exfalso; have := HIN.out; omega)
              all_goals (
                go_meet
                exact ⟨rfl, blk_none false mt3 sx sy (Int.le_refl bb) (by omega) (Int.le_refl now) (by omega), kb3⟩)
          · as_aux_lemma =>
            by_cases hin : 0 ≤ z1 ∧ z1 < tY.length
            · obtain ⟨q1, q2⟩ := hin
              obtain ⟨kz, rfl⟩ := Int.eq_ofNat_of_zero_le q1
              obtain ⟨rg, rc, rv, rcell⟩ := row_elem mt3.rY (k := kz) (by omega)
              simp only [Value.slice.injEq] at rv
              obtain ⟨rfl, -, rfl⟩ := rv
              have mv := mt3.mY _ (List.getElem_mem (show kz < tY.length by omega))
              have hM := MYh.out _ (List.getElem_mem (show kz < tY.length by omega))
              generalize tY[kz]'(by omega) = p at *
              obtain ⟨pv, pl⟩ := p
              have mv' := mv
              obtain ⟨gg, k0, s0, o0, h8, h9, hm⟩ := mv'
              simp only [] at h8 h9 hM mv rcell
              subst h8
              subst h9
              clear hm
              have MV := Lib.hid mv
              have HM := Lib.hid hM
              clear mv hM
              go_wp2_with fail
              refine (linkHear_any c y [k0, s0, o0] _ now _ mt3.gy MV.out.sl (MV.out.away mt3.gy)).mono ?_
              rintro e w5 d
              obtain ⟨v5, rfl, blk, k5⟩ := blk_y mt3 sx (Int.le_refl bb) (by omega) (Int.le_refl now) (by omega) (sy.hear bnd HM.out) d
              go_wp2_with fail
              go_meet
              exact ⟨rfl, blk, kb3.trans (k5.below kb3.size mt3.hy)⟩
            · have hg2 : (decide (0 ≤ z1) && decide (z1 < (tY.length : Int))) = false := by
                have := hin
                simp only [Bool.and_eq_false_iff, decide_eq_false_iff_not]
                omega
              have HIN := Lib.hid hin
              clear hin
              go_wp2_with fail
              all_goals try (exfalso; have := HIN.out; omega)
              all_goals (
                go_meet
                exact ⟨rfl, blk_none false mt3 sx sy (Int.le_refl bb) (by omega) (Int.le_refl now) (by omega), kb3⟩)
        by_cases h4 : z0 = 4
        · as_aux_lemma =>
          subst h4
          clear h0 h2
          by_cases ht : 0 ≤ z2 ∧ z2 < 20
          · obtain ⟨t1, t2⟩ := ht
            have bnd4 : Pl.Bnd a b bb (now + z2) := ⟨a1, a2, b1', i1, by omega, by omega, by omega⟩
            go_wp2_with fail
            refine (linkTick_any bx x sx.ok (now + z2) _ mt3.gx).mono ?_
            rintro e w5 d
            obtain ⟨v5, rfl, blk, k5⟩ := blk_x mt3 (sy.mono (by omega)) (Int.le_refl bb) (by omega) (now0 := now) (by omega) (by omega) ((sx.mono (Int.le_refl bb) (show now ≤ now + z2 by omega)).ticks bnd4) d
            go_wp2_with fail
            go_meet
            exact ⟨rfl, blk, kb3.trans (k5.below kb3.size hB1.out)⟩
          · have hg2 : (decide (0 ≤ z2) && decide (z2 < 20)) = false := by
              have := ht
              simp only [Bool.and_eq_false_iff, decide_eq_false_iff_not]
              omega
            have HIN := Lib.hid ht
            clear ht
            go_upto_region 43 with fail
            all_goals try (exfalso; have := HIN.out; omega)
            all_goals (
              go_wp2_with fail
              refine (linkTick_any bx x sx.ok now _ mt3.gx).mono ?_
              rintro e w5 d
              obtain ⟨v5, rfl, blk, k5⟩ := blk_x mt3 sy (Int.le_refl bb) (by omega) (Int.le_refl now) (by omega) (sx.ticks bnd) d
              go_wp2_with fail
              go_meet
              exact ⟨rfl, blk, kb3.trans (k5.below kb3.size hB1.out)⟩)
        by_cases h5 : z0 = 5
        · as_aux_lemma =>
          subst h5
          clear h0 h2 h4
          go_wp2_with fail
          refine (linkTick_any c y sy.ok now _ mt3.gy).mono ?_
          rintro e w5 d
          obtain ⟨v5, rfl, blk, k5⟩ := blk_y mt3 sx (Int.le_refl bb) (by omega) (Int.le_refl now) (by omega) (sy.ticks bnd) d
          go_wp2_with fail
          go_meet
          exact ⟨rfl, blk, kb3.trans (k5.below kb3.size mt3.hy)⟩
        by_cases h6 : z0 = 6
        · as_aux_lemma =>
          subst h6
          clear h0 h2 h4 h5
          have bnd6 : Pl.Bnd a b (bb + 1) now := ⟨a1, a2, b1', by omega, by omega, i3, by omega⟩
          go_wp2_with fail
          refine (linkNew_ok (bb + 1) (by omega) (by omega) _).mono ?_
          rintro e w5 ⟨c6, rfl, hc6, g6, k6⟩
          have mt6 := mt3.newY k6 g6 hc6
          have kb6 := kb3.trans (k6.mono kb3.size)
          clear g6 k6
          go_wp2_with fail
          refine (linkOpen_any c6 ⟨0, bb + 1, 0, 0, 0, 0⟩ now _ mt6.gy).mono ?_
          rintro e w7 d
          obtain ⟨v5, rfl, blk, k7⟩ := blk_y mt6 (sx.mono (show bb ≤ bb + 1 by omega) (Int.le_refl now)) (bb0 := bb) (by omega) (by omega) (Int.le_refl now) (by omega) ((Pl.SideY.new (by omega) i3).open_ bnd6 (by simp)) d
          go_wp2_with fail
          go_meet
          exact ⟨rfl, blk, kb6.trans (k7.below kb6.size mt6.hy)⟩
        have d0 : (z0 == 0) = false := by simp; omega
        have d1 : (z0 == 1) = false := by simp; omega
        have d2 : (z0 == 2) = false := by simp; omega
        have d3 : (z0 == 3) = false := by simp; omega
        have d4 : (z0 == 4) = false := by simp; omega
        have d5 : (z0 == 5) = false := by simp; omega
        have d6 : (z0 == 6) = false := by simp; omega
        go_wp2_with fail
        go_meet
        exact ⟨rfl, blk_none true mt3 sx sy (Int.le_refl bb) (by omega) (Int.le_refl now) (by omega), kb3⟩
      case rest =>
      as_aux_lemma =>
      clear c0' c1' c2' mt3 kb3 sx sy bnd
      obtain ⟨rfl, ⟨bb', now', c', x', y', l, left, rfl, rfl, rfl, rfl, mt5, sx, sy, hl, j1, j2, j3, j4⟩, kb5⟩ := hcut
      go_upto_region 55 with fail
      refine abs_at (fun yw => Mt w.heap.size yw bx c' x' y' (.slice oaX tX.length cX) (.slice oaY tY.length cY) tX tY ∧ ((l = [] ∧ _ = Value.slice none 0 0) ∨ (l ≠ [] ∧ MsgV yw _ l ∧ (left = true → Pl.MY a bb' l) ∧ (left = false → Pl.MX b bb' l))) ∧ Below w.heap.size w yw) ⟨mt5, hl, kb5⟩ ?_
      clear mt5 hl kb5
      rintro wz ⟨mt5, hl, kb5⟩
      as_aux_lemma =>
      have HL := Lib.hid hl
      clear hl
      obtain ⟨gB, hgB⟩ : ∃ gB, gB = (!l.isEmpty && left) := ⟨_, rfl⟩
      have HG := Lib.hid hgB
      clear hgB
      go_cut [281] from 147 to 328 (fun v y => v = .bool gB ∧ wz = y)
      case first => as_aux_lemma =>
        rcases HL.out with ⟨rfl, rfl⟩ | ⟨h0, mv, _, _⟩
        · have e : gB = false := by rw [HG.out]; rfl
          subst e
          clear HL HG
          go_wp2_with fail
          go_meet
          exact ⟨rfl, rfl⟩
        · obtain ⟨gg, k0, s0, o0, rfl, rfl, hm⟩ := mv
          have e : gB = left := by rw [HG.out]; simp
          subst e
          clear HL HG hm h0
          cases gB
          · go_wp2_with fail
            go_meet
            exact ⟨rfl, rfl⟩
          · go_wp2_with fail
            go_meet
            exact ⟨rfl, rfl⟩
      case rest =>
      obtain ⟨hv, hw⟩ := hcut
      subst hv
      subst hw
      go_upto_if 281 with fail
      go_cut [17, 18] from 147 to 328 (fun s17 s18 y => ∃ tX' tY', Mt w.heap.size y bx c' x' y' s17 s18 tX' tY' ∧ (∀ p ∈ tX', Pl.MX b bb' p.2) ∧ (∀ p ∈ tY', Pl.MY a bb' p.2) ∧ tX'.length ≤ k + 1 ∧ tY'.length ≤ k + 2 ∧ Below w.heap.size w y)
      case first => as_aux_lemma =>
        have mx1 : ∀ p ∈ tX, Pl.MX b bb' p.2 := fun p hp => (MXh.out p hp).mono j1
        have my1 : ∀ p ∈ tY, Pl.MY a bb' p.2 := fun p hp => (MYh.out p hp).mono j1
        have MX1 := Lib.hid mx1
        have MY1 := Lib.hid my1
        clear mx1 my1
        rcases HL.out with ⟨rfl, rfl⟩ | ⟨h0, mv, hl1, hl2⟩
        · have e : gB = false := by rw [HG.out]; rfl
          subst e
          clear HL HG
          go_wp2_with fail
          go_meet
          exact ⟨tX, tY, mt5, MX1.out, MY1.out, by omega, by omega, kb5⟩
        · have MV := Lib.hid mv
          obtain ⟨gg, k0, s0, o0, rfl, rfl, hm⟩ := mv
          have e : gB = left := by rw [HG.out]; simp
          subst e
          clear HL HG hm h0
          have kbA := kb5.alloc kb5.size (.cells #[.slice (some ⟨gg, 0, none⟩) 3 3] 23)
          have ba : Below wz.heap.size wz (wz.alloc (.cells #[.slice (some ⟨gg, 0, none⟩) 3 3] 23)) := (Below.refl _ _).alloc (Nat.le_refl _) _
          have mtA := mt5.below ba
          have mvA := MV.out.keep (TK.below ba)
          cases gB
          · have hX := hl2 rfl
            clear hl1 hl2
            have HX := Lib.hid hX
            clear hX
            have RUN := Lib.hid (run_more (wz.alloc (.cells #[.slice (some ⟨gg, 0, none⟩) 3 3] 23)) w.heap.size _ (.slice (some ⟨gg, 0, none⟩) 3 3) tX.length _ mtA.rX wz.heap.size (obj_new _ _) rfl (by omega) kbA.size)
            go_wp2_with (at_builtin; obtain ⟨vN, wN, hr, ho, hg, hb⟩ := RUN.out; refine Lib.wpList_append_run _ rfl (.tmp 289) (.tmp 291) 57 57 rfl _ _ rfl rfl _ _ hr ?_)
            go_meet
            exact ⟨_, tY, mtA.moreX ho hg hb mvA, (fun p hp => by rcases List.mem_append.1 hp with hp | hp; exact MX1.out p hp; simp at hp; subst hp; exact HX.out), MY1.out, by simp; omega, by omega, Below.grown kbA hg kbA.size (fun k hk => (mtA.rX.lt k hk).1)⟩
          · have hY := hl1 rfl
            clear hl1 hl2
            have HY := Lib.hid hY
            clear hY
            have RUN := Lib.hid (run_more (wz.alloc (.cells #[.slice (some ⟨gg, 0, none⟩) 3 3] 23)) w.heap.size _ (.slice (some ⟨gg, 0, none⟩) 3 3) tY.length _ mtA.rY wz.heap.size (obj_new _ _) rfl (by omega) kbA.size)
            go_wp2_with (at_builtin; obtain ⟨vN, wN, hr, ho, hg, hb⟩ := RUN.out; refine Lib.wpList_append_run _ rfl (.tmp 282) (.tmp 284) 57 57 rfl _ _ rfl rfl _ _ hr ?_)
            go_meet
            exact ⟨tX, _, mtA.moreY ho hg hb mvA, MX1.out, (fun p hp => by rcases List.mem_append.1 hp with hp | hp; exact MY1.out p hp; simp at hp; subst hp; exact HY.out), by omega, by simp; omega, Below.grown kbA hg kbA.size (fun k hk => (mtA.rY.lt k hk).1)⟩
      case rest =>
      as_aux_lemma =>
      clear mt5 kb5 HL HG MXh MYh
      obtain ⟨tX', tY', mt6, mx6, my6, l5, l6, kb6⟩ := hcut
      have MXh := Lib.hid mx6
      have MYh := Lib.hid my6
      clear mx6 my6
      go_upto_region 59 with fail
      refine abs_at (fun yw => Mt w.heap.size yw bx c' x' y' _ _ tX' tY' ∧ Below w.heap.size w yw) ⟨mt6, kb6⟩ ?_
      clear mt6 kb6
      rintro wv ⟨mt6, kb6⟩
      as_aux_lemma =>
      go_cut [328] from 147 to 328 (fun v y => v = .bool false ∧ wv = y)
      case first => as_aux_lemma =>
        have stx := Lib.hid (linkState_any bx x' wv mt6.gx)
        have otx := Lib.hid (linkOther_any bx x' wv mt6.gx)
        have sty := Lib.hid (linkState_any c' y' wv mt6.gy)
        have oty := Lib.hid (linkOther_any c' y' wv mt6.gy)
        have swx := sx.warm
        have scx := sx.cold
        have swy := sy.warm
        have HX := Lib.hid (show (x'.state = 2 → b ≤ x'.other ∧ x'.other ≤ bb') ∧ (x'.state ≠ 2 → x'.other = 0) ∧ (y'.state = 2 → y'.other = a) from ⟨swx, scx, swy⟩)
        clear sx sy mt6
        by_cases hxs : x'.state = 2
        · have e1 := swx hxs
          have d1 : (x'.state == 2) = true := by simpa using hxs
          have d1n : (x'.state != 2) = false := by simp [bne, d1]
          have d2 : decide (x'.other < b) = false := by simp; omega
          have d3 : decide (bb' < x'.other) = false := by simp; omega
          have p2 : ¬ x'.other < b := by omega
          have p3 : ¬ bb' < x'.other := by omega
          have HX2 := Lib.hid hxs
          clear swx scx hxs
          by_cases hys : y'.state = 2
          · have e2 := swy hys
            have d4 : (y'.state == 2) = true := by simpa using hys
            have d5 : (y'.other == a) = true := by simpa using e2
            have d5n : (y'.other != a) = false := by simp [bne, d5]
            clear swy hys e2 e1
            go_wp2_with (first | (go_at_call 22; first | (refine stx.out.mono ?_; rintro e w' ⟨rfl, rfl⟩) | (refine sty.out.mono ?_; rintro e w' ⟨rfl, rfl⟩)) | (go_at_call 23; first | (refine otx.out.mono ?_; rintro e w' ⟨rfl, rfl⟩) | (refine oty.out.mono ?_; rintro e w' ⟨rfl, rfl⟩)))
            first
              | (go_meet; exact ⟨rfl, rfl⟩)
              | (go_meet; exact ⟨by simp [*], rfl⟩)
              | (go_meet; exact ⟨congrArg Value.bool (by have := HX.out; simp; omega), rfl⟩)
          · have d4 : (y'.state == 2) = false := by simpa using hys
            clear swy hys e1
            go_wp2_with (first | (go_at_call 22; first | (refine stx.out.mono ?_; rintro e w' ⟨rfl, rfl⟩) | (refine sty.out.mono ?_; rintro e w' ⟨rfl, rfl⟩)) | (go_at_call 23; first | (refine otx.out.mono ?_; rintro e w' ⟨rfl, rfl⟩) | (refine oty.out.mono ?_; rintro e w' ⟨rfl, rfl⟩)))
            first
              | (go_meet; exact ⟨rfl, rfl⟩)
              | (go_meet; exact ⟨by simp [*], rfl⟩)
              | (go_meet; exact ⟨congrArg Value.bool (by have := HX.out; simp; omega), rfl⟩)
        · have e1 := scx hxs
          have d1 : (x'.state == 2) = false := by simpa using hxs
          have d1n : (x'.state != 2) = true := by simp [bne, d1]
          have d2 : (x'.other == 0) = true := by simpa using e1
          have d2n : (x'.other != 0) = false := by simp [bne, d2]
          clear swx scx hxs e1
          by_cases hys : y'.state = 2
          · have e2 := swy hys
            have d4 : (y'.state == 2) = true := by simpa using hys
            have d5 : (y'.other == a) = true := by simpa using e2
            have d5n : (y'.other != a) = false := by simp [bne, d5]
            clear swy hys e2
            go_wp2_with (first | (go_at_call 22; first | (refine stx.out.mono ?_; rintro e w' ⟨rfl, rfl⟩) | (refine sty.out.mono ?_; rintro e w' ⟨rfl, rfl⟩)) | (go_at_call 23; first | (refine otx.out.mono ?_; rintro e w' ⟨rfl, rfl⟩) | (refine oty.out.mono ?_; rintro e w' ⟨rfl, rfl⟩)))
            first
              | (go_meet; exact ⟨rfl, rfl⟩)
              | (go_meet; exact ⟨by simp [*], rfl⟩)
              | (go_meet; exact ⟨congrArg Value.bool (by have := HX.out; simp; omega), rfl⟩)
          · have d4 : (y'.state == 2) = false := by simpa using hys
            clear swy hys
            go_wp2_with (first | (go_at_call 22; first | (refine stx.out.mono ?_; rintro e w' ⟨rfl, rfl⟩) | (refine sty.out.mono ?_; rintro e w' ⟨rfl, rfl⟩)) | (go_at_call 23; first | (refine otx.out.mono ?_; rintro e w' ⟨rfl, rfl⟩) | (refine oty.out.mono ?_; rintro e w' ⟨rfl, rfl⟩)))
            first
              | (go_meet; exact ⟨rfl, rfl⟩)
              | (go_meet; exact ⟨by simp [*], rfl⟩)
              | (go_meet; exact ⟨congrArg Value.bool (by have := HX.out; simp; omega), rfl⟩)
      case rest =>
      obtain ⟨hv, hw⟩ := hcut
      subst hv
      subst hw
      go_wp2
      go_roundw
      case measure => simp [intOf]; omega
      case rel => exact ⟨k + 1, by omega, by omega, by go_num, ⟨bb', now', c', x', y', tX', tY', rfl, rfl, rfl, mt6, sx, sy, MXh.out, MYh.out, by omega, by omega, by omega, by omega, l5, l6⟩, kb6⟩
  case rest => as_aux_lemma =>
  clear RN
  obtain ⟨k, hk60, ⟨bb, now, c, x, y, tX, tY, rfl, rfl, rfl, mt, sx, sy, mx, my, i1, i2, i3, i4, i5, i6⟩, kb⟩ := hcut
  clear mx my kb11
  obtain ⟨tx1, tx2, tx3, tx4, tx5⟩ := Pl.Lk.ticks_cold (now' := now + 40) sx.ok sx.now (by omega) (by omega) (Int.le_refl _)
  obtain ⟨ty1, ty2, ty3, ty4, ty5⟩ := Pl.Lk.ticks_cold (now' := now + 40) sy.ok sy.now (by omega) (by omega) (Int.le_refl _)
  have mex := sx.me
  have mey := sy.me
  have hne := mt.ne
  have hyc := mt.hy
  have okx := sx.ok
  have oky := sy.ok
  go_wp2_with fail
  refine (linkTick_any bx x okx (now + 40) _ mt.gx).mono ?_
  rintro e w5 d
  obtain ⟨v5, rfl, gx5, _, k5⟩ := d.ok tx1
  have gy5 := mt.gy.other k5 (Ne.symm hne)
  have kb5 := kb.trans (k5.below kb.size hB1.out)
  clear mt kb k5 sx sy tx1 okx
  generalize (x.ticks (now + 40)).x = x' at *
  go_wp2_with fail
  refine (linkTick_any c y oky (now + 40) _ gy5).mono ?_
  rintro e w6 d
  obtain ⟨v6, rfl, gy6, _, k6⟩ := d.ok ty1
  have gx6 := gx5.other k6 hne
  have kb6 := kb5.trans (k6.below kb5.size hyc)
  clear gx5 gy5 kb5 k6 ty1 oky
  generalize (y.ticks (now + 40)).x = y' at *
  have stx := Lib.hid (linkState_any bx x' w6 gx6)
  have sty := Lib.hid (linkState_any c y' w6 gy6)
  have dx : (x'.state == 2) = false := by simpa using tx2
  have dy : (y'.state == 2) = false := by simpa using ty2
  have TX := Lib.hid (show x'.me = a by omega)
  have TY := Lib.hid (show y'.me = bb by omega)
  have NX := Lib.hid tx4
  have NY := Lib.hid ty4
  have TY2 := Lib.hid ty2
  clear tx2 ty2 tx3 tx4 ty3 ty4 mex mey
  go_upto_region 68 with (go_at_call 22; first | (refine stx.out.mono ?_; rintro e w' ⟨rfl, rfl⟩) | (refine sty.out.mono ?_; rintro e w' ⟨rfl, rfl⟩))
  go_wp2_with fail
  refine (linkOpen_ok c y' (now + 40) ⟨by omega, by omega, by rw [NY.out]; exact Int.le_refl _⟩ TY2.out _ gy6).mono ?_
  rintro e w7 ⟨gp, rfl, hgp, m7, gy7, k7⟩
  have gx7 := gx6.other k7 hne
  have kb7 := kb6.trans (k7.below kb6.size hyc)
  clear gx6 gy6 kb6 k7 stx sty hgp
  have hgx : gp ≠ bx := by
    rintro rfl
    unfold MsgAt at m7
    unfold LinkAt at gx7
    rw [m7] at gx7
    simp at gx7
  have mi7 : MsgIn w7 gp 0 1 bb 0 := by
    have q := TY.out
    rw [q] at m7
    exact ⟨obj_cell m7 (k := 0) rfl, obj_cell m7 (k := 1) rfl, obj_cell m7 (k := 2) rfl⟩
  clear m7
  go_wp2_with fail
  refine (linkHear_1cold bx gp 0 3 x' (now + 40) bb 0 ⟨by omega, by omega, by rw [NX.out]; exact Int.le_refl _⟩ dx ⟨by decide, by decide, by omega, by omega, by decide, by decide⟩ _ gx7 mi7 hgx).mono ?_
  rintro e w8 ⟨gq, rfl, hgq, m8, gx8, k8⟩
  have gy8 := gy7.other k8 (Ne.symm hne)
  have kb8 := kb7.trans (k8.below kb7.size hB1.out)
  clear gx7 gy7 kb7 k8 mi7 hgq hgx
  have hgy : gq ≠ c := by
    rintro rfl
    unfold MsgAt at m8
    unfold LinkAt at gy8
    rw [m8] at gy8
    simp at gy8
  have mi8 : MsgIn w8 gq 0 2 a bb := by
    have q := TX.out
    rw [q] at m8
    exact ⟨obj_cell m8 (k := 0) rfl, obj_cell m8 (k := 1) rfl, obj_cell m8 (k := 2) rfl⟩
  clear m8
  go_wp2_with fail
  refine (linkHear_2cold c gq 0 3 { y' with now := now + 40, state := 1, sent := now + 40 } (now + 40) a bb ⟨by omega, by omega, Int.le_refl _⟩ rfl (by simp; exact TY.out.symm) ⟨by decide, by decide, a1, a2, by omega, by omega⟩ _ gy8 mi8 hgy).mono ?_
  rintro e w9 ⟨gr, rfl, hgr, m9, gy9, k9⟩
  have gx9 := gx8.other k9 hne
  have kb9 := kb8.trans (k9.below kb8.size hyc)
  clear gx8 gy8 kb8 k9 mi8 hgy m9
  have stx := Lib.hid (linkState_any bx _ w9 gx9)
  have otx := Lib.hid (linkOther_any bx _ w9 gx9)
  have sty := Lib.hid (linkState_any c _ w9 gy9)
  have oty := Lib.hid (linkOther_any c _ w9 gy9)
  go_wp2_with (first | (go_at_call 22; first | (refine stx.out.mono ?_; rintro e w' ⟨rfl, rfl⟩) | (refine sty.out.mono ?_; rintro e w' ⟨rfl, rfl⟩)) | (go_at_call 23; first | (refine otx.out.mono ?_; rintro e w' ⟨rfl, rfl⟩) | (refine oty.out.mono ?_; rintro e w' ⟨rfl, rfl⟩)))
  go_ret
  exact ⟨by simp [Pl.Lk.warm], kb9⟩
end Go.Proofs.Ytanmokomefdaiaa
