import Derived.Test.YtnbcajciobfljaaDoorViewErr
import Derived.Deep.CutBlock
/-! The walk of the law ViewMerges. -/
namespace Go.Proofs.YtnbcajciobfljaaDoor
open Go.RowKit
set_option linter.unusedVariables false
set_option linter.unusedSimpArgs false
set_option maxRecDepth 100000 in
set_option maxHeartbeats 8000000 in
theorem walk_ViewMerges_run (w : World) (v1 v2 : Value) (A B : List Mb) (n : Int) (up : Bool) (o1 : IsMs w v1 A) (o2 : IsMs w v2 B) (hE : Env w) :
    Calls Tryd.prog 3 #[v1, v2, .int .i64 n, .bool up] w fun e w' => e = .returned (.bool true) ∧ Below w.heap.size w w' := by
  have ES := Lib.hid (fun (j : Int) y (hh : Below w.heap.size w y) => error_same j y (hE.below hh))
  have RV := Lib.hid (refView_any v1 A w o1)
  have H1 := Lib.hid o1
  have H2 := Lib.hid o2
  obtain ⟨o1', c1, rfl, hl1, hc1, -, -⟩ := ms_read o1
  unfold maxLen at hc1
  clear o1 o2 hE
  go_enter Tryd.func3, Tryd.ntmps3
  go_upto_region 2 with (go_at_call 4; (with_reducible refine RV.out.mono ?_); rintro e z1 ⟨ea, rfl, ha, k⟩; have HA := Lib.hid ha; have K1 := Lib.hid k; clear ha k)
  clear RV
  have CK := Lib.hid (chk_f _ A z1 (H1.out.below K1.out) ea HA.out)
  go_upto_region 4 with (first
    | (go_at_call 6; (with_reducible refine CK.out.mono ?_); rintro e z2 ⟨rfl, k⟩; have K2 := Lib.hid (K1.out.trans (k.mono K1.out.size)); clear k)
    | (go_at_call 5; (with_reducible refine (ES.out ea _ K2.out).mono ?_); rintro e z3 ⟨rfl, k⟩; have K3 := Lib.hid (K2.out.trans (k.mono K2.out.size)); clear k)
    | fail)
  clear CK K1 K2
  refine abs_t (fun y => Hid (Below w.heap.size w y)) K3 ?_
  clear K3
  rintro y KY
  go_upto_if 43 with fail
  go_cut [11] from 42 to 45 (fun v z => ∃ fb : Int, v = .int .i64 fb ∧ Hid (Pl.BothF A B fb) ∧ Hid (Below w.heap.size w z))
  case first =>
    have RV := Lib.hid (refView_any v2 B y (H2.out.below KY.out))
    by_cases c1 : ea = 0
    · have d1 : (ea == 0) = true := by simp [c1]
      have C1 := Lib.hid c1
      clear c1
      go_wp2_with (go_at_call 4; (with_reducible refine RV.out.mono ?_); rintro e z1 ⟨eb, rfl, hb, k⟩; have HB := Lib.hid hb; have K1 := Lib.hid (KY.out.trans (k.mono KY.out.size)); clear hb k)
      go_meet
      exact ⟨eb, rfl, Lib.hid ⟨ea, HA.out, .inr ⟨C1.out, HB.out⟩⟩, K1⟩
    · have d1 : (ea == 0) = false := by simp [c1]
      have C1 := Lib.hid c1
      clear c1
      go_wp2_with fail
      go_meet
      exact ⟨ea, rfl, Lib.hid ⟨ea, HA.out, .inl ⟨C1.out, rfl⟩⟩, KY⟩
  case rest =>
  obtain ⟨fb, rfl, HF, K4⟩ := hcut
  clear KY
  go_upto_if 47 with fail
  go_cut [12, 13, 14, 15, 16] from 46 to 83 (fun v12 v13 _ _ _ z => Hid (IsMs z v12 (Pl.mrgL A B fb)) ∧ Hid (IsMs z v13 (Pl.nwL A B fb)) ∧ Hid (Below w.heap.size w z))
  case first =>
    by_cases c1 : fb = 0
    case neg =>
      have d1 : (fb == 0) = false := by simp [c1]
      have E1 := Lib.hid (show Pl.mrgL A B fb = [] from if_neg c1)
      have E2 := Lib.hid (show Pl.nwL A B fb = [] from if_neg c1)
      clear c1
      go_wp2_with fail
      go_meet
      refine ⟨?_, ?_, K4⟩
      · rw [E1.out]; exact Lib.hid (IsMs.nil _)
      · rw [E2.out]; exact Lib.hid (IsMs.nil _)
    have d1 : (fb == 0) = true := by simp [c1]
    subst c1
    obtain ⟨g1, g2⟩ := HF.out.zero
    have RM := Lib.hid (refMerge_any _ v2 A B _ (H1.out.below K4.out) (H2.out.below K4.out) g1 g2)
    have NW := Lib.hid (Pl.newW_eq g1 g2)
    have GM := Lib.hid (Pl.mergeV_good g1 g2.ok)
    clear g1 g2
    obtain ⟨R, hR⟩ : ∃ R, Pl.mergeV A B = R := ⟨_, rfl⟩
    rw [hR] at RM NW GM
    have E1 := Lib.hid (show Pl.mrgL A B 0 = R from (if_pos rfl).trans hR)
    have E2 := Lib.hid (show Pl.nwL A B 0 = Pl.newW A R from (if_pos rfl).trans NW.out.symm)
    clear hR NW
    go_upto_region 9 with (go_at_call 7; (with_reducible refine RM.out.mono ?_); rintro e z5 ⟨v12, rfl, hm, k⟩; have XM := Lib.hid hm; have K5 := Lib.hid (K4.out.trans (k.mono K4.out.size)); clear hm k)
    clear RM
    obtain ⟨om, cm, rfl, hlm, hcm, -, -⟩ := ms_read XM.out
    unfold maxLen at hcm
    go_upto_region 10 with fail
    go_loopw [13, 14] (fun s13 s14 wr => ∃ i : Nat, i ≤ R.length ∧ s14 = .int .i64 i ∧ Hid (mbK.Own wr z5.heap.size s13 (Pl.newW A (R.take i))) ∧ Hid (Below z5.heap.size z5 wr)) (fun _ s14 _ => R.length - (intOf s14).toNat)
    case atStart => exact ⟨0, by omega, rfl, Lib.hid (RecK.Own.nil _ _), Lib.hid (Below.refl _ _)⟩
    case round =>
      obtain ⟨i, hi, rfl, OR, KR⟩ := hrel
      by_cases hlt : i < R.length
      · obtain ⟨_, _, e, -, -, -, rd⟩ := ms_read (XM.out.below KR.out)
        cases e
        obtain ⟨g, f, rfl, hg, q0, q1, q2, -⟩ := rd i hlt
        have RX := Lib.hid (show ∀ y, Below z5.heap.size z5 y → y.cell? ⟨g, f + i * 3, none⟩ = some (.int .i64 R[i].n) ∧ y.cell? ⟨g, f + i * 3 + 1, none⟩ = some (.int .i64 R[i].v) ∧ y.cell? ⟨g, f + i * 3 + 2, none⟩ = some (.bool R[i].up) from fun y k => by
          obtain ⟨_, _, e, -, -, -, rd⟩ := ms_read (XM.out.below k)
          cases e
          obtain ⟨g9, f9, e9, -, r0, r1, r2, -⟩ := rd i hlt
          cases e9
          exact ⟨r0, r1, r2⟩)
        have GL := Lib.hid (show (Pl.newW A (R.take i)).length ≤ 999999 from by
          have := List.length_filter_le (fun m => decide (Pl.vat A m.n ≠ some m)) (R.take i)
          have h2 := GM.out.len
          unfold Pl.newW
          rw [List.length_take] at this; omega)
        have KRw := Lib.hid (K5.out.trans (KR.out.mono K5.out.size))
        have MB := Lib.hid (refMember_any _ A R[i].n wr (H1.out.below KRw.out))
        have MM := Lib.hid (Pl.newW_more (A := A) hlt)
        clear rd
        obtain ⟨x, hx⟩ : ∃ x, R[i] = x := ⟨_, rfl⟩
        rw [hx] at MB MM RX q0 q1 q2
        obtain ⟨xn, xv, xu⟩ := x
        clear hx
        dsimp only at MB MM RX q0 q1 q2
        go_upto_region 13 with (go_at_call 8; (with_reducible refine MB.out.mono ?_); rintro e z6 ⟨m, b, rfl, hm, k⟩; have HM := Lib.hid hm; have K6 := Lib.hid k; clear hm k)
        clear q0 q1 q2 MB
        obtain ⟨N, hN⟩ : ∃ N, z6.heap.size = N := ⟨_, rfl⟩
        have k7 : Below z6.heap.size z6 (z6.alloc (.cells #[.int .i64 m.n, .int .i64 m.v, .bool m.up] 30)) := (Below.refl _ _).alloc (Nat.le_refl _) _
        refine abs_t (fun y => Hid (MbIn y z6.heap.size m.n m.v m.up) ∧ Hid (Below z5.heap.size z5 y) ∧ Hid (mbK.Own y z5.heap.size u13 (Pl.newW A (R.take i)))) ⟨Lib.hid (obj_new _ _), Lib.hid (KR.out.trans ((K6.out.mono KR.out.size).trans (k7.mono (Nat.le_trans KR.out.size K6.out.size)))), Lib.hid ((OR.out.below K6.out).below k7)⟩ ?_
        rw [hN]
        clear hN k7 OR KR KRw K6
        rintro y ⟨PB, KY, OY⟩
        obtain ⟨p0, p1, p2⟩ := MbIn.cells PB.out
        obtain ⟨q0, q1, q2⟩ := RX.out y KY.out
        obtain ⟨mn, mv, mu⟩ := m
        dsimp only at p0 p1 p2
        obtain ⟨nw, hnw⟩ : ∃ nw : Bool, nw = decide (Pl.vat A xn ≠ some ⟨xn, xv, xu⟩) := ⟨_, rfl⟩
        have MM2 := Lib.hid (show Pl.newW A (R.take (i + 1)) = Pl.newW A (R.take i) ++ (if nw = true then [⟨xn, xv, xu⟩] else []) from by
          rw [MM.out, hnw]
          by_cases q : Pl.vat A xn ≠ some ⟨xn, xv, xu⟩
          · rw [if_pos q, if_pos (decide_eq_true q)]
          · rw [if_neg q, if_neg (by simpa using q)])
        have HNW := Lib.hid hnw
        clear hnw MM
        go_cut [16, 76] from 57 to 76 (fun v16 v76 z => (∃ b : Bool, v16 = .bool b) ∧ v76 = .bool nw ∧ Hid (Below y.heap.size y z))
        case first =>
          rcases HM.out with ⟨rfl, hv⟩ | ⟨rfl, hv, _⟩
          · have hmn : mn = xn := Pl.vat_n hv
            subst hmn
            by_cases hcv : mv = xv
            · subst hcv
              by_cases hcu : mu = xu
              · subst hcu
                have e : nw = false := by rw [HNW.out, hv]; simp
                subst e
                go_quiet (fail)
                go_wp2_with fail
                go_meet
                exact ⟨⟨_, rfl⟩, rfl, Lib.hid (Below.drewN (Below.refl _ _) _)⟩
              · have e : nw = true := by rw [HNW.out, hv]; simp; exact hcu
                subst e
                have hu : mu = !xu := by cases mu <;> cases xu <;> simp at hcu ⊢
                subst hu
                clear hcu
                cases xu
                all_goals
                  go_quiet (fail)
                  go_wp2_with fail
                  go_meet
                  exact ⟨⟨_, rfl⟩, rfl, Lib.hid (Below.drewN (Below.refl _ _) _)⟩
            · have e : nw = true := by rw [HNW.out, hv]; simp; exact .inl hcv
              subst e
              have d2 : (mv == xv) = false := by rw [beq_eq_false_iff_ne]; exact hcv
              go_quiet (fail)
              go_wp2_with fail
              go_meet
              exact ⟨⟨_, rfl⟩, rfl, Lib.hid (Below.drewN (Below.refl _ _) _)⟩
          · have e : nw = true := by rw [HNW.out, hv]; simp
            subst e
            go_quiet (fail)
            go_wp2_with fail
            go_meet
            exact ⟨⟨_, rfl⟩, rfl, Lib.hid (Below.drewN (Below.refl _ _) _)⟩
        case rest =>
        obtain ⟨⟨b16, rfl⟩, rfl, KW⟩ := hcut
        have KZ := Lib.hid (KY.out.trans (KW.out.mono KY.out.size))
        have OZ := Lib.hid (OY.out.below KW.out)
        clear p0 p1 p2 q0 q1 q2 HM PB OY KY KW
        obtain ⟨q0, q1, q2⟩ := RX.out _ KZ.out
        cases nw
        · have O2 := Lib.hid (show mbK.Own wc z5.heap.size u13 (Pl.newW A (R.take (i + 1))) from by
            rw [MM2.out, if_neg (by decide), List.append_nil]; exact OZ.out)
          go_wp2_with fail
          go_roundw
          case measure => simp [intOf]; omega
          case rel => exact ⟨i + 1, by omega, by go_num, O2, KZ⟩
        · obtain ⟨gN, capN, wN, hr, ho, hk⟩ := mb_more OZ.out (⟨xn, xv, xu⟩ : Mb) GL.out KZ.out (Nat.le_refl _)
          have HR := Lib.hid hr
          have O2 := Lib.hid (show mbK.Own wN z5.heap.size (.slice (some ⟨gN, 0, none⟩) ((Pl.newW A (R.take i)).length + 1) capN) (Pl.newW A (R.take (i + 1))) from by
            rw [MM2.out, if_pos rfl]; exact ho)
          have KN := Lib.hid hk
          clear hr ho hk
          go_wp2_with (at_builtin; refine Lib.wpList_append_run _ rfl (.tmp 77) (.tmp 82) 22 22 rfl _ _ rfl rfl _ _ HR.out ?_)
          go_roundw
          case measure => simp [intOf]; omega
          case rel => exact ⟨i + 1, by omega, by go_num, O2, KN⟩
      · obtain rfl : i = R.length := by omega
        have KF := Lib.hid (K5.out.trans (KR.out.mono K5.out.size))
        have X1 := Lib.hid (XM.out.below KR.out)
        have X2 := Lib.hid (show IsMs wr u13 (Pl.newW A R) from by
          have := OR.out
          rw [List.take_length] at this
          exact mbK_ms this (fun x hx => Pl.mbOk_num (GM.out.ok x (List.mem_filter.1 hx).1)))
        go_wp2_with fail
        go_meet
        refine ⟨?_, ?_, KF⟩
        · rw [E1.out]; exact X1
        · rw [E2.out]; exact X2
  case rest =>
  obtain ⟨X1, X2, K7⟩ := hcut
  clear K4
  have M15 := Lib.hid (mrg_f _ v2 A B wc (H1.out.below K7.out) (H2.out.below K7.out) fb HF.out)
  go_upto_region 16 with (go_at_call 9; (with_reducible refine M15.out.mono ?_); rintro e z8 ⟨v17, rfl, hm, k⟩; have Y1 := Lib.hid hm; have XA := Lib.hid (X1.out.below k); have XB := Lib.hid (X2.out.below k); have K8 := Lib.hid (K7.out.trans (k.mono K7.out.size)); clear hm k)
  clear M15 X1 X2 K7
  go_upto_region 17 with (go_at_call 5; (with_reducible refine (ES.out fb _ K8.out).mono ?_); rintro e z9 ⟨rfl, k⟩; have X1 := Lib.hid (XA.out.below k); have X2 := Lib.hid (XB.out.below k); have Y2 := Lib.hid (Y1.out.below k); have K9 := Lib.hid (K8.out.trans (k.mono K8.out.size)); clear k)
  clear XA XB Y1 K8
  have M17 := Lib.hid (nwr_f _ v2 A B z9 (H1.out.below K9.out) (H2.out.below K9.out) fb HF.out)
  go_upto_region 18 with (go_at_call 10; (with_reducible refine M17.out.mono ?_); rintro e zA ⟨v20, rfl, hm, k⟩; have Z1 := Lib.hid hm; have XA := Lib.hid (X1.out.below k); have XB := Lib.hid (X2.out.below k); have YA := Lib.hid (Y2.out.below k); have KA := Lib.hid (K9.out.trans (k.mono K9.out.size)); clear hm k)
  clear M17 X1 X2 Y2 K9
  go_upto_region 19 with (go_at_call 5; (with_reducible refine (ES.out fb _ KA.out).mono ?_); rintro e zB ⟨rfl, k⟩; have X1 := Lib.hid (XA.out.below k); have X2 := Lib.hid (XB.out.below k); have Y2 := Lib.hid (YA.out.below k); have Z2 := Lib.hid (Z1.out.below k); have KB := Lib.hid (KA.out.trans (k.mono KA.out.size)); clear k)
  clear XA XB YA Z1 KA
  have S19 := Lib.hid (sameMbs_b _ _ _ zB Y2.out X1.out)
  go_upto_region 20 with (go_at_call 11; (with_reducible refine S19.out.mono ?_); rintro e zC ⟨rfl, k⟩; have XC := Lib.hid (X2.out.below k); have ZC := Lib.hid (Z2.out.below k); have KC := Lib.hid (KB.out.trans (k.mono KB.out.size)); clear k)
  clear S19 X1 X2 Y2 Z2 KB
  have S20 := Lib.hid (sameMbs_b _ _ _ zC ZC.out XC.out)
  go_upto_region 21 with (go_at_call 11; (with_reducible refine S20.out.mono ?_); rintro e zD ⟨rfl, k⟩; have KD := Lib.hid (KC.out.trans (k.mono KC.out.size)); clear k)
  clear S20 XC ZC KC HF
  refine abs_t (fun y => Hid (Below w.heap.size w y)) KD ?_
  clear KD
  rintro y0 K0
  have OI := Lib.hid (show IRow y0 y0.heap.size (.slice none 0 0) (Pl.alvL (A.take 0) ea) from by
    have e : Pl.alvL (A.take 0) ea = [] := by unfold Pl.alvL; split <;> rfl
    rw [e]; exact IRow.nil _ _)
  have AM := Lib.hid (fun i (h : i < A.length) (c : ea = 0) => (show Pl.alvL (A.take (i + 1)) ea = Pl.alvL (A.take i) ea ++ (if A[i].up = true then [A[i].n] else []) from by
    unfold Pl.alvL; rw [if_pos c, if_pos c]; exact Pl.alive_more h))
  have AL := Lib.hid (fun i (h : i ≤ A.length) (c : ea = 0) => (show (Pl.alvL (A.take i) ea).length ≤ 1000000 from by
    have hg : A.length ≤ 16 := by have := HA.out; rw [c] at this; exact this.good.len
    have := List.length_filter_le (·.up) (A.take i)
    unfold Pl.alvL; rw [if_pos c]
    unfold Pl.aliveV
    rw [List.length_map]
    rw [List.length_take] at this; omega))
  have A0 := Lib.hid (fun i (c : ea ≠ 0) => (show Pl.alvL (A.take i) ea = Pl.alvL A ea from by unfold Pl.alvL; rw [if_neg c, if_neg c]))
  go_upto_region 22 with fail
  go_upto_block 2 with fail
  go_cut [24, 25] from 108 to 130 (fun v24 _ z => Hid (IRow z y0.heap.size v24 (Pl.alvL A ea)) ∧ Hid (Below y0.heap.size y0 z))
  case first =>
    go_upto_region 23 with fail
    go_loopw [24, 25] (fun s24 s25 wr => ∃ i : Nat, i ≤ A.length ∧ s25 = .int .i64 i ∧ Hid (IRow wr y0.heap.size s24 (Pl.alvL (A.take i) ea)) ∧ Hid (Below y0.heap.size y0 wr)) (fun _ s25 _ => A.length - (intOf s25).toNat)
    case atStart => exact ⟨0, by omega, rfl, OI, Lib.hid (Below.refl _ _)⟩
    case round =>
      clear OI
      obtain ⟨i, hi, rfl, OR, KR⟩ := hrel
      by_cases hlt : i < A.length
      · by_cases c1 : ea = 0
        · have d1 : (ea == 0) = true := by simp [c1]
          have hlt2 : (i : Int) < (A.length : Int) := by omega
          have C1 := Lib.hid c1
          clear c1
          have KRw := Lib.hid (K0.out.trans (KR.out.mono K0.out.size))
          obtain ⟨_, _, e, -, -, -, rd⟩ := ms_read (H1.out.below KRw.out)
          cases e
          obtain ⟨g, f, rfl, hg, q0, q1, q2, -⟩ := rd i hlt
          have MM := Lib.hid (AM.out i hlt C1.out)
          have GL := Lib.hid (AL.out i (by omega) C1.out)
          clear rd q1
          obtain ⟨xn, hxn⟩ : ∃ x, A[i].n = x := ⟨_, rfl⟩
          obtain ⟨xu, hxu⟩ : ∃ x, A[i].up = x := ⟨_, rfl⟩
          rw [hxn] at q0 MM
          rw [hxu] at q2 MM
          clear hxn hxu
          cases xu
          · have O2 := Lib.hid (show IRow wr y0.heap.size u24 (Pl.alvL (A.take (i + 1)) ea) from by rw [MM.out, if_neg (by decide), List.append_nil]; exact OR.out)
            go_wp2_with fail
            go_roundw
            case measure => simp [intOf]; omega
            case rel => exact ⟨i + 1, by omega, by go_num, O2, KR⟩
          · obtain ⟨gN, capN, wN, hr, ho, hk⟩ := IRow.more OR.out xn GL.out KR.out (Nat.le_refl _)
            have HR := Lib.hid hr
            have O2 := Lib.hid (show IRow wN y0.heap.size (.slice (some ⟨gN, 0, none⟩) ((Pl.alvL (A.take i) ea).length + 1) capN) (Pl.alvL (A.take (i + 1)) ea) from by
              rw [MM.out, if_pos rfl]; exact ho)
            have KN := Lib.hid hk
            clear hr ho hk
            go_wp2_with (at_builtin; refine Lib.wpList_append_run _ rfl (.tmp 123) (.tmp 129) 36 36 rfl _ _ rfl rfl _ _ HR.out ?_)
            go_roundw
            case measure => simp [intOf]; omega
            case rel => exact ⟨i + 1, by omega, by go_num, O2, KN⟩
        · have d1 : (ea == 0) = false := by simp [c1]
          have OE := Lib.hid (show IRow wr y0.heap.size u24 (Pl.alvL A ea) from by rw [← A0.out i c1]; exact OR.out)
          have hlt2 : (i : Int) < (A.length : Int) := by omega
          clear c1
          go_wp2_with fail
          go_meet
          exact ⟨OE, KR⟩
      · obtain rfl : i = A.length := by omega
        have OE := Lib.hid (show IRow wr y0.heap.size u24 (Pl.alvL A ea) from by have := OR.out; rw [List.take_length] at this; exact this)
        go_wp2_with fail
        go_meet
        exact ⟨OE, KR⟩
  case rest =>
  obtain ⟨OE, KR⟩ := hcut
  have K1 := Lib.hid (K0.out.trans (KR.out.mono K0.out.size))
  clear K0 KR OI AM AL A0
  have OS := Lib.hid (show Sl encI wc u24 (Pl.alvL A ea) from OE.out.sl)
  clear OE
  have M27 := Lib.hid (alv_f _ A wc (H1.out.below K1.out) ea HA.out)
  go_upto_region 28 with (go_at_call 12; (with_reducible refine M27.out.mono ?_); rintro e z2 ⟨v26, rfl, hm, k⟩; have P2 := Lib.hid (show Sl encI z2 v26 (Pl.alvL A ea) from hm.sl); have O2 := Lib.hid (Sl.below OS.out k); have K2 := Lib.hid (K1.out.trans (k.mono K1.out.size)); clear hm k)
  clear M27 OS K1
  go_upto_region 29 with (go_at_call 5; (with_reducible refine (ES.out ea _ K2.out).mono ?_); rintro e z3 ⟨rfl, k⟩; have P3 := Lib.hid (Sl.below P2.out k); have O3 := Lib.hid (Sl.below O2.out k); have K3 := Lib.hid (K2.out.trans (k.mono K2.out.size)); clear k)
  clear P2 O2 K2
  have S29 := Lib.hid (sameIs_b _ _ _ z3 P3.out O3.out)
  go_upto_region 30 with (go_at_call 13; (with_reducible refine S29.out.mono ?_); rintro e z4 ⟨rfl, k⟩; have K4 := Lib.hid (K3.out.trans (k.mono K3.out.size)); clear k)
  clear S29 P3 O3 K3
  refine abs_t (fun y => Hid (Below w.heap.size w y)) K4 ?_
  clear K4
  rintro y1 K1
  obtain ⟨t, ht⟩ : ∃ t : Bool, t = decide (ea = 0 ∧ Pl.nodeB n = false) := ⟨_, rfl⟩
  have HT := Lib.hid ht
  have HND := Lib.hid (show Pl.nodeB n = true ↔ (0 ≤ n ∧ n < 16) from by unfold Pl.nodeB; simp)
  clear ht
  go_cut [151] from 142 to 151 (fun v z => v = .bool t ∧ y1 = z)
  case first =>
    by_cases c1 : ea = 0
    · have d1 : (ea == 0) = true := by simp [c1]
      by_cases c2 : n < 0
      · have HX := Lib.hid (show t = true from by rw [HT.out]; exact decide_eq_true ⟨c1, by cases q : Pl.nodeB n; rfl; have := HND.out.1 q; omega⟩)
        clear c1
        go_wp2_with fail
        go_meet
        exact ⟨by rw [HX.out], rfl⟩
      · by_cases c3 : 15 < n
        · have HX := Lib.hid (show t = true from by rw [HT.out]; exact decide_eq_true ⟨c1, by cases q : Pl.nodeB n; rfl; have := HND.out.1 q; omega⟩)
          clear c1
          go_wp2_with fail
          go_meet
          exact ⟨by rw [HX.out], rfl⟩
        · have HX := Lib.hid (show t = false from by rw [HT.out]; exact decide_eq_false (fun h => by have := HND.out.2 ⟨by omega, by omega⟩; rw [h.2] at this; cases this))
          clear c1
          go_wp2_with fail
          go_meet
          exact ⟨by rw [HX.out], rfl⟩
    · have d1 : (ea == 0) = false := by simp [c1]
      have HX := Lib.hid (show t = false from by rw [HT.out]; exact decide_eq_false (fun h => c1 h.1))
      clear c1
      go_wp2_with fail
      go_meet
      exact ⟨by rw [HX.out], rfl⟩
  case rest =>
  obtain ⟨rfl, rfl⟩ := hcut
  obtain ⟨e2, he2⟩ : ∃ e2 : Int, e2 = if t = true then 1 else ea := ⟨_, rfl⟩
  have HE2 := Lib.hid he2
  clear he2
  go_upto_if 151 with fail
  go_cut [9] from 142 to 151 (fun v z => v = .int .i64 e2 ∧ y1 = z)
  case first =>
    cases t
    · have HX := Lib.hid (show e2 = ea from by rw [HE2.out]; exact if_neg (by decide))
      go_wp2_with fail
      go_meet
      exact ⟨by rw [HX.out], rfl⟩
    · have HX := Lib.hid (show e2 = 1 from by rw [HE2.out]; exact if_pos rfl)
      go_wp2_with fail
      go_meet
      exact ⟨by rw [HX.out], rfl⟩
  case rest =>
  obtain ⟨rfl, rfl⟩ := hcut
  have HE3 := Lib.hid (show (e2 = 0 ∧ ea = 0 ∧ Pl.nodeB n = true) ∨ (e2 ≠ 0 ∧ ∀ f, f = e2 → Pl.BumpF A n up f) from by
    by_cases c1 : ea = 0
    · cases q : Pl.nodeB n with
      | true =>
        have ht : t = false := by rw [HT.out, q]; simp
        exact .inl ⟨by rw [HE2.out, ht, c1]; rfl, c1, rfl⟩
      | false =>
        have ht : t = true := by rw [HT.out, q]; simp [c1]
        have h1 : e2 = 1 := by rw [HE2.out, ht]; rfl
        refine .inr ⟨by omega, fun f hf => ⟨ea, HA.out, .inr ⟨c1, ?_⟩⟩⟩
        rw [hf, h1, q]; rfl
    · have ht : t = false := by rw [HT.out]; exact decide_eq_false (fun h => c1 h.1)
      have h1 : e2 = ea := by rw [HE2.out, ht]; rfl
      exact .inr ⟨by omega, fun f hf => ⟨ea, HA.out, .inl ⟨c1, by omega⟩⟩⟩)
  clear HE2 HT HND
  go_upto_if 153 with fail
  go_cut [9, 29, 30, 31] from 152 to 174 (fun v9 v29 _ _ z => ∃ f3 : Int, v9 = .int .i64 f3 ∧ Hid (Pl.BumpF A n up f3) ∧ Hid (IsMs z v29 (Pl.bmpL A n up f3)) ∧ Hid (Below w.heap.size w z))
  case first =>
    rcases HE3.out with ⟨c0, c1, c2⟩ | ⟨c0, c1⟩
    case inr =>
      have d1 : (e2 == 0) = false := by simp [c0]
      have HB := Lib.hid (c1 e2 rfl)
      have E1 := Lib.hid (show Pl.bmpL A n up e2 = [] from if_neg c0)
      clear c0 c1
      go_wp2_with fail
      go_meet
      refine ⟨e2, rfl, HB, ?_, K1⟩
      rw [E1.out]; exact Lib.hid (IsMs.nil _)
    have d1 : (e2 == 0) = true := by simp [c0]
    have GA := Lib.hid (show Pl.GoodV A from by have := HA.out; rw [c1] at this; exact this.good)
    have V0 := Lib.hid (show Pl.ViewF A 0 from by rw [← c1]; exact HA.out)
    have HNB := Lib.hid c2
    have E0 := Lib.hid c0
    clear c0 c1 c2
    have MB := Lib.hid (refMember_any _ A n y1 (H1.out.below K1.out))
    go_upto_region 35 with (go_at_call 8; (with_reducible refine MB.out.mono ?_); rintro e z6 ⟨m, b, rfl, hm, k⟩; have HM := Lib.hid hm; have K6 := Lib.hid (K1.out.trans (k.mono K1.out.size)); clear hm k)
    clear MB
    obtain ⟨ver, hver⟩ : ∃ ver, (Pl.bumpM A n up).v = ver := ⟨_, rfl⟩
    have HV := Lib.hid hver
    have mv1 : m.v + 1 = ver := by
      rw [← hver]
      unfold Pl.bumpM
      rcases HM.out with ⟨_, h⟩ | ⟨_, h, h2⟩
      · rw [h]
      · rw [h, h2]; rfl
    have mv2 : 0 ≤ m.v ∧ m.v ≤ 1000000 := by
      rcases HM.out with ⟨_, h⟩ | ⟨_, h, h2⟩
      · have := (Pl.mbOk_iff m).1 (GA.out.ok m (Pl.vat_mem h)); omega
      · rw [h2]; simp
    have BM := Lib.hid (show Pl.bumpM A n up = ⟨n, ver, up⟩ from by rw [← hver]; rfl)
    clear hver
    obtain ⟨N, hN⟩ : ∃ N, z6.heap.size = N := ⟨_, rfl⟩
    have hwN : w.heap.size ≤ z6.heap.size := K6.out.size
    refine abs_t (fun y => Hid (MbIn y z6.heap.size m.n m.v m.up) ∧ Hid (Below w.heap.size w y)) ⟨Lib.hid (obj_new _ _), Lib.hid (K6.out.alloc hwN _)⟩ ?_
    rw [hN] at hwN ⊢
    clear hN K6 HM
    obtain ⟨mn, mv, mu⟩ := m
    dsimp only at mv1 mv2
    obtain ⟨mv2, mv3⟩ := mv2
    rintro y2 ⟨PB, K2⟩
    dsimp only at PB
    have PS := Lib.hid (show MbIn (((y2.setCell ⟨N, 0, none⟩ (.int .i64 n)).setCell ⟨N, 1, none⟩ (.int .i64 ver)).setCell ⟨N, 2, none⟩ (.bool up)) N n ver up from obj_set (obj_set (obj_set PB.out 0 _) 1 _) 2 _)
    have KS := Lib.hid (show Below w.heap.size w (((y2.setCell ⟨N, 0, none⟩ (.int .i64 n)).setCell ⟨N, 1, none⟩ (.int .i64 ver)).setCell ⟨N, 2, none⟩ (.bool up)) from K2.out.trans ((KeepsBut.set (KeepsBut.set (KeepsBut.set (KeepsBut.refl N _) _ _) _ _) _ _).below K2.out.size hwN))
    have f0 := obj_free PB.out 0
    have f1 := obj_free PB.out 1
    have f2 := obj_free PB.out 2
    obtain ⟨p0, p1, p2⟩ := MbIn.cells PB.out
    go_upto_region 38 with fail
    try rw [mv1]
    refine abs_t (fun y => Hid (MbIn y N n ver up) ∧ Hid (Below w.heap.size w y)) ⟨PS, KS⟩ ?_
    clear f0 f1 f2 p0 p1 p2 PS KS PB K2
    rintro y3 ⟨PB, K3⟩
    obtain ⟨p0, p1, p2⟩ := MbIn.cells PB.out
    by_cases hbig : 1000000 < ver
    · have HB := Lib.hid (show Pl.BumpF A n up 4 from ⟨0, V0.out, .inr ⟨rfl, by rw [HNB.out, if_pos rfl, HV.out, if_pos hbig]⟩⟩)
      have E1 := Lib.hid (show Pl.bmpL A n up 4 = [] from if_neg (by decide))
      go_wp2_with fail
      go_meet
      refine ⟨4, rfl, HB, ?_, K3⟩
      rw [E1.out]; exact Lib.hid (IsMs.nil _)
    · have HB := Lib.hid (show Pl.BumpF A n up 0 from ⟨0, V0.out, .inr ⟨rfl, by rw [HNB.out, if_pos rfl, HV.out, if_neg hbig]⟩⟩)
      have hok := HB.out.zero.2
      rw [BM.out] at hok
      have GS := Lib.hid (show Pl.GoodV [⟨n, ver, up⟩] from ⟨by simp, by simpa using hok, by simp⟩)
      have E1 := Lib.hid (show Pl.mergeV A [⟨n, ver, up⟩] = Pl.bmpL A n up 0 from by unfold Pl.bmpL; rw [if_pos rfl, BM.out]; rfl)
      have K4 := Lib.hid (K3.out.alloc K3.out.size (.cells #[.int .i64 n, .int .i64 ver, .bool up] 30))
      have RM := Lib.hid (by have := refMerge_any (.slice o1' A.length c1) (.slice (some ⟨y3.heap.size, 0, none⟩) 1 1) A [⟨n, ver, up⟩] (y3.alloc (.cells #[.int .i64 n, .int .i64 ver, .bool up] 30)) (H1.out.below K4.out) (one_ms (x := ⟨n, ver, up⟩) (obj_new _ _) (Pl.mbOk_num hok)) GA.out GS.out; rw [E1.out] at this; exact this)
      clear hok
      go_wp2_with (go_at_call 7; (with_reducible refine RM.out.mono ?_); rintro e z5 ⟨v12, rfl, hm, k⟩; have XM := Lib.hid hm; have K5 := Lib.hid (K4.out.trans (k.mono K4.out.size)); clear hm k)
      go_meet
      exact ⟨0, by rw [E0.out], HB, XM, K5⟩
  case rest =>
  obtain ⟨f3, rfl, HB, XM, K5⟩ := hcut
  clear K1 HE3
  have M41 := Lib.hid (bmp_f _ A n up wc (H1.out.below K5.out) f3 HB.out)
  go_upto_region 42 with (go_at_call 14; (with_reducible refine M41.out.mono ?_); rintro e z6 ⟨v32, rfl, hm, k⟩; have Y6 := Lib.hid hm; have X6 := Lib.hid (XM.out.below k); have K6 := Lib.hid (K5.out.trans (k.mono K5.out.size)); clear hm k)
  clear M41 XM K5
  go_upto_region 43 with (go_at_call 5; (with_reducible refine (ES.out f3 _ K6.out).mono ?_); rintro e z7 ⟨rfl, k⟩; have Y7 := Lib.hid (Y6.out.below k); have X7 := Lib.hid (X6.out.below k); have K7 := Lib.hid (K6.out.trans (k.mono K6.out.size)); clear k)
  clear Y6 X6 K6
  have S43 := Lib.hid (sameMbs_b _ _ _ z7 Y7.out X7.out)
  go_wp2_with (go_at_call 11; (with_reducible refine S43.out.mono ?_); rintro e z8 ⟨rfl, k⟩; have K8 := Lib.hid (K7.out.trans (k.mono K7.out.size)); clear k)
  go_ret
  exact ⟨rfl, K8.out⟩
theorem walk_ViewMerges (w : World) (v1 : Value) (A : List Mb) (o1 : IsMs w v1 A) (v2 : Value) (B : List Mb) (o2 : IsMs w v2 B) (n : Int) (hn : (Lit.int .i64 n).wf = true) (up : Bool) (hE : Env w) :
    Calls Tryd.prog 3 #[v1, v2, .int .i64 n, .bool up] w fun e w' => e = .returned (.bool true) ∧ Below w.heap.size w w' :=
  walk_ViewMerges_run w v1 v2 A B n up o1 o2 hE
end Go.Proofs.YtnbcajciobfljaaDoor
