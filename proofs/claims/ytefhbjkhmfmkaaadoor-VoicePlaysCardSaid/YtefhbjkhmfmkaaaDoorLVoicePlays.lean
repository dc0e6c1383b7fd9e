import Derived.Test.YtefhbjkhmfmkaaaDoorPVPlays
import Derived.Test.YtefhbjkhmfmkaaaDoorVss
import Derived.Deep.QuietTactic
import Derived.BigQuiet
import Derived.Deep.CutBlock
import Derived.Deep.DeepCutAuto
import Derived.Deep.RegionHeld3
import Derived.Deep.MidRow
/-! The walk of the law VoicePlays. -/
namespace Go.Proofs.YtefhbjkhmfmkaaaDoor
open Go.RowKit
set_option linter.unusedVariables false
set_option linter.unusedSimpArgs false
set_option maxRecDepth 100000 in
set_option maxHeartbeats 2000000 in
theorem walk_VoicePlays (w : World) (many : Int) (hmw : (Lit.int .i64 many).wf = true) (v1 : Value) (G : List (Value × List Vc)) (o1 : IsVss w v1 G) (hE : Env w) :
    Calls Tryd.prog 3 #[.int .i64 many, v1] w fun e w' => e = .returned (.bool true) ∧ Below w.heap.size w w' := by
  obtain ⟨og, cg, rfl, hlg, hcg, rd⟩ := vss_read o1
  unfold maxLen at hcg
  have RD := Lib.hid (show ∀ k (hk : k < G.length), ∃ b f, og = some ⟨b, f, none⟩ ∧ (∀ y, Below w.heap.size w y → y.cell? ⟨b, f + k, none⟩ = some G[k].1) ∧ IsVs w G[k].1 G[k].2 from fun k hk => by
    obtain ⟨b, f, e, hb, q, z⟩ := rd k hk
    exact ⟨b, f, e, fun y kk => (kk.cell (p := ⟨b, f + k, none⟩) hb).trans q, z⟩)
  have HE := Lib.hid hE
  clear rd o1 hmw hE
  go_enter Tryd.func3, Tryd.ntmps3
  by_cases hm : 1 ≤ many ∧ many ≤ 20
  case neg =>
    have HM := Lib.hid hm
    have NB := Lib.hid (voiceNew_bad many hm w)
    have EA := Lib.hid ((error_hit 1 1 w HE.out).mono (fun e w' ⟨h1, h2⟩ => (show e = Ending.returned (.bool true) ∧ Below w.heap.size w w' from ⟨by rw [h1]; simp, h2⟩)))
    clear hm
    go_wp2_with (first
      | (go_at_call 4; (with_reducible refine NB.out.mono ?_); rintro r z3 ⟨rfl, rfl⟩; rw [errV_hit 1 (by decide)])
      | (go_at_call 5; (with_reducible refine EA.out.mono ?_); rintro e w6 ⟨rfl, k6⟩))
    all_goals first
      | (exfalso; have := HM.out; omega)
      | (go_ret; exact ⟨rfl, k6⟩)
  obtain ⟨N, hN⟩ : ∃ N : Nat, many = N := ⟨many.toNat, by omega⟩
  subst hN
  have hN1 : 1 ≤ N := by omega
  have hN2 : N ≤ 20 := by omega
  have e1 : ¬ (N : Int) < 1 := by omega
  have e2 : ¬ (20 : Int) < (N : Int) := by omega
  have NW := Lib.hid (voiceNew_ok N (by omega) w)
  clear hm
  go_upto_region 8 with (first
      | (go_at_call 4; (with_reducible refine NW.out.mono ?_); rintro r z3 ⟨ob, bm, rfl, h1, h2, h3, h4, h5, k⟩; have OB := Lib.hid h1; have V3 := Lib.hid (show Voi z3 ob N (-1) bm 0 (Pl.lvAt []) from ⟨h4, h5, (fun i s h => by rw [Pl.lvAt_nil] at h; cases h), by omega, fun e => h3 e.symm, by omega⟩); have K3 := Lib.hid k; have EA := Lib.hid (error_nil 0 z3); clear h1 h2 h3 h4 h5 k)
      | (go_at_call 5; refine EA.out.mono ?_; rintro e w6 ⟨rfl, rfl⟩))
  clear NW e1 e2 EA
  go_upto_region 9 with fail
  have kA : Below z3.heap.size z3 (z3.alloc (.cells #[.int .i64 N, .int .i64 (-1), .slice none 0 0] 32)) := (Below.refl _ _).alloc (Nat.le_refl _) _
  refine abs_t (fun y => Hid (VSt w.heap.size w ob z3.heap.size N y)) (Lib.hid ⟨-1, bm, 0, .slice none 0 0, [], ⟨V3.out.below kA, obj_new _ _, RecK.Own.nil _ _, K3.out.trans (kA.mono K3.out.size), OB.out, K3.out.size⟩, by simp, List.Pairwise.nil⟩) ?_
  generalize z3.heap.size = rb at *
  clear V3 K3 OB kA
  rintro y0 S0
  go_upto_region 10 with fail
  go_loopw [8, 10, 11, 12, 13, 14, 15, 16] (fun _ s10 _ _ _ _ _ _ wr => ∃ i : Nat, i ≤ G.length ∧ i ≤ 30 ∧ s10 = .int .i64 i ∧ Hid (VSt w.heap.size w ob rb N wr)) (fun _ s10 _ _ _ _ _ _ _ => 30 - (intOf s10).toNat)
  case atStart => exact ⟨0, by omega, by omega, rfl, S0⟩
  case round =>
    as_aux_lemma =>
    clear S0
    obtain ⟨i, hi1, hi2, rfl, ST⟩ := hrel
    by_cases hl1 : i < G.length
    case neg =>
      have e1 : ¬ (i : Int) < (G.length : Int) := by omega
      go_wp2_with fail
      go_ret
      exact ⟨rfl, ST.out.kb⟩
    by_cases hl2 : i < 30
    case neg =>
      have e1 : (i : Int) < (G.length : Int) := by omega
      have e2 : ¬ (i : Int) < 30 := by omega
      go_wp2_with fail
      go_ret
      exact ⟨rfl, ST.out.kb⟩
    obtain ⟨bg, fg, rfl, q, hL⟩ := RD.out i hl1
    obtain ⟨vx, hvx⟩ : ∃ x, G[i].1 = x := ⟨_, rfl⟩
    obtain ⟨Lx, hLx⟩ : ∃ x, G[i].2 = x := ⟨_, rfl⟩
    rw [hvx] at q hL
    rw [hLx] at hL
    clear hvx hLx
    have QC := Lib.hid q
    have e1 : (i : Int) < (G.length : Int) := by omega
    have e2 : (i : Int) < 30 := by omega
    obtain ⟨Q0, Q1, hq0, Q0D, Q1D, PW, RW⟩ := vplays_both w ob rb N vx Lx hL wr ST.out
    have PW' := Lib.hid PW
    have RW' := Lib.hid RW
    have Q0D' := Lib.hid Q0D
    have Q1D' := Lib.hid Q1D
    have EW := Lib.hid (fun kf z (h : VSt w.heap.size w ob rb N z) => (error_same kf z (HE.out.below h.kb)).mono (fun e w' ⟨h1, h2⟩ => (show e = Ending.returned (.bool true) ∧ VSt w.heap.size w ob rb N w' from ⟨h1, h.below (Nat.le_refl _) h2⟩)))
    have hi30 : i + 1 ≤ 30 := by omega
    have hiG : i + 1 ≤ G.length := by omega
    clear PW RW Q0D Q1D q hL hl1 hl2
    go_upto_region 12 with fail
    clear e2
    have e0 : (0 : Int) ≤ (i : Int) := by omega
    have c1 := QC.out _ (Q0D'.out _ hq0).2
    have hq0d := (Q0D'.out _ hq0).1
    have d1 := QC.out _ (Q0D'.out _ hq0d).2
    go_region_held3 (fun w' => w'.cell? ⟨bg, fg + i, none⟩ = some vx)
      (with_reducible assumption)
      (first
      | (go_at_call 6; (with_reducible refine (PW'.out _ (by with_reducible assumption)).mono ?_); rintro e x1 ⟨kf, rfl, hq1⟩; have hq1d := (Q1D'.out _ _ hq1).1; have c2 := QC.out _ (Q1D'.out _ _ hq1).2)
      | (go_at_call 7; (with_reducible refine (RW'.out _ _ (by with_reducible assumption)).mono ?_); rintro e x2 ⟨rfl, hs2⟩; have hs2d := hs2.drewN 1; have c3 := QC.out _ hs2.kb)
      | (go_at_call 5; (with_reducible refine (EW.out _ _ (by with_reducible assumption)).mono ?_); rintro e x3 ⟨rfl, hs3⟩; have hs3d := hs3.drewN 1; have c4 := QC.out _ hs3.kb))
    have SB := Lib.hid hs3
    clear hs3 hs3d hs2 hs2d hq1 hq1d hq0 hq0d PW' RW' EW Q0D' Q1D' c1 c2 c3 c4 d1 QC ST
    go_upto_region 13 with fail
    refine abs_t (fun y => Hid (VSt w.heap.size w ob rb N y)) SB ?_
    clear SB
    rintro y SY
    obtain ⟨Q, sp, f, hQ, QV, QB, RT, PT, PS⟩ := vplays_top w ob rb N hN1 hN2 y SY.out
    have QV' := Lib.hid QV
    have QB' := Lib.hid QB
    have RT' := Lib.hid (RT y hQ)
    have PT' := Lib.hid PT
    have PS' := Lib.hid PS
    have HQ := Lib.hid hQ
    clear QV QB RT PT PS hQ SY
    go_upto_region 14 with (go_at_call 8; (with_reducible refine RT'.out.mono ?_); rintro r z ⟨v11, O, rfl, h1, h2, h3, h4, k⟩; have SO := Lib.hid h1; have OR := Lib.hid h3; have NUM := Lib.hid h4; have HQZ := Lib.hid (QB'.out _ _ HQ.out k); have hO := h2; clear h1 h2 h3 h4 k)
    clear RT' HQ
    obtain ⟨TP, QU⟩ := PT'.out O SO.out
    have TP' := Lib.hid TP
    have QU' := Lib.hid QU
    have RIS := Lib.hid (Pl.quiet_rises (many := N) SO.out)
    clear TP QU PT' SO
    have VO := Lib.hid (vcK_vs OR.out NUM.out)
    obtain ⟨o11, c11, rfl, hl11, hm11, -, rd⟩ := vs_read VO.out
    have R11 := Lib.hid (show ∀ u, Below z.heap.size z u → ∀ k (hk : k < O.length), ∃ b f, o11 = some ⟨b, f, none⟩ ∧ u.cell? ⟨b, f + k * 2, none⟩ = some (.int .i64 O[k].who) from fun u kk k hk => by
      obtain ⟨b, f, e, hb, q0, -, -⟩ := rd k hk
      exact ⟨b, f, e, (kk.cell (p := ⟨b, f + k * 2, none⟩) hb).trans q0⟩)
    unfold maxLen at hm11
    clear rd NUM OR
    obtain ⟨T, hT⟩ : ∃ T, min N O.length = T := ⟨_, rfl⟩
    have hT1 : T ≤ O.length := by omega
    have hT2 : T ≤ N := by omega
    have OT := Lib.hid (show O.take N = O.take T from by rw [← hT]; rw [List.take_eq_take_iff]; omega)
    have OD := Lib.hid (show O.drop N = O.drop T from by
      rcases Nat.lt_or_ge N O.length with h | h
      · rw [show T = N by omega]
      · rw [List.drop_eq_nil_of_le h, List.drop_eq_nil_of_le (by omega)])
    have HT := Lib.hid hT
    clear hT
    go_upto_if 70 with fail
    go_cut [12] from 41 to 117 (fun v u => v = .int .i64 T ∧ z = u)
    case first =>
      as_aux_lemma =>
      by_cases h : O.length < N
      · have e5 : (O.length : Int) < (N : Int) := by omega
        have e6 : T = O.length := by have := HT.out; omega
        have E6 := Lib.hid e6
        clear e6 h
        go_wp2_with fail
        go_meet
        exact ⟨by rw [E6.out], rfl⟩
      · have e5 : ¬ (O.length : Int) < (N : Int) := by omega
        have e6 : T = N := by have := HT.out; omega
        have E6 := Lib.hid e6
        clear e6 h
        go_wp2_with fail
        go_meet
        exact ⟨by rw [E6.out], rfl⟩
    case rest =>
    as_aux_lemma =>
    obtain ⟨rfl, rfl⟩ := hcut
    have R0 := Lib.hid (IRow.nil z z.heap.size)
    have K0 := Lib.hid (Below.refl z.heap.size z)
    go_upto_region 19 with fail
    go_loopw [13, 14] (fun s13 s14 u => ∃ (k : Nat) (A : List Int), T ≤ k ∧ k ≤ O.length ∧ s14 = .int .i64 k ∧ A.length ≤ 200 ∧ Hid (A = ((O.take k).drop T).map (·.who)) ∧ Hid (IRow u z.heap.size s13 A) ∧ Hid (Below z.heap.size z u)) (fun _ s14 _ => O.length - (intOf s14).toNat)
    case atStart => exact ⟨T, [], by omega, by omega, rfl, by simp, Lib.hid (by rw [List.drop_eq_nil_of_le (by simp; omega)]; rfl), R0, K0⟩
    case round =>
      as_aux_lemma =>
      clear R0 K0
      obtain ⟨k, A, hk1, hk2, rfl, hA, HA, IR, KU⟩ := hrel
      by_cases hkl : k < O.length
      · have e5 : (k : Int) < (O.length : Int) := by omega
        obtain ⟨g, fo, rfl, q0⟩ := R11.out _ KU.out k hkl
        have HA2 := Lib.hid (show A ++ [O[k].who] = ((O.take (k + 1)).drop T).map (·.who) from by
          rw [List.take_succ_eq_append_getElem hkl, List.drop_append_of_le_length (by simp; omega), List.map_append, ← HA.out]; rfl)
        have hA2 : A.length + 1 ≤ 200 := by
          have := congrArg List.length HA.out
          simp at this; omega
        generalize O[k].who = xw at *
        obtain ⟨gN, capN, wN, hrun, ho, hk3⟩ := IRow.more IR.out xw (by omega) KU.out (Nat.le_refl _)
        have HRUN := Lib.hid hrun
        have HO := Lib.hid ho
        have HK2 := Lib.hid hk3
        clear hrun ho hk3 hkl
        go_wp2_with (at_builtin; refine Lib.wpList_append_run _ rfl (.tmp 80) (.tmp 86) 36 36 rfl _ _ rfl rfl _ _ HRUN.out ?_)
        go_roundw
        case measure => simp only [intOf]; omega
        case rel => exact ⟨k + 1, _, by omega, by omega, by simp, by simp; omega, HA2, HO, HK2⟩
      · have hke : k = O.length := by omega
        subst hke
        have e5 : ¬ (O.length : Int) < (O.length : Int) := by omega
        rw [List.take_length] at HA
        rw [← OD.out] at HA
        clear hkl
        obtain ⟨o13, c13, rfl, -⟩ := intRow_read IR.out
        have VU := Lib.hid (VO.out.below KU.out)
        have SU := Lib.hid IR.out.sl
        have HQU := Lib.hid (QB'.out _ _ HQZ.out KU.out)
        go_upto_region 22 with fail
        clear e5
        refine abs_t (fun y => Hid (Q y) ∧ Hid (IsVs y (.slice o11 O.length c11) O) ∧ Hid (Sl encI y (.slice o13 A.length c13) A)) ⟨HQU, VU, SU⟩ ?_
        clear HQU VU SU KU IR VO R11 HQZ
        rintro y ⟨HQ, VO, SA⟩
        have NX := Lib.hid (show ∀ z, Below y.heap.size y z → IsVs z (.slice o11 T c11) (O.take N) from fun z k => by
          rw [OT.out]; exact (VO.out.below k).take T hT1)
        have QX := Lib.hid (show ∀ z, Below y.heap.size y z → Q z from fun z k => QB'.out _ _ HQ.out k)
        go_cut [15] from 88 to 93 (fun v z => v = .bool true ∧ Hid (Below y.heap.size y z))
        case first =>
          as_aux_lemma =>
          have hq0 := HQ.out
          have hq0d : Q y.drew := QX.out _ (Below.drewN (Below.refl _ _) 1)
          have kd : Below y.heap.size y y.drew := Below.drewN (Below.refl y.heap.size y) 1
          have i1 : T ≤ c11 := by omega
          have i2 : (T : Int) ≤ (c11 : Int) := by omega
          have i3 : (0 : Int) ≤ (T : Int) := by omega
          have k0 := Below.refl y.heap.size y
          rcases o11 with _ | ⟨b, f, e⟩
          all_goals
            go_region_held3 (fun _ => True)
              (first | trivial | (with_reducible assumption))
              (first
              | (go_at_call 10; (with_reducible refine (TP'.out _ (by with_reducible assumption)).mono ?_); rintro e x1 ⟨v15, rfl, hv15, k1⟩; have kx1 : Below y.heap.size y x1 := (by first | exact k0.trans k1 | exact kd.trans k1); have nx1 := NX.out x1 kx1)
              | (go_at_call 9; (with_reducible refine (sameVcs_b _ _ (O.take N) x1 hv15 nx1).mono ?_); rintro e x2 ⟨rfl, k2⟩; have kx2 : Below y.heap.size y x2 := kx1.trans (k2.mono kx1.size)))
            go_wp2_with fail
            go_meet
            exact ⟨rfl, Lib.hid kx2⟩
        case rest =>
        as_aux_lemma =>
        obtain ⟨rfl, KC⟩ := hcut
        have HQC := Lib.hid (QX.out _ KC.out)
        have SAC := Lib.hid (SA.out.below KC.out)
        clear HQ SA NX VO
        go_upto_region 23 with fail
        refine abs_t (fun y => Hid (Q y) ∧ Hid (Sl encI y (.slice o13 A.length c13) A)) ⟨HQC, SAC⟩ ?_
        clear HQC SAC KC QX
        rintro z ⟨HQ, SA⟩
        have QX := Lib.hid (show ∀ u, Below z.heap.size z u → Q u from fun u k => QB'.out _ _ HQ.out k)
        have QQ := Lib.hid (QU'.out z HQ.out)
        go_upto_region 24 with (first
          | (go_at_call 12; (with_reducible refine QQ.out.mono ?_); rintro r x1 ⟨v16, rfl, h1, k1⟩; have IQ := Lib.hid h1; have KX1 := Lib.hid k1; have RS := Lib.hid (rSorted_any _ A (by omega) x1 (SA.out.below k1)); clear h1 k1)
          | (go_at_call 13; (with_reducible refine RS.out.mono ?_); rintro r x2 ⟨v17, S, rfl, h1, h2, h3, k2⟩; have KX2 := Lib.hid (KX1.out.trans (k2.mono KX1.out.size)); have hS : S = Pl.quiet O N := rises_eq h1 RIS.out.1 (fun i => by rw [h2, RIS.out.2, HA.out]); have IS := Lib.hid (sameInts_eq _ _ (Pl.quiet O N) x2 ((IQ.out.below k2).sl) (by rw [← hS]; exact intRow_sl h3)); clear h1 h2 h3 k2 hS)
          | (go_at_call 11; (with_reducible refine IS.out.mono ?_); rintro r x3 ⟨rfl, nn, rfl⟩; have KX3 := Lib.hid (Below.drewN KX2.out nn)))
        have HQ3 := Lib.hid (QX.out _ KX3.out)
        refine abs_t (fun y => Hid (Q y)) HQ3 ?_
        clear HQ3 KX3 KX2 KX1 IS RS IQ QQ HQ SA QX
        rintro z HQ
        have SPn := Lib.hid (fun n => PS'.out (z.drewN n) (QB'.out _ _ HQ.out (Below.drewN (Below.refl _ _) n)))
        obtain ⟨VS, c1⟩ := QV'.out _ HQ.out
        have VS2 := Lib.hid VS
        clear VS
        go_quiet ((go_at_call 14; exact Calls.quietS (SPn.out _)))
        go_wp2_with fail
        go_roundw
        case measure => simp only [intOf]; omega
        case rel => exact ⟨i + 1, by omega, by omega, by simp, Lib.hid (VS2.out.drewN _)⟩
end Go.Proofs.YtefhbjkhmfmkaaaDoor
