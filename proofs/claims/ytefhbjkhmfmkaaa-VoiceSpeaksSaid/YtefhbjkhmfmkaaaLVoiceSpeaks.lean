import Derived.Test.YtefhbjkhmfmkaaaVoiceG
import Derived.Test.YtefhbjkhmfmkaaaPVoiceC
import Derived.Test.YtefhbjkhmfmkaaaVss
import Derived.Deep.QuietTactic
import Derived.BigQuiet
import Derived.Deep.CutBlock
/-! The walk of the law VoiceSpeaks. -/
namespace Go.Proofs.Ytefhbjkhmfmkaaa
open Go.RowKit
set_option linter.unusedVariables false
set_option linter.unusedSimpArgs false
theorem Pl.top43 {R : List Vc} (h : Pl.SortedOf (Pl.Two 4 3 160 320) R) : ∃ r, R = ⟨3, 320⟩ :: r := by
  cases R with
  | nil => have := h.nil 3; simp [Pl.Two] at this
  | cons v r =>
    have := Pl.Two.top (by decide) h
    obtain ⟨a, b⟩ := v
    refine ⟨r, ?_⟩
    simp at this
    rcases this with ⟨rfl, rfl⟩
    rfl
theorem speak1 (ob bm c N : Nat) (w : World) (hV : Voi w ob 1 (-1) bm c (Pl.Two 4 3 0 0)) (hN : N ≤ ob) :
    Calls Try.prog 6 #[.pointer (some ⟨ob, 0, none⟩), .slice (some ⟨w.heap.size, 0, none⟩) 2 2] (w.alloc (.cells #[.int .i64 4, .int .i64 10, .int .i64 3, .int .i64 20] 29)) fun e w' => e = .returned .nilIface ∧ (∃ bm' c2, Voi w' ob 1 3 bm' c2 (Pl.Two 4 3 160 320)) ∧ Below N w w' := by
  have hlt := lt_of_block hV.at_
  have kA : Below w.heap.size w (w.alloc (.cells #[.int .i64 4, .int .i64 10, .int .i64 3, .int .i64 20] 29)) := (Below.refl _ _).alloc (Nat.le_refl _) _
  have hS : Pl.sc2 (Pl.Two 4 3 0 0) (Pl.lvAt [⟨4, 10⟩, ⟨3, 20⟩]) = Pl.Two 4 3 160 320 := by
    rw [Pl.Two.go (by decide) (fun i h1 h2 => by
      have h1' : ¬ 4 = i := fun e => h1 e.symm
      have h2' : ¬ 3 = i := fun e => h2 e.symm
      simp [Pl.lvAt, h1', h2'])]
    rfl
  refine (voiceHear_ok ob bm c N 1 (-1) _ _ [⟨4, 10⟩, ⟨3, 20⟩] _ (hV.below kA) (vcPair w 4 10 3 20 (Vc.num_of (by omega) (by omega)) (Vc.num_of (by omega) (by omega))) (Pl.LevF.two (by decide) (by decide) (by decide)) (fun c2 h => by rw [hS] at h; have := h.cnt2; omega) hN).mono ?_
  rintro e w' ⟨rfl, ⟨bm', c2, R, hR, hv⟩, k⟩
  rw [hS] at hR hv
  obtain ⟨r, rfl⟩ := Pl.top43 hR
  exact ⟨rfl, ⟨bm', c2, by simpa [Pl.nextSp, Pl.Two] using hv⟩, (kA.mono (by omega)).trans k⟩
/-- who is at the top, or among the quiet -/
theorem Pl.in_all {f : Pl.Sco} {R : List Vc} {sp : Int} {many : Nat} (hi : Pl.Inv sp f) (h : Pl.SortedOf f R) (h0 : 0 < R.length) : ((R.take many).any (fun x => decide (x.who = sp)) || (Pl.quiet R many).any fun x => decide (x = sp)) = true := by
  rcases hi with ⟨rfl, hi⟩ | ⟨h1, s, hs⟩
  · cases R with
    | nil => simp at h0
    | cons v r => have := h.head.1; rw [hi] at this; cases this
  · have hm := (h.2 sp s).2 hs
    rw [← List.take_append_drop many R] at hm
    rcases List.mem_append.1 hm with q | q
    · rw [Bool.or_eq_true]; left
      rw [List.any_eq_true]
      exact ⟨_, q, by simp⟩
    · rw [Bool.or_eq_true]; right
      rw [List.any_eq_true]
      refine ⟨sp, ?_, by simp⟩
      unfold Pl.quiet
      rw [List.mem_mergeSort, List.mem_map]
      exact ⟨_, q, rfl⟩
theorem Pl.inv_zero {f : Pl.Sco} {R : List Vc} {sp : Int} (hi : Pl.Inv sp f) (h : Pl.SortedOf f R) : (R.length = 0 ∧ sp = -1) ∨ (0 < R.length ∧ 0 ≤ sp) := by
  rcases hi with ⟨rfl, hi⟩ | ⟨h1, s, hs⟩
  · left
    cases R with
    | nil => simp
    | cons v r => have := h.head.1; rw [hi] at this; cases this
  · right
    have hm := (h.2 sp s).2 hs
    exact ⟨List.length_pos_of_mem hm, h1⟩
theorem Pl.quiet_len (R : List Vc) (many : Nat) : (Pl.quiet R many).length = R.length - many := by
  unfold Pl.quiet
  rw [List.length_mergeSort]; simp
theorem Pl.quiet_lt {f : Pl.Sco} {R : List Vc} {many : Nat} (h : Pl.SortedOf f R) : (Pl.quiet R many).Pairwise (· < ·) := by
  unfold Pl.quiet
  refine Pl.sorted_lt ?_
  rw [List.map_drop]
  exact h.whos.sublist (List.drop_sublist _ _)
set_option maxRecDepth 100000 in
set_option maxHeartbeats 2000000 in
theorem walk_VoiceSpeaks (w : World) (many : Int) (hmw : (Lit.int .i64 many).wf = true) (v1 : Value) (G : List (Value × List Vc)) (o1 : IsVss w v1 G) (who : Int) (hww : (Lit.int .i64 who).wf = true) :
    Calls Try.prog 4 #[.int .i64 many, v1, .int .i64 who] w fun e w' => e = .returned (.bool true) ∧ Below w.heap.size w w' := by
  obtain ⟨og, cg, rfl, hlg, hcg, rd⟩ := vss_read o1
  unfold maxLen at hcg
  have RD := Lib.hid (show ∀ y, Below w.heap.size w y → ∀ k (hk : k < G.length), ∃ b f, og = some ⟨b, f, none⟩ ∧ y.cell? ⟨b, f + k, none⟩ = some G[k].1 ∧ IsVs y G[k].1 G[k].2 from fun y kk k hk => by
    obtain ⟨b, f, e, hb, q, z⟩ := rd k hk
    exact ⟨b, f, e, (kk.cell (p := ⟨b, f + k, none⟩) hb).trans q, z.below kk⟩)
  have NW := Lib.hid (voiceNew_ok 1 (by omega) w)
  clear rd o1 hmw hww
  go_enter Try.func4, Try.ntmps4
  go_upto_region 4 with (go_at_call 5; (with_reducible refine NW.out.mono ?_); rintro r z0 ⟨ob, bm, rfl, h1, h2, h3, h4, h5, k⟩; have OB := Lib.hid h1; have V0 := Lib.hid (show Voi z0 ob 1 (-1) bm 0 (Pl.Two 4 3 (0 : Nat) 0) from ⟨h4, by have := h5; rw [Pl.Two.start 4 3] at this; exact this, fun i s h => by simp [Pl.Two] at h, by omega, fun e => h3 e.symm, by omega⟩); have K0 := Lib.hid k; clear h1 h2 h3 h4 h5 k)
  clear NW
  have LD := Lib.hid (speak1 ob bm 0 w.heap.size z0 V0.out OB.out)
  go_upto_region 5 with (go_at_call 6; (with_reducible refine LD.out.mono ?_); rintro r z1 ⟨rfl, ⟨bm1, c1, h1⟩, k⟩; have V1 := Lib.hid h1; have K1 := Lib.hid (K0.out.trans k); clear h1 k)
  clear LD V0 K0
  have TP := Lib.hid ((voiceTop_any ob bm1 c1 1 3 _ z1 V1.out (by omega) (by omega)).mono (R' := fun e w' => ∃ v', e = .returned v' ∧ IsVs w' v' [⟨3, 320⟩] ∧ Below z1.heap.size z1 w') (fun e w' ⟨v', R, h1, h2, h3, h4⟩ => by
    obtain ⟨r, rfl⟩ := Pl.top43 h2
    exact ⟨v', h1, by simpa using h3, h4⟩))
  go_upto_region 6 with (go_at_call 8; (with_reducible refine TP.out.mono ?_); rintro r z2 ⟨v10, rfl, h3, k⟩; have HT := Lib.hid h3; have V2 := Lib.hid (V1.out.below k); have K2 := Lib.hid (K1.out.trans (k.mono K1.out.size)); clear h3 k)
  clear TP V1 K1
  obtain ⟨o10, c10, rfl, hl10, -, -, rd⟩ := vs_read HT.out
  obtain ⟨b10, f10, rfl, -, q0, q1, -⟩ := rd 0 (by simp)
  simp only [Nat.zero_mul, Nat.add_zero, List.getElem_cons_zero] at q0 q1
  simp only [List.length_cons, List.length_nil, Nat.zero_add] at hl10
  simp only [List.length_cons, List.length_nil, Nat.zero_add]
  have SP := Lib.hid (voiceSpeaker_any ob _ 1 3 z2 V2.out.at_)
  clear rd HT
  by_cases hm : 1 ≤ many ∧ many ≤ 20
  case neg =>
    have NB := Lib.hid (voiceNew_bad many hm z2)
    go_upto_region 9 with (first
      | (go_at_call 7; (with_reducible refine SP.out.mono ?_); rintro r z3 ⟨rfl, rfl⟩)
      | (go_at_call 5; (with_reducible refine NB.out.mono ?_); rintro r z3 ⟨rfl, rfl⟩))
    rw [errV_hit 1 (by decide)]
    by_cases h1 : many < 1
    · go_wp2_with fail
      go_ret
      exact ⟨rfl, K2.out⟩
    · have h2 : 20 < many := by omega
      go_wp2_with fail
      go_ret
      exact ⟨rfl, K2.out⟩
  obtain ⟨N, hN⟩ : ∃ N : Nat, many = N := ⟨many.toNat, by omega⟩
  subst hN
  have hN1 : 1 ≤ N := by omega
  have hN2 : N ≤ 20 := by omega
  have NW := Lib.hid (voiceNew_ok N (by omega) z2)
  clear hm
  go_upto_region 11 with (first
      | (go_at_call 7; (with_reducible refine SP.out.mono ?_); rintro r z3 ⟨rfl, rfl⟩)
      | (go_at_call 5; (with_reducible refine NW.out.mono ?_); rintro r z3 ⟨ob2, bm2, rfl, h1, h2, h3, h4, h5, k⟩; have OB2 := Lib.hid (show w.heap.size ≤ ob2 from Nat.le_trans K2.out.size h1); have V3 := Lib.hid (show Voi z3 ob2 N (-1) bm2 0 (fun _ => none) from ⟨h4, h5, (fun i s h => (by cases h)), by omega, fun e => h3 e.symm, by omega⟩); have K3 := Lib.hid (K2.out.trans (k.mono K2.out.size)); clear h1 h2 h3 h4 h5 k))
  clear NW SP q0 q1 V2 K2
  go_upto_block 0 with fail
  go_cut [13, 14, 15, 16, 17, 18, 19] from 67 to 218 (fun _ _ _ _ _ _ _ z => ∃ (sp : Int) (bm c : Nat) (f : Pl.Sco), Hid (Voi z ob2 N sp bm c f) ∧ Hid (Pl.Inv sp f) ∧ Hid (Below w.heap.size w z))
  case first =>
    as_aux_lemma =>
    go_upto_region 12 with fail
    go_loopw [13, 14, 15, 16, 17, 18, 19] (fun s13 _ _ _ _ _ _ wr => ∃ (i : Nat) (sp : Int) (bm c : Nat) (f : Pl.Sco), i ≤ G.length ∧ i ≤ 30 ∧ s13 = .int .i64 i ∧ Hid (Voi wr ob2 N sp bm c f) ∧ Hid (Pl.Inv sp f) ∧ Hid (Below w.heap.size w wr)) (fun s13 _ _ _ _ _ _ _ => 30 - (intOf s13).toNat)
    case atStart => exact ⟨0, -1, bm2, 0, _, by omega, by omega, rfl, V3, Lib.hid Pl.Inv.start, K3⟩
    case round =>
      as_aux_lemma =>
      clear V3 K3
      obtain ⟨i, sp, bm, c, f, hi1, hi2, rfl, VR, IR, KR⟩ := hrel
      by_cases hl1 : i < G.length
      · by_cases hl2 : i < 30
        · obtain ⟨bg, fg, rfl, q, hL⟩ := RD.out _ KR.out i hl1
          obtain ⟨vx, hvx⟩ : ∃ x, G[i].1 = x := ⟨_, rfl⟩
          obtain ⟨Lx, hLx⟩ : ∃ x, G[i].2 = x := ⟨_, rfl⟩
          rw [hvx] at q hL
          rw [hLx] at hL
          clear hvx hLx
          have HH := Lib.hid (voiceHear_1 ob2 bm c N sp f vx Lx wr VR.out hL)
          have e1 : (i : Int) < (G.length : Int) := by omega
          have e2 : (i : Int) < 30 := by omega
          clear hL
          go_upto_region 15 with (go_at_call 6; (with_reducible refine HH.out.mono ?_); rintro r z3 ⟨fe, rfl, hk, hc⟩; have K3 := Lib.hid (KR.out.trans (hk.below KR.out.size OB2.out)); have HC := Lib.hid hc; clear hk hc)
          clear HH q
          by_cases hfe : fe = 0
          case neg =>
            have V3 := Lib.hid (show Voi z3 ob2 N sp bm c f from by
              rcases HC.out with ⟨-, -, k⟩ | ⟨-, h, -⟩
              · exact VR.out.below k
              · exact absurd h hfe)
            rw [errV_hit fe hfe]
            clear hfe HC VR KR
            go_wp2_with fail
            go_roundw
            case measure => simp only [intOf]; omega
            case rel => exact ⟨i + 1, sp, bm, c, f, by omega, by omega, by simp, V3, IR, K3⟩
          subst hfe
          rw [errV_nil]
          obtain ⟨bm', c', R, hR, hv⟩ : ∃ bm' c2 R, Pl.SortedOf (Pl.sc2 f (Pl.lvAt Lx)) R ∧ Voi z3 ob2 N (Pl.nextSp (Pl.sc2 f (Pl.lvAt Lx)) R sp) bm' c2 (Pl.sc2 f (Pl.lvAt Lx)) := by
            rcases HC.out with ⟨h, -⟩ | ⟨-, -, h⟩
            · exact absurd rfl h
            · exact h
          have I3 := Lib.hid (Pl.inv_next (sp := sp) hv.ok hR)
          have V3 := Lib.hid hv
          have SO := Lib.hid hR
          clear hv hR HC VR IR KR
          generalize Pl.nextSp (Pl.sc2 f (Pl.lvAt Lx)) R sp = s1 at *
          generalize Pl.sc2 f (Pl.lvAt Lx) = f1 at *
          have TP := Lib.hid ((voiceTop_any ob2 bm' c' N s1 f1 z3 V3.out hN1 hN2).mono (R' := fun e w' => ∃ v', e = .returned v' ∧ IsVs w' v' (R.take N) ∧ Below z3.heap.size z3 w') (fun e w' ⟨v', R', h1, h2, h3, h4⟩ => by
            obtain rfl := h2.eq SO.out
            exact ⟨v', h1, h3, h4⟩))
          go_upto_region 17 with (go_at_call 8; (with_reducible refine TP.out.mono ?_); rintro r z4 ⟨v15, rfl, h3, k⟩; have HT := Lib.hid h3; have V4 := Lib.hid (V3.out.below k); have K4 := Lib.hid (K3.out.trans (k.mono K3.out.size)); clear h3 k)
          clear TP V3 K3
          have QU := Lib.hid ((voiceQuiet_any ob2 bm' c' N s1 f1 z4 V4.out hN1 hN2).mono (R' := fun e w' => ∃ v', e = .returned v' ∧ IRow w' z4.heap.size v' (Pl.quiet R N) ∧ Below z4.heap.size z4 w') (fun e w' ⟨v', R', h1, h2, h3, h4⟩ => by
            obtain rfl := h2.eq SO.out
            exact ⟨v', h1, h3, h4⟩))
          go_upto_region 18 with (go_at_call 9; (with_reducible refine QU.out.mono ?_); rintro r z5 ⟨v16, rfl, h3, k⟩; have HQ := Lib.hid h3; have HT5 := Lib.hid (HT.out.below k); have V5 := Lib.hid (V4.out.below k); have K5 := Lib.hid (K4.out.trans (k.mono K4.out.size)); clear h3 k)
          clear QU V4 K4 HT
          obtain ⟨o15, c15, rfl, hl15, hm15, -, rd⟩ := vs_read HT5.out
          obtain ⟨o16, c16, rfl, rq⟩ := intRow_read HQ.out
          have LQ := HQ.out.sl.len
          unfold maxLen at hm15 LQ
          have HZ := Lib.hid (Pl.inv_zero I3.out SO.out)
          have QL := Lib.hid (Pl.quiet_len R N)
          have QLT := Lib.hid (Pl.quiet_lt (many := N) SO.out)
          have RT := Lib.hid rd
          have RQ := Lib.hid rq
          have IA := Lib.hid (fun h => Pl.in_all (many := N) I3.out SO.out h)
          clear rd rq
          generalize hQ' : Pl.quiet R N = Q at *
          obtain ⟨T, hT⟩ : ∃ T, (R.take N).length = T := ⟨_, rfl⟩
          have TL := Lib.hid (show T = min N R.length from by rw [← hT, List.length_take])
          rw [hT] at hl15 ⊢
          have SP := Lib.hid (voiceSpeaker_any ob2 _ N s1 z5 V5.out.at_)
          clear hT
          go_cut [15, 16, 112] from 67 to 218 (fun a b v z => a = .slice o15 T c15 ∧ b = .slice o16 Q.length c16 ∧ v = .bool false ∧ z5 = z)
          case first =>
            as_aux_lemma =>
            rcases HZ.out with ⟨h1, h2⟩ | ⟨h1, h2⟩
            · have hT0 : T = 0 := by have := TL.out; omega
              subst hT0
              subst h2
              have hQ0 : Q.length = 0 := by have := QL.out; omega
              have HQ0 := Lib.hid hQ0
              have a1 : ¬ (N : Int) < 0 := by omega
              have a2 : (0 : Int) < (N : Int) := by omega
              have a3 : ¬ (0 : Int) < (Q.length : Int) := by omega
              clear h1 hQ0
              go_wp2_with (go_at_call 7; (with_reducible refine SP.out.mono ?_); rintro r z6 ⟨rfl, rfl⟩)
              all_goals (go_meet; exact ⟨by first | rfl | (rw [HQ0.out]), by first | rfl | (rw [HQ0.out]), by first | rfl | (simp; done) | (simp; omega) | exact absurd (List.length_eq_zero_iff.1 HQ0.out) (by assumption), rfl⟩)
            · have hT0 : 0 < T := by have := TL.out; omega
              have a1 : ¬ (N : Int) < (T : Int) := by have := TL.out; omega
              have a4 : ¬ s1 < 0 := by omega
              have a5 : ((T : Int) == 0) = false := by rw [beq_eq_false_iff_ne]; omega
              by_cases hTN : T < N
              · have a2 : (T : Int) < (N : Int) := by omega
                have a3 : ¬ (0 : Int) < (Q.length : Int) := by have := QL.out; have := TL.out; omega
                have HQ0 := Lib.hid (show Q.length = 0 from by omega)
                clear h1 h2
                go_wp2_with (go_at_call 7; (with_reducible refine SP.out.mono ?_); rintro r z6 ⟨rfl, rfl⟩)
                all_goals (go_meet; exact ⟨by first | rfl | (rw [HQ0.out]), by first | rfl | (rw [HQ0.out]), by first | rfl | (simp; done) | (simp; omega) | exact absurd (List.length_eq_zero_iff.1 HQ0.out) (by assumption), rfl⟩)
              · have a2 : ¬ (T : Int) < (N : Int) := by omega
                clear h1 h2
                go_wp2_with (go_at_call 7; (with_reducible refine SP.out.mono ?_); rintro r z6 ⟨rfl, rfl⟩)
                all_goals (go_meet; exact ⟨by first | rfl | simp, by first | rfl | simp, by first | rfl | (simp; done) | (simp; omega), rfl⟩)
          case rest =>
          as_aux_lemma =>
          obtain ⟨rfl, rfl, rfl, rfl⟩ := hcut
          clear SP QL
          go_upto_region 22 with fail
          have KB0 := Lib.hid (Below.refl z5.heap.size z5)
          go_loopw [17, 18] (fun s17 s18 wr => ∃ k : Nat, k ≤ T ∧ s18 = .int .i64 k ∧ s17 = .bool (((R.take N).take k).any fun x => decide (x.who = s1)) ∧ Hid (Below z5.heap.size z5 wr)) (fun _ s18 _ => T - (intOf s18).toNat)
          case atStart => exact ⟨0, by omega, rfl, rfl, KB0⟩
          case round =>
            as_aux_lemma =>
            clear KB0
            obtain ⟨k, hk, rfl, rfl, KY⟩ := hrel
            by_cases hkl : k < T
            · have hkN : k < N := by have := TL.out; omega
              have hkR : k < R.length := by have := TL.out; omega
              have hkT : k < (R.take N).length := by rw [List.length_take]; omega
              obtain ⟨b15, f15, rfl, hb, q0, q1, -⟩ := RT.out k hkT
              rw [List.getElem_take] at q0 q1
              have MM := Lib.hid (show (((R.take N).take (k + 1)).any fun x => decide (x.who = s1)) = ((((R.take N).take k).any fun x => decide (x.who = s1)) || decide (R[k].who = s1)) from by
                rw [List.take_succ_eq_append_getElem hkT, List.any_append]; simp [List.getElem_take])
              have XL := Lib.hid (show 1 ≤ R[k].lvl from (V5.out.ok _ _ ((SO.out.2 R[k].who R[k].lvl).1 (List.getElem_mem _))).2.2.1)
              have QC := Lib.hid (show ∀ y, Below z5.heap.size z5 y → y.cell? ⟨b15, f15 + k * 2, none⟩ = some (.int .i64 R[k].who) ∧ y.cell? ⟨b15, f15 + k * 2 + 1, none⟩ = some (.int .i64 R[k].lvl) from fun y kk => ⟨(kk.cell (p := ⟨b15, f15 + k * 2, none⟩) hb).trans q0, (kk.cell (p := ⟨b15, f15 + k * 2 + 1, none⟩) hb).trans q1⟩)
              have QP := Lib.hid (show k ≠ 0 → ∃ pw pl : Int, (R[k].lvl < pl ∨ (pl = R[k].lvl ∧ pw < R[k].who)) ∧ ∀ y, Below z5.heap.size z5 y → y.cell? ⟨b15, f15 + (k - 1) * 2, none⟩ = some (.int .i64 pw) ∧ y.cell? ⟨b15, f15 + (k - 1) * 2 + 1, none⟩ = some (.int .i64 pl) from fun h0 => by
                obtain ⟨b', f', e, hb', p0, p1, -⟩ := RT.out (k - 1) (by omega)
                cases e
                rw [List.getElem_take] at p0 p1
                have hh := SO.out.lt (k := k - 1) (by omega)
                simp only [show k - 1 + 1 = k by omega] at hh
                exact ⟨_, _, hh, fun y kk => ⟨(kk.cell (p := ⟨b15, f15 + (k - 1) * 2, none⟩) hb).trans p0, (kk.cell (p := ⟨b15, f15 + (k - 1) * 2 + 1, none⟩) hb).trans p1⟩⟩)
              clear q0 q1
              generalize R[k].who = xw at *
              generalize R[k].lvl = xl at *
              have xl1 := XL.out
              have e1 : (k : Int) < (T : Int) := by omega
              have SPn := Lib.hid (fun n => voiceSpeaker_any ob2 bm' N s1 (wr.drewN n) (V5.out.below KY.out).at_)
              obtain ⟨q0, q1⟩ := QC.out _ KY.out
              obtain ⟨bA, hbA⟩ : ∃ b, (((R.take N).take k).any fun x => decide (x.who = s1)) = b := ⟨_, rfl⟩
              rw [hbA] at MM ⊢
              clear hbA
              go_upto_region 24 with fail
              go_cut [17] from 113 to 181 (fun v z => v = .bool (bA || decide (xw = s1)) ∧ Hid (Below z5.heap.size z5 z))
              case first =>
                as_aux_lemma =>
                cases bA
                · go_quiet ((go_at_call 7; exact Calls.quietS (SPn.out _)))
                  go_wp2_with fail
                  go_meet
                  exact ⟨by first | rfl | (simp; done) | (congr 1; simp), Lib.hid (Below.drewN KY.out _)⟩
                · go_quiet (fail)
                  go_wp2_with fail
                  go_meet
                  exact ⟨by first | rfl | simp, Lib.hid (Below.drewN KY.out _)⟩
              case rest =>
              as_aux_lemma =>
              obtain ⟨rfl, KY2⟩ := hcut
              rw [← MM.out]
              clear KY SPn q0 q1
              obtain ⟨q0, q1⟩ := QC.out _ KY2.out
              have d0 : decide (xl < 1) = false := by simp; omega
              go_upto_region 25 with fail
              by_cases hk0 : k = 0
              · subst hk0
                go_quiet (fail)
                go_wp2_with fail
                go_roundw
                case measure => simp only [intOf]; omega
                case rel => exact ⟨1, by omega, rfl, rfl, Lib.hid (Below.drewN KY2.out _)⟩
              · obtain ⟨pw, pl, hpp, QP2⟩ := QP.out hk0
                obtain ⟨p0, p1⟩ := QP2 _ KY2.out
                clear QP2
                have i1 : (0 : Int) ≤ ((k - 1 : Nat) : Int) := by omega
                have i2 : ((k - 1 : Nat) : Int) < (T : Int) := by omega
                have i4 : IntKind.i64.wrap ((k : Int) - 1) = ((k - 1 : Nat) : Int) := by rw [IntKind.wrap_i64]; omega
                have i5 : (0 : Int) < (k : Int) := by omega
                have i6 : 0 < k := by omega
                have i9 : decide ((0 : Int) < (k : Int)) = true := by simp; omega
                rcases hpp with hlt | ⟨rfl, hlt⟩
                · have d1 : decide (pl < xl) = false := by simp; omega
                  have d2 : (pl == xl) = false := by rw [beq_eq_false_iff_ne]; omega
                  clear hlt
                  go_quiet (fail)
                  go_wp2_with fail
                  go_roundw
                  case measure => simp only [intOf]; omega
                  case rel => exact ⟨k + 1, by omega, by simp, rfl, Lib.hid (Below.drewN KY2.out _)⟩
                · have d1 : decide (pl < pl) = false := by simp
                  have d3 : decide (xw ≤ pw) = false := by simp; omega
                  clear hlt
                  go_quiet (fail)
                  go_wp2_with fail
                  go_roundw
                  case measure => simp only [intOf]; omega
                  case rel => exact ⟨k + 1, by omega, by simp, rfl, Lib.hid (Below.drewN KY2.out _)⟩
            · have hkT : k = T := by omega
              subst hkT
              rw [show ((R.take N).take k) = R.take N from List.take_of_length_le (by rw [List.length_take]; have := TL.out; omega)]
              obtain ⟨tA, htA⟩ : ∃ b, ((R.take N).any fun x => decide (x.who = s1)) = b := ⟨_, rfl⟩
              rw [htA] at IA ⊢
              clear htA hkl RT
              have e1 : ¬ (k : Int) < (k : Int) := by omega
              go_upto_region 28 with fail
              go_loopw [17, 19] (fun s17 s19 wq => ∃ m : Nat, m ≤ Q.length ∧ s19 = .int .i64 m ∧ s17 = .bool (tA || (Q.take m).any fun x => decide (x = s1)) ∧ Hid (Below z5.heap.size z5 wq)) (fun _ s19 _ => Q.length - (intOf s19).toNat)
              case atStart => exact ⟨0, by omega, rfl, by simp, KY⟩
              case round =>
                as_aux_lemma =>
                clear KY e1
                obtain ⟨m, hm, rfl, rfl, KY⟩ := hrel
                by_cases hml : m < Q.length
                · obtain ⟨g16, rfl, -, hb, q0⟩ := RQ.out m _ (List.getElem?_eq_getElem hml)
                  have MM := Lib.hid (show (tA || (Q.take (m + 1)).any fun x => decide (x = s1)) = ((tA || (Q.take m).any fun x => decide (x = s1)) || decide (Q[m] = s1)) from by
                    rw [List.take_succ_eq_append_getElem hml, List.any_append]; simp [Bool.or_assoc])
                  have QC := Lib.hid (show ∀ y, Below z5.heap.size z5 y → y.cell? ⟨g16, m, none⟩ = some (.int .i64 Q[m]) from fun y kk => (kk.cell (p := ⟨g16, m, none⟩) hb).trans q0)
                  have QP := Lib.hid (show m ≠ 0 → ∃ pw : Int, pw < Q[m] ∧ ∀ y, Below z5.heap.size z5 y → y.cell? ⟨g16, m - 1, none⟩ = some (.int .i64 pw) from fun h0 => by
                    obtain ⟨g', e, -, hb', p0⟩ := RQ.out (m - 1) _ (List.getElem?_eq_getElem (by omega))
                    cases e
                    exact ⟨_, (List.pairwise_iff_getElem.1 QLT.out) (m - 1) m (by omega) hml (by omega), fun y kk => (kk.cell (p := ⟨g16, m - 1, none⟩) hb).trans p0⟩)
                  clear q0
                  generalize Q[m] = xw at *
                  have e1 : (m : Int) < (Q.length : Int) := by omega
                  have SPn := Lib.hid (fun n => voiceSpeaker_any ob2 bm' N s1 (wr.drewN n) (V5.out.below KY.out).at_)
                  have q0 := QC.out _ KY.out
                  obtain ⟨bA, hbA⟩ : ∃ b, (tA || (Q.take m).any fun x => decide (x = s1)) = b := ⟨_, rfl⟩
                  rw [hbA] at MM ⊢
                  clear hbA
                  go_upto_region 30 with fail
                  go_cut [17] from 182 to 211 (fun v z => v = .bool (bA || decide (xw = s1)) ∧ Hid (Below z5.heap.size z5 z))
                  case first =>
                    as_aux_lemma =>
                    cases bA
                    · go_quiet ((go_at_call 7; exact Calls.quietS (SPn.out _)))
                      go_wp2_with fail
                      go_meet
                      exact ⟨by first | rfl | (simp; done) | (congr 1; simp), Lib.hid (Below.drewN KY.out _)⟩
                    · go_quiet (fail)
                      go_wp2_with fail
                      go_meet
                      exact ⟨by first | rfl | simp, Lib.hid (Below.drewN KY.out _)⟩
                  case rest =>
                  as_aux_lemma =>
                  obtain ⟨rfl, KY2⟩ := hcut
                  rw [← MM.out]
                  clear KY SPn q0
                  have q0 := QC.out _ KY2.out
                  go_upto_region 31 with fail
                  by_cases hk0 : m = 0
                  · subst hk0
                    go_quiet (fail)
                    go_wp2_with fail
                    go_roundw
                    case measure => simp only [intOf]; omega
                    case rel => exact ⟨1, by omega, rfl, rfl, Lib.hid (Below.drewN KY2.out _)⟩
                  · obtain ⟨pw, hpp, QP2⟩ := QP.out hk0
                    have p0 := QP2 _ KY2.out
                    clear QP2
                    have i1 : (0 : Int) ≤ ((m - 1 : Nat) : Int) := by omega
                    have i2 : ((m - 1 : Nat) : Int) < (Q.length : Int) := by omega
                    have i4 : IntKind.i64.wrap ((m : Int) - 1) = ((m - 1 : Nat) : Int) := by rw [IntKind.wrap_i64]; omega
                    have i5 : (0 : Int) < (m : Int) := by omega
                    have i6 : 0 < m := by omega
                    have i9 : decide ((0 : Int) < (m : Int)) = true := by simp; omega
                    have d3 : decide (xw ≤ pw) = false := by simp; omega
                    clear hpp
                    go_quiet (fail)
                    go_wp2_with fail
                    go_roundw
                    case measure => simp only [intOf]; omega
                    case rel => exact ⟨m + 1, by omega, by simp, rfl, Lib.hid (Below.drewN KY2.out _)⟩
                · have hmQ : m = Q.length := by omega
                  subst hmQ
                  rw [List.take_length] at *
                  have V7 := Lib.hid (V5.out.below KY.out)
                  have K7 := Lib.hid (K5.out.trans (KY.out.mono K5.out.size))
                  have e1 : ¬ (Q.length : Int) < (Q.length : Int) := by omega
                  clear hml
                  by_cases hk0 : k = 0
                  · subst hk0
                    go_wp2_with fail
                    go_roundw
                    case measure => simp only [intOf]; omega
                    case rel => exact ⟨i + 1, s1, bm', c', f1, by omega, by omega, by simp, V7, I3, K7⟩
                  · have hin := IA.out (by have := TL.out; omega)
                    rw [hin]
                    have e2 : (0 : Int) < (k : Int) := by omega
                    clear hin
                    go_wp2_with fail
                    go_roundw
                    case measure => simp only [intOf]; omega
                    case rel => exact ⟨i + 1, s1, bm', c', f1, by omega, by omega, by simp, V7, I3, K7⟩
        · have e1 : (i : Int) < (G.length : Int) := by omega
          have e2 : ¬ (i : Int) < 30 := by omega
          go_wp2_with fail
          go_meet
          exact ⟨sp, bm, c, f, VR, IR, KR⟩
      · have e1 : ¬ (i : Int) < (G.length : Int) := by omega
        go_wp2_with fail
        go_meet
        exact ⟨sp, bm, c, f, VR, IR, KR⟩
  case rest =>
  as_aux_lemma =>
  obtain ⟨sp, bm, c, f, V6, I6, K6⟩ := hcut
  clear V3 K3
  go_upto_region 36 with fail
  have BD := Lib.hid (show Pl.Bd f 16256 ∧ Pl.fall (200 - 0) 16256 = 0 from ⟨Pl.Bd.start V6.out.ok, Pl.fall_all⟩)
  go_loopw [20, 21] (fun s20 _ wr => ∃ (i u : Nat) (sp : Int) (bm c : Nat) (f : Pl.Sco), i ≤ 200 ∧ s20 = .int .i64 i ∧ Hid (Voi wr ob2 N sp bm c f) ∧ Hid (Pl.Inv sp f) ∧ Hid (Pl.Bd f u ∧ Pl.fall (200 - i) u = 0) ∧ Hid (Below w.heap.size w wr)) (fun s20 _ _ => 200 - (intOf s20).toNat)
  case atStart => exact ⟨0, 16256, sp, bm, c, f, by omega, rfl, V6, I6, BD, K6⟩
  case round =>
    as_aux_lemma =>
    clear V6 I6 BD K6
    obtain ⟨i, u, sp, bm, c, f, hi, rfl, VR, IR, BR, KR⟩ := hrel
    by_cases hlt : i < 200
    · have e1 : (i : Int) < 200 := by omega
      have HH := Lib.hid ((voiceHear_ok ob2 bm c w.heap.size N sp f (.slice none 0 0) [] wr VR.out (IsVs.nil _) Pl.LevF.nil (fun c2 h => by
        have := Pl.cnt_less VR.out.map.cnt (c2 := c2) h
        have := VR.out.cnt
        omega) OB2.out).mono (R' := fun e w' => e = .returned .nilIface ∧ (∃ sp' bm' c' f', Hid (Voi w' ob2 N sp' bm' c' f') ∧ Hid (Pl.Inv sp' f') ∧ Hid (Pl.Bd f' (Pl.nscN u 0))) ∧ Below w.heap.size wr w') (fun e w' ⟨h1, ⟨bm', c2, R, h2, h3⟩, h4⟩ => ⟨h1, ⟨_, bm', c2, _, Lib.hid h3, Lib.hid (Pl.inv_next h3.ok h2), Lib.hid (BR.out.1.step VR.out.ok)⟩, h4⟩))
      have FA := Lib.hid (show Pl.fall (200 - (i + 1)) (Pl.nscN u 0) = 0 from by
        have := BR.out.2
        rw [show 200 - i = (200 - (i + 1)) + 1 by omega] at this
        exact this)
      clear VR IR BR
      go_wp2_with (go_at_call 6; (with_reducible refine HH.out.mono ?_); rintro r z3 ⟨rfl, ⟨sp', bm', c', f', h1, h2, h3⟩, k⟩; have V1 := h1; have I1 := h2; have B1 := Lib.hid (show Pl.Bd f' (Pl.nscN u 0) ∧ Pl.fall (200 - (i + 1)) (Pl.nscN u 0) = 0 from ⟨h3.out, FA.out⟩); have K1 := Lib.hid (KR.out.trans k); clear h1 h2 h3 k)
      go_roundw
      case measure => simp only [intOf]; omega
      case rel => exact ⟨i + 1, _, sp', bm', c', f', by omega, by simp, V1, I1, B1, K1⟩
    · have hie : i = 200 := by omega
      subst hie
      have hu : u = 0 := BR.out.2
      have h0 : ∀ j, f j = none := fun j => Pl.Bd.done VR.out.ok (by rw [← hu]; exact BR.out.1) j
      obtain rfl : sp = -1 := by
        rcases IR.out with ⟨h, -⟩ | ⟨-, s, h⟩
        · exact h
        · rw [h0] at h; cases h
      have TP := Lib.hid ((voiceTop_any ob2 bm c N (-1) f wr VR.out hN1 hN2).mono (R' := fun e w' => ∃ (oa : Option Addr) (cc : Nat), e = .returned (.slice oa 0 cc) ∧ Below wr.heap.size wr w') (fun e w' ⟨v', R, h1, h2, h3, h4⟩ => by
        obtain rfl := h2.eq (Pl.SortedOf.empty h0)
        obtain ⟨oa, cc, rfl, -⟩ := vs_read h3
        exact ⟨oa, cc, by simpa using h1, h4⟩))
      clear hu h0 BR IR hlt
      rw [show ((200 : Nat) : Int) = (200 : Int) from rfl]
      go_upto_region 41 with fail
      have hh := VR.out
      go_wp2_with (first
        | (go_at_call 8; (with_reducible refine TP.out.mono ?_); rintro r z4 ⟨oa, cc, rfl, k⟩; have V7 := Lib.hid (VR.out.below k); have K7 := Lib.hid (KR.out.trans (k.mono KR.out.size)); clear k)
        | (go_at_call 7; (with_reducible refine (voiceSpeaker_any ob2 bm N (-1) _ V7.out.at_).mono ?_); rintro r z5 ⟨rfl, rfl⟩))
      go_ret
      exact ⟨rfl, K7.out⟩
end Go.Proofs.Ytefhbjkhmfmkaaa
