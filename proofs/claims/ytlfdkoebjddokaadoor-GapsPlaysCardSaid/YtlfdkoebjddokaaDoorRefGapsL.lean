import Derived.Test.YtlfdkoebjddokaaDoorRefGapsK
import Derived.Test.YtlfdkoebjddokaaDoorStepApp
/-! The reference's Gaps: Due, the walk. -/
namespace Go.Proofs.YtlfdkoebjddokaaDoor
open Go.RowKit
set_option linter.unusedVariables false
set_option linter.unusedSimpArgs false
set_option maxRecDepth 100000 in
set_option maxHeartbeats 4000000 in
theorem rDue_ok (M b : Nat) (cur again tries top now : Int) (v : Value) (L : List Lk) (gv : Value) (G : List Int) (ht : Pl.gTime cur now = 0) (hn : 0 ≤ now ∧ now ≤ 1000000) (hL : L.length ≤ 1000) (hG : G.length ≤ 100000)
    (hval : ∀ x ∈ L, 0 ≤ x.tm ∧ x.tm ≤ 1000 ∧ 0 ≤ x.at_ ∧ x.at_ ≤ 1000000) (w : World) (hM : M ≤ w.heap.size) (h : RGp M w b cur again tries top v L gv G) :
    Calls Tryd.prog 18 #[.pointer (some ⟨b, 0, none⟩), .int .i64 now] w fun e w' => ∃ (vO v' gv' : Value), e = .returned (.tuple #[vO, .int .i64 0]) ∧ RGp M w' b now again tries top v' (dK again tries now L) gv' (G ++ dG again tries now L) ∧
      w'.ownsRow w.heap.size 3 1 vO (dA again tries now L).length ((dA again tries now L).map encI) ∧ ApartV vO gv' ∧ (∀ k, gv'.ownBlock = some k → gv.ownBlock = some k ∨ w.heap.size ≤ k) ∧ RGFP b v gv w w' := by
  have T := Lib.hid (rGapsTime_any b cur again tries top v gv now w h.at_)
  rw [ht] at T
  obtain ⟨hn0, hn1⟩ := hn
  have HVAL := Lib.hid hval
  obtain ⟨o1, c1, rfl, -⟩ := h.row.read lackK_ok
  have H := Lib.hid h
  have HGL := Lib.hid (fun g' (e : (Value.slice o1 L.length c1).ownBlock = some g') => (h.row.lt g' e).2)
  have HBL := Lib.hid (lt_of_block h.at_)
  have c2 : w.cell? ⟨b, 2, none⟩ = some (.int .i64 cur) := obj_cell h.at_ rfl
  have f2 := obj_free h.at_ 2
  clear h ht hval
  go_enter Tryd.func18, Tryd.ntmps18
  go_upto_region 5 with (go_at_call 38; (with_reducible refine T.out.mono ?_); rintro e w' ⟨rfl, rfl⟩)
  refine abs_to (fun z => Hid (RGp M z b now again tries top (.slice o1 L.length c1) L gv G) ∧ Hid (RGFP b (.slice o1 L.length c1) gv w z)) ⟨Lib.hid (H.out.set (j := 2) (u := .int .i64 now) (now' := now) (again' := again) (tries' := tries) (top' := top) (by unfold RGapsAt; rw [obj_set H.out.at_]; rfl)), Lib.hid (Keeps.setCell (Keeps.refl _ _) (.inl (.inl rfl)) _)⟩ ?_
  clear H c2 f2 T
  rintro z ⟨H, F⟩
  have D0 : Hid (RDue M w z b now again tries top (.slice o1 L.length c1) gv L gv (G ++ dG again tries now (L.take 0)) (.slice none 0 0) (dK again tries now (L.take 0)) (.slice none 0 0) (dA again tries now (L.take 0))) := Lib.hid ⟨by simpa [dG] using H.out, RecK.Own.nil _ _, World.ownsRow_nil _ _ _ _, ApartV.nil _, HGL.out, fun k hk => .inl hk, HBL.out, F.out⟩
  clear H F
  go_upto_region 19 with fail
  go_loopw [7, 8, 9] (fun s7 s8 s9 wr => ∃ (k : Nat) (gv' : Value), k ≤ L.length ∧ s9 = .int .i64 k ∧ Hid (RDue M w wr b now again tries top (.slice o1 L.length c1) gv L gv' (G ++ dG again tries now (L.take k)) s8 (dK again tries now (L.take k)) s7 (dA again tries now (L.take k)))) (fun _ _ s9 _ => L.length - (RowKit.intOf s9).toNat)
  case atStart => exact ⟨0, gv, by omega, rfl, D0⟩
  case round =>
    clear D0
    obtain ⟨k, gv', hk, rfl, D⟩ := hrel
    have c4 : wr.cell? ⟨b, 4, none⟩ = some (.slice o1 L.length c1) := obj_cell D.out.gp.at_ rfl
    by_cases hlt : k < L.length
    · obtain ⟨o', c', e', hrd⟩ := D.out.gp.row.read lackK_ok
      cases e'
      obtain ⟨g, rfl, _, hgl, q⟩ := hrd k L[k] (by simp [hlt])
      have HTK := Lib.hid (take_next L k hlt)
      have hv := HVAL.out L[k] (List.getElem_mem hlt)
      have hKl : (dK again tries now (L.take k)).length ≤ 1000 := by have := dK_len again tries now (L.take k); have := List.length_take_le k L; omega
      have hGl : (G ++ dG again tries now (L.take k)).length ≤ 200000 := by have := dG_len again tries now (L.take k); have := List.length_take_le k L; rw [List.length_append]; omega
      have hAl : (dA again tries now (L.take k)).length ≤ 1000 := by have := dA_len again tries now (L.take k); have := List.length_take_le k L; omega
      obtain ⟨x, hx⟩ : ∃ x, x = L[k] := ⟨_, rfl⟩
      rw [← hx] at HTK q hv
      clear hx hrd
      have q0 : wr.cell? ⟨g, k * 3, none⟩ = some (.int .i64 x.num) := q 0 _ rfl
      have q1 : wr.cell? ⟨g, k * 3 + 1, none⟩ = some (.int .i64 x.tm) := q 1 _ rfl
      have q2 : wr.cell? ⟨g, k * 3 + 2, none⟩ = some (.int .i64 x.at_) := q 2 _ rfl
      clear q
      obtain ⟨hv0, hv1, hv2, hv3⟩ := hv
      go_upto_region 11 with fail
      have bA : Below wr.heap.size wr (wr.alloc (.cells #[.int .i64 x.num, .int .i64 x.tm, .int .i64 x.at_] 97)) := (Below.refl _ _).alloc (Nat.le_refl _) _
      have DB := Lib.hid (fun z (k : Below wr.heap.size wr z) => D.out.below k)
      have hNw : w.heap.size ≤ wr.heap.size := D.out.kb.size
      have HU8 := Lib.hid (fun j (e : u8.ownBlock = some j) => show j ≠ wr.heap.size from fun q => by have := (D.out.rA.lt j e).2; omega)
      refine abs_to (fun z => Hid (LackAt z wr.heap.size x) ∧ Hid (Below wr.heap.size wr z)) ⟨Lib.hid (obj_new _ _), Lib.hid bA⟩ ?_
      clear bA q0 q1 q2 c4 D hgl
      generalize wr.heap.size = N at *
      rintro z ⟨HA, BZ⟩
      have t1 : z.cell? ⟨N, 1, none⟩ = some (.int .i64 x.tm) := obj_cell HA.out (k := 1) rfl
      have t2 : z.cell? ⟨N, 2, none⟩ = some (.int .i64 x.at_) := obj_cell HA.out (k := 2) rfl
      have c0 : z.cell? ⟨b, 0, none⟩ = some (.int .i64 again) := obj_cell (DB.out z BZ.out).gp.at_ rfl
      obtain ⟨W, hW⟩ : ∃ W, lkWait again now x = W := ⟨_, rfl⟩
      have HW := Lib.hid hW
      clear hW
      go_cut [50] (fun v y => v = .bool W ∧ Hid (LackAt y N x) ∧ Hid (Below N wr y))
      case first =>
        by_cases h1 : 0 < x.tm
        · have d1 : decide (0 < x.tm) = true := by simpa using h1
          by_cases h2 : now - x.at_ < again
          · have d2 : decide (now - x.at_ < again) = true := by simpa using h2
            have e : W = true := by rw [← HW.out]; simp [lkWait, h1, h2]
            subst e
            have W1 : IntKind.i64.wrap (now - x.at_) = now - x.at_ := by rw [IntKind.wrap_i64]; omega
            go_quiet (fail)
            go_wp2_with fail
            go_meet
            exact ⟨rfl, Lib.hid (by exact HA.out), Lib.hid (Below.drewN BZ.out _)⟩
          · have d2 : decide (now - x.at_ < again) = false := by simpa using h2
            have e : W = false := by rw [← HW.out]; simp [lkWait, h2]
            subst e
            have W1 : IntKind.i64.wrap (now - x.at_) = now - x.at_ := by rw [IntKind.wrap_i64]; omega
            go_quiet (fail)
            go_wp2_with fail
            go_meet
            exact ⟨rfl, Lib.hid (by exact HA.out), Lib.hid (Below.drewN BZ.out _)⟩
        · have d1 : decide (0 < x.tm) = false := by simpa using h1
          have e : W = false := by rw [← HW.out]; simp [lkWait, h1]
          subst e
          go_quiet (fail)
          go_wp2_with fail
          go_meet
          exact ⟨rfl, Lib.hid (by exact HA.out), Lib.hid (Below.drewN BZ.out _)⟩
      case rest =>
      clear t1 t2 c0 HA BZ z
      obtain ⟨rfl, HA, BZ⟩ := hcut
      cases W
      case true =>
        obtain ⟨E1, E2, E3⟩ := d_wait (tries := tries) (l := L.take k) HW.out
        rw [← HTK.out] at E1 E2 E3
        have E1 := Lib.hid E1
        have E2 := Lib.hid E2
        have E3 := Lib.hid E3
        have t0 : wc.cell? ⟨N, 0, none⟩ = some (.int .i64 x.num) := obj_cell HA.out (k := 0) rfl
        have t1 : wc.cell? ⟨N, 1, none⟩ = some (.int .i64 x.tm) := obj_cell HA.out (k := 1) rfl
        have t2 : wc.cell? ⟨N, 2, none⟩ = some (.int .i64 x.at_) := obj_cell HA.out (k := 2) rfl
        generalize dK again tries now (L.take k) = A at *
        have hNc : N ≤ wc.heap.size := Nat.le_of_lt (lt_of_block HA.out)
        have BA : Below N wr (wc.alloc (.cells (Lk.cells x).toArray 97)) := BZ.out.alloc hNc _
        have DA := Lib.hid (DB.out _ BA)
        have RUN := Lib.hid (RecK.run_one lackK_ok _ w.heap.size u8 x A DA.out.rA wc.heap.size (obj_new _ _) (by omega) (by simp; omega))
        clear BA
        go_upto_region 9 with (at_builtin; obtain ⟨vN, wN, hr, ho, hgr, hbk⟩ := RUN.out; obtain ⟨gN, capN, rfl⟩ := Joins.ownsRow_form ho (by simp); refine Lib.wpList_append_run _ rfl (.tmp 51) (.tmp 53) 57 57 rfl _ _ rfl rfl _ _ hr ?_)
        have DN := Lib.hid (DA.out.keep hgr ho)
        rw [List.length_append, List.length_singleton] at DN
        clear hr ho hgr hbk RUN DA t0 t1 t2 HA BZ
        go_wp2_with fail
        go_roundw
        case measure => simp [RowKit.intOf]; omega
        case rel => exact ⟨k + 1, gv', by omega, rfl, by rw [E1.out, E2.out, E3.out]; exact DN⟩
      case false =>
      have t1 : wc.cell? ⟨N, 1, none⟩ = some (.int .i64 x.tm) := obj_cell HA.out (k := 1) rfl
      have c1' : wc.cell? ⟨b, 1, none⟩ = some (.int .i64 tries) := obj_cell (DB.out _ BZ.out).gp.at_ rfl
      by_cases hq : x.tm = tries
      · have d3 : (x.tm == tries) = true := by simpa using hq
        have d4 : decide (x.tm = tries) = true := by simpa using hq
        obtain ⟨E1, E2, E3⟩ := d_give (l := L.take k) HW.out hq
        rw [← HTK.out] at E1 E2 E3
        have E1 := Lib.hid E1
        have E2 := Lib.hid (show G ++ dG again tries now (L.take (k + 1)) = (G ++ dG again tries now (L.take k)) ++ [x.num] from by rw [E2, List.append_assoc])
        have E3 := Lib.hid E3
        clear hq
        generalize hGg : G ++ dG again tries now (L.take k) = Gk at *
        clear hGg
        go_upto_region 13 with fail
        go_quiet (fail)
        go_upto_region 14 with fail
        refine abs_to (fun z => Hid (LackAt z N x) ∧ Hid (Below N wr z)) ⟨Lib.hid (by exact HA.out), Lib.hid (Below.drewN BZ.out _)⟩ ?_
        clear t1 c1' HA BZ d3 d4 wc
        rintro z ⟨HA, BZ⟩
        have t0 : z.cell? ⟨N, 0, none⟩ = some (.int .i64 x.num) := obj_cell HA.out (k := 0) rfl
        have c5 : z.cell? ⟨b, 5, none⟩ = some gv' := obj_cell (DB.out z BZ.out).gp.at_ rfl
        have hNc : N ≤ z.heap.size := Nat.le_of_lt (lt_of_block HA.out)
        have DA := Lib.hid (DB.out _ (BZ.out.alloc hNc (.cells #[.int .i64 x.num] 3)))
        have t0a : (z.alloc (.cells #[.int .i64 x.num] 3)).cell? ⟨N, 0, none⟩ = some (.int .i64 x.num) := obj_cell (show LackAt (z.alloc (.cells #[.int .i64 x.num] 3)) N x from by
          have a := HA.out
          have hl := lt_of_block a
          unfold LackAt at *
          rw [Below.heap_alloc _ _ _ hl]; exact a) (k := 0) rfl
        have c5a : (z.alloc (.cells #[.int .i64 x.num] 3)).cell? ⟨b, 5, none⟩ = some gv' := obj_cell DA.out.gp.at_ rfl
        have DAD : Hid (RDue M w (z.alloc (.cells #[.int .i64 x.num] 3)).drew b now again tries top _ gv L gv' Gk _ _ _ _) := Lib.hid (DA.out.drewN 1)
        have RUN := run_moreInt2 (z.alloc (.cells #[.int .i64 x.num] 3)).drew M gv' x.num Gk.length (Gk.map encI) DAD.out.gp.gave z.heap.size (obj_new _ _) (by omega) (by have := DA.out.kb.size; simp at this ⊢; omega)
        obtain ⟨vN, wN, hr, ho, hgr, hbk⟩ := RUN
        obtain ⟨gN, capN, rfl⟩ := Joins.ownsRow_form ho (by omega)
        obtain ⟨hz, DN⟩ := DAD.out.give hgr ho hbk
        have DN := Lib.hid DN
        have cN : wN.cell? ⟨b, 5, none⟩ = some gv' := obj_cell hz rfl
        have fN := obj_free hz 5
        have HRN := Lib.hid hr
        clear hr ho hgr hbk hz DA DAD
        go_cut [70] (fun _ y => ∃ g2, Hid (RDue M w y b now again tries top (.slice (some ⟨g, 0, none⟩) L.length c1) gv L g2 (Gk ++ [x.num]) u8 (dK again tries now (L.take k)) u7 (dA again tries now (L.take k))))
        case first =>
          go_region_law (first | (refine step_append_at rfl (.tmp 66) (.tmp 69) 35 35 rfl _ _ rfl rfl _ _ HRN.out ?_))
          all_goals
            go_wp2_with fail
            go_meet
            exact ⟨_, DN⟩
        case rest =>
        clear t0 c5 t0a c5a cN fN HRN HA BZ DN
        obtain ⟨g2, DN⟩ := hcut
        go_wp2_with fail
        go_roundw
        case measure => simp [RowKit.intOf]; omega
        case rel => exact ⟨k + 1, _, by omega, rfl, by rw [E1.out, E2.out, E3.out]; exact DN⟩
      · have d3 : (x.tm == tries) = false := by simpa using hq
        have d4 : decide (x.tm = tries) = false := by simpa using hq
        obtain ⟨E1, E2, E3⟩ := d_ask (l := L.take k) HW.out hq
        rw [← HTK.out] at E1 E2 E3
        have E1 := Lib.hid E1
        have E2 := Lib.hid E2
        have E3 := Lib.hid E3
        have W6 : IntKind.i64.wrap (x.tm + 1) = x.tm + 1 := by rw [IntKind.wrap_i64]; omega
        clear hq
        generalize dK again tries now (L.take k) = A at *
        generalize dA again tries now (L.take k) = O at *
        go_upto_region 13 with fail
        go_quiet (fail)
        go_upto_region 15 with fail
        refine abs_to (fun z => Hid (LackAt z N x) ∧ Hid (Below N wr z)) ⟨Lib.hid (by exact HA.out), Lib.hid (Below.drewN BZ.out _)⟩ ?_
        clear t1 c1' HA BZ d3 d4 wc
        rintro z ⟨HA, BZ⟩
        have t1 : z.cell? ⟨N, 1, none⟩ = some (.int .i64 x.tm) := obj_cell HA.out (k := 1) rfl
        have t1f := obj_free HA.out 1
        go_upto_region 16 with fail
        refine abs_to (fun z => Hid (LackAt z N ⟨x.num, x.tm + 1, x.at_⟩) ∧ Hid (Below N wr z)) ⟨Lib.hid (by have a := HA.out; unfold LackAt at *; rw [obj_set a]; rfl), Lib.hid (Below.setCell BZ.out (Nat.le_refl _) _)⟩ ?_
        clear t1 t1f HA BZ z
        rintro z ⟨HA, BZ⟩
        have t2f := obj_free HA.out 2
        have t2 : z.cell? ⟨N, 2, none⟩ = some (.int .i64 x.at_) := obj_cell HA.out (k := 2) rfl
        go_upto_region 17 with fail
        refine abs_to (fun z => Hid (LackAt z N ⟨x.num, x.tm + 1, now⟩) ∧ Hid (Below N wr z)) ⟨Lib.hid (by have a := HA.out; unfold LackAt at *; rw [obj_set a]; rfl), Lib.hid (Below.setCell BZ.out (Nat.le_refl _) _)⟩ ?_
        clear t2 t2f HA BZ z
        rintro z ⟨HA, BZ⟩
        have t0 : z.cell? ⟨N, 0, none⟩ = some (.int .i64 x.num) := obj_cell HA.out (k := 0) rfl
        have t1 : z.cell? ⟨N, 1, none⟩ = some (.int .i64 (x.tm + 1)) := obj_cell HA.out (k := 1) rfl
        have t2 : z.cell? ⟨N, 2, none⟩ = some (.int .i64 now) := obj_cell HA.out (k := 2) rfl
        have hNc : N ≤ z.heap.size := Nat.le_of_lt (lt_of_block HA.out)
        have BA : Below N wr (z.alloc (.cells (Lk.cells ⟨x.num, x.tm + 1, now⟩).toArray 97)) := BZ.out.alloc hNc _
        have DA := Lib.hid (DB.out _ BA)
        have LA := Lib.hid (show LackAt (z.alloc (.cells (Lk.cells ⟨x.num, x.tm + 1, now⟩).toArray 97)) N ⟨x.num, x.tm + 1, now⟩ from by
          have a := HA.out
          have hl := lt_of_block a
          unfold LackAt at *
          rw [Below.heap_alloc _ _ _ hl]; exact a)
        have RUN := RecK.run_one lackK_ok _ w.heap.size u8 ⟨x.num, x.tm + 1, now⟩ A DA.out.rA z.heap.size (obj_new _ _) (by omega) (by simp; omega)
        obtain ⟨vN, wN, hr, ho, hgr, hbk⟩ := RUN
        obtain ⟨gN, capN, rfl⟩ := Joins.ownsRow_form ho (by simp)
        have DN := Lib.hid (DA.out.keep hgr ho)
        have LN := Lib.hid (show LackAt wN N ⟨x.num, x.tm + 1, now⟩ from by
          have a := LA.out
          unfold LackAt at *
          rw [hgr.block N (lt_of_block a) (fun e => HU8.out N e.symm rfl)]; exact a)
        rw [List.length_append, List.length_singleton] at DN
        have HRN := Lib.hid hr
        clear hr ho hgr hbk BA DA LA
        go_upto_region 18 with (at_builtin; refine Lib.wpList_append_run _ rfl (.tmp 79) (.tmp 81) 57 57 rfl _ _ rfl rfl _ _ HRN.out ?_)
        refine abs_to (fun z => Hid (LackAt z N ⟨x.num, x.tm + 1, now⟩) ∧ Hid (RDue M w z b now again tries top _ gv L gv' _ _ _ _ O)) ⟨LN, DN⟩ ?_
        clear t0 t1 t2 HRN LN DN HA BZ hNc
        rintro z ⟨HA, D⟩
        have t0 : z.cell? ⟨N, 0, none⟩ = some (.int .i64 x.num) := obj_cell HA.out (k := 0) rfl
        have DA := Lib.hid (D.out.below ((Below.refl _ _).alloc (Nat.le_refl _) (.cells #[.int .i64 x.num] 3)))
        have RUN := Lib.hid (run_moreInt2 (z.alloc (.cells #[.int .i64 x.num] 3)) w.heap.size u7 x.num O.length (O.map encI) DA.out.rO z.heap.size (obj_new _ _) (by omega) (by have := D.out.kb.size; simp; omega))
        clear D
        go_upto_region 9 with (at_builtin; obtain ⟨vN, wN, hr, ho, hgr, hbk⟩ := RUN.out; obtain ⟨gN, capN, rfl⟩ := Joins.ownsRow_form ho (by simp); refine Lib.wpList_append_run _ rfl (.tmp 83) (.tmp 86) 35 35 rfl _ _ rfl rfl _ _ hr ?_)
        have DN := Lib.hid (DA.out.ask hgr ho hbk)
        clear hr ho hgr hbk RUN DA t0 HA
        go_wp2_with fail
        go_roundw
        case measure => simp [RowKit.intOf]; omega
        case rel => exact ⟨k + 1, gv', by omega, rfl, by rw [E1.out, E2.out, E3.out]; exact DN⟩
    · obtain rfl : k = L.length := by omega
      rw [List.take_length] at D
      obtain ⟨oK, cK, rfl, -⟩ := D.out.rA.read lackK_ok
      have f4 := obj_free D.out.gp.at_ 4
      have PT : Hid (RGp M (wr.setCell ⟨b, 4, none⟩ (.slice oK (dK again tries now L).length cK)) b now again tries top (.slice oK (dK again tries now L).length cK) (dK again tries now L) gv' (G ++ dG again tries now L)) := Lib.hid (RGp.put D.out.gp.at_ D.out.gp.gave D.out.gp.low (World.ownsRow.mono D.out.rA hM))
      have OT := Lib.hid (intRow_keep D.out.rO (w' := wr.setCell ⟨b, 4, none⟩ (.slice oK (dK again tries now L).length cK)) (fun g o hg' _ => Below.heap_setCell _ _ _ _ (by
        rintro rfl
        have := D.out.gp.at_; unfold RGapsAt at this; rw [this] at hg'; simp at hg')))
      have FT : Hid (RGFP b (.slice o1 L.length c1) gv w (wr.setCell ⟨b, 4, none⟩ (.slice oK (dK again tries now L).length cK))) := Lib.hid (Keeps.setCell D.out.kb (.inl (.inl rfl)) _)
      have AP := Lib.hid D.out.ap
      have G1 := Lib.hid D.out.g1
      clear D
      go_wp2_with fail
      go_ret2
      exact ⟨_, _, _, rfl, PT.out, OT.out, AP.out, G1.out, FT.out⟩
end Go.Proofs.YtlfdkoebjddokaaDoor
