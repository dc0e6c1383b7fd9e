import Derived.Test.YtlfdkoebjddokaaDoorRefGapsH
/-! The reference's Gaps: Hear of what is not above. -/
namespace Go.Proofs.YtlfdkoebjddokaaDoor
open Go.RowKit
set_option linter.unusedVariables false
set_option linter.unusedSimpArgs false
set_option maxRecDepth 100000 in
set_option maxHeartbeats 4000000 in
/-- a number that is not above: it is lacking no more -/
theorem rHear_down (M b : Nat) (cur again tries top : Int) (v : Value) (L : List Lk) (gv : Value) (G : List Int) (num now : Int) (ht : Pl.gTime cur now = 0) (hl : Pl.long num = true) (hL : L.length ≤ 1000) (h0 : 0 ≤ top) (h1 : num ≤ top) (w : World) (hM : M ≤ w.heap.size) (h : RGp M w b cur again tries top v L gv G) :
    Calls Tryd.prog 16 #[.pointer (some ⟨b, 0, none⟩), .int .i64 num, .int .i64 now] w fun e w' => ∃ v', e = .returned (.tuple #[.bool (decide ((L.filter (fun x => decide (x.num ≠ num))).length < L.length)), .int .i64 0]) ∧ RGp M w' b now again tries top v' (L.filter (fun x => decide (x.num ≠ num))) gv G ∧ RGFP b v gv w w' ∧ (∀ g, v'.ownBlock = some g → w.heap.size ≤ g) := by
  have T := Lib.hid (rGapsTime_any b cur again tries top v gv now w h.at_)
  rw [ht] at T
  have R := Lib.hid (fun y => rLong_any num y)
  rw [hl] at R
  obtain ⟨o1, c1, rfl, -⟩ := h.row.read lackK_ok
  have H := Lib.hid h
  have c3 : w.cell? ⟨b, 3, none⟩ = some (.int .i64 top) := obj_cell h.at_ rfl
  have d0 : decide (top < num) = false := by simp; omega
  have HGL := Lib.hid (fun g' (e : (Value.slice o1 L.length c1).ownBlock = some g') => (h.row.lt g' e).2)
  have HGG := Lib.hid (fun g' (e : gv.ownBlock = some g') => (h.gave.lt g' e).2)
  have HBL := Lib.hid (lt_of_block h.at_)
  clear h ht hl
  go_enter Tryd.func16, Tryd.ntmps16
  go_upto_region 5 with (first
    | (go_at_call 38; (with_reducible refine T.out.mono ?_); rintro e w' ⟨rfl, rfl⟩)
    | (go_at_call 27; refine (R.out _).mono ?_; rintro e w' ⟨rfl, rfl⟩))
  go_quiet (fail)
  go_upto_region 9 with fail
  refine abs_to (fun z => Hid (RGp M z b cur again tries top (.slice o1 L.length c1) L gv G) ∧ Hid (RGFP b (.slice o1 L.length c1) gv w z)) ⟨Lib.hid (H.out.drewN _), Lib.hid (Keeps.drewN (Keeps.refl _ _) _)⟩ ?_
  clear H c3 d0
  rintro z ⟨H, F⟩
  have c2 : z.cell? ⟨b, 2, none⟩ = some (.int .i64 cur) := obj_cell H.out.at_ rfl
  have f2 := obj_free H.out.at_ 2
  have H2 := Lib.hid (H.out.set (j := 2) (u := .int .i64 now) (now' := now) (again' := again) (tries' := tries) (top' := top) (by unfold RGapsAt; rw [obj_set H.out.at_]; rfl))
  have F2 : Hid (RGFP b (.slice o1 L.length c1) gv w (z.setCell ⟨b, 2, none⟩ (.int .i64 now))) := Lib.hid (Keeps.setCell F.out (.inl (.inl rfl)) _)
  go_upto_region 10 with fail
  refine abs_to (fun z => Hid (RGp M z b now again tries top (.slice o1 L.length c1) L gv G) ∧ Hid (RGFP b (.slice o1 L.length c1) gv w z)) ⟨H2, F2⟩ ?_
  clear H F c2 f2 H2 F2
  rintro z ⟨H, F⟩
  have c3 : z.cell? ⟨b, 3, none⟩ = some (.int .i64 top) := obj_cell H.out.at_ rfl
  go_upto_region 22 with fail
  go_loopw [11, 12] (fun s11 s12 wr => ∃ (k : Nat) (A : List Lk), k ≤ L.length ∧ A.length ≤ k ∧ s12 = .int .i64 k ∧ Hid (A = (L.take k).filter (fun x => decide (x.num ≠ num))) ∧ Hid (lackK.Own wr w.heap.size s11 A) ∧ Hid (RGp M wr b now again tries top (.slice o1 L.length c1) L gv G) ∧ Hid (RGFP b (.slice o1 L.length c1) gv w wr)) (fun _ s12 _ => L.length - (RowKit.intOf s12).toNat)
  case atStart => exact ⟨0, [], by omega, by simp, rfl, Lib.hid (by simp), Lib.hid (RecK.Own.nil _ _), H, F⟩
  case round =>
    clear H F c3
    obtain ⟨k, A, hk, hA, rfl, HA, ro, H, F⟩ := hrel
    have c4 : wr.cell? ⟨b, 4, none⟩ = some (.slice o1 L.length c1) := obj_cell H.out.at_ rfl
    by_cases hlt : k < L.length
    · obtain ⟨o', c', e', hrd⟩ := H.out.row.read lackK_ok
      cases e'
      obtain ⟨g, rfl, _, hgl, q⟩ := hrd k L[k] (by simp [hlt])
      have HTK := Lib.hid (take_next L k hlt)
      obtain ⟨x, hx⟩ : ∃ x, x = L[k] := ⟨_, rfl⟩
      rw [← hx] at HTK q
      clear hx hrd
      obtain ⟨xn, xt, xa⟩ := x
      have q0 : wr.cell? ⟨g, k * 3, none⟩ = some (.int .i64 xn) := q 0 _ rfl
      have q1 : wr.cell? ⟨g, k * 3 + 1, none⟩ = some (.int .i64 xt) := q 1 _ rfl
      have q2 : wr.cell? ⟨g, k * 3 + 2, none⟩ = some (.int .i64 xa) := q 2 _ rfl
      clear q
      by_cases hne : xn = num
      · have HA2 := Lib.hid (show A = (L.take (k + 1)).filter (fun x => decide (x.num ≠ num)) from by
          rw [HTK.out, List.filter_append, ← HA.out]; simp [hne])
        have d1 : (xn != num) = false := by simpa using hne
        have d2 : (xn == num) = true := by simpa using hne
        clear hne
        go_wp2_with fail
        go_roundw
        case measure => simp [RowKit.intOf]; omega
        case rel => exact ⟨k + 1, A, by omega, by omega, rfl, HA2, ro, H, F⟩
      · have HA2 := Lib.hid (show A ++ [⟨xn, xt, xa⟩] = (L.take (k + 1)).filter (fun x => decide (x.num ≠ num)) from by
          rw [HTK.out, List.filter_append, ← HA.out]; simp [hne])
        have d1 : (xn != num) = true := by simpa using hne
        have d2 : (xn == num) = false := by simpa using hne
        clear hne
        have BA : Below wr.heap.size wr (wr.alloc (.cells (Lk.cells ⟨xn, xt, xa⟩).toArray 97)) := (Below.refl _ _).alloc (Nat.le_refl _) _
        have roA := Lib.hid (ro.out.below BA)
        have RA := Lib.hid (H.out.below BA)
        have FA := Lib.hid (Keeps.trans F.out (Below.toKeeps BA (Nat.le_refl _)))
        have RUN := Lib.hid (RecK.run_one lackK_ok _ w.heap.size u11 ⟨xn, xt, xa⟩ A roA.out wr.heap.size (obj_new _ _) (by omega) (by have := F.out.size; simp; omega))
        have hgb : Hid (∀ g, u11.ownBlock = some g → w.heap.size ≤ g) := Lib.hid (fun g e => (ro.out.lt g e).1)
        clear BA ro H F
        go_upto_region 23 with (at_builtin; obtain ⟨vN, wN, hr, ho, hgr, hbk⟩ := RUN.out; obtain ⟨gN, capN, rfl⟩ := Joins.ownsRow_form ho (by simp); refine Lib.wpList_append_run _ rfl (.tmp 124) (.tmp 132) 57 57 rfl _ _ rfl rfl _ _ hr ?_)
        have e9 : (A ++ [(⟨xn, xt, xa⟩ : Lk)]).length = A.length + 1 := by simp
        rw [e9] at ho
        have RO9 : Hid (lackK.Own wN w.heap.size (.slice (some ⟨gN, 0, none⟩) (A.length + 1) capN) (A ++ [(⟨xn, xt, xa⟩ : Lk)])) := Lib.hid ho
        have F9 : Hid (RGFP b (.slice (some ⟨g, 0, none⟩) L.length c1) gv w wN) := Lib.hid ⟨hgr.os.trans FA.out.os, hgr.tape.trans FA.out.tape, hgr.output.trans FA.out.output, Nat.le_trans FA.out.size hgr.size, fun j hj hne => (hgr.block j (Nat.lt_of_lt_of_le hj FA.out.size) (fun e => by have := hgb.out j e.symm; omega)).trans (FA.out.block j hj hne)⟩
        have R9 : Hid (RGp M wN b now again tries top (.slice (some ⟨g, 0, none⟩) L.length c1) L gv G) := Lib.hid ⟨by
            have e := hgr.block b (lt_of_block RA.out.at_) (fun e => by have := hgb.out b e.symm; have := HBL.out; omega)
            have a := RA.out.at_
            unfold RGapsAt at *
            rw [e]; exact a, RA.out.row.keep (fun g' hg' _ hl => hgr.block g' hl (fun e => by have := hgb.out g' e.symm; have := HGL.out g' hg'; omega)), World.ownsRow.kept RA.out.gave hgr (by
              cases hv : gv.ownBlock with
              | none => exact .inl rfl
              | some g' => exact .inr (fun e => by have := HGG.out g' hv; have := hgb.out g' e.symm; omega)), RA.out.low⟩
        clear hr ho hgr hbk RUN roA RA FA hgb q0 q1 q2 c4 e9 d1 d2
        go_wp2_with fail
        go_roundw
        case measure => simp [RowKit.intOf]; omega
        case rel => exact ⟨k + 1, _, by omega, by simp; omega, rfl, HA2, RO9, R9, F9⟩
    · obtain rfl : k = L.length := by omega
      rw [List.take_length] at HA
      obtain ⟨oU, cU, rfl, -⟩ := ro.out.read lackK_ok
      have f4 := obj_free H.out.at_ 4
      have PT : Hid (RGp M (wr.setCell ⟨b, 4, none⟩ (.slice oU A.length cU)) b now again tries top (.slice oU A.length cU) A gv G) := Lib.hid ⟨by have a := H.out.at_; unfold RGapsAt at *; rw [obj_set a]; rfl, World.ownsRow.mono (RecK.Own.keep ro.out (fun g hg _ _ => Below.heap_setCell _ _ _ _ (fun e => lrow_ne ro.out H.out.at_ (hg.trans (by rw [e]))))) hM, intRow_keep H.out.gave (fun g o hg' _ => Below.heap_setCell _ _ _ _ (by
        rintro rfl
        have := H.out.at_; unfold RGapsAt at this; rw [this] at hg'; simp at hg')), H.out.low⟩
      have FT : Hid (RGFP b (.slice o1 L.length c1) gv w (wr.setCell ⟨b, 4, none⟩ (.slice oU A.length cU))) := Lib.hid (Keeps.setCell F.out (.inl (.inl rfl)) _)
      have HOW := Lib.hid (fun g (e : (Value.slice oU A.length cU).ownBlock = some g) => (ro.out.lt g e).1)
      clear ro H F
      go_wp2_with fail
      go_ret2
      rw [← HA.out]
      exact ⟨_, rfl, PT.out, FT.out, HOW.out⟩
end Go.Proofs.YtlfdkoebjddokaaDoor
