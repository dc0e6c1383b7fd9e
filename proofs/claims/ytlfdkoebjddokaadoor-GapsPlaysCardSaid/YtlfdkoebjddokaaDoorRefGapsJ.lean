import Derived.Test.YtlfdkoebjddokaaDoorRefGapsI
/-! The reference's Gaps: Hear of what is above. -/
namespace Go.Proofs.YtlfdkoebjddokaaDoor
open Go.RowKit
set_option linter.unusedVariables false
set_option linter.unusedSimpArgs false
/-- what is lacking between two numbers -/
def lkFill (top : Int) (m : Nat) : List Lk := (List.range m).map (fun j : Nat => (⟨top + 1 + j, 0, 0⟩ : Lk))
theorem lkFill_step (top : Int) (m : Nat) : lkFill top (m + 1) = lkFill top m ++ [⟨top + 1 + m, 0, 0⟩] := by simp [lkFill, List.range_succ]
theorem lkFill_len (top : Int) (m : Nat) : (lkFill top m).length = m := by simp [lkFill]
/-- behind an append to its row: the object is as it was -/
theorem RGp.grown {M : Nat} {w w' : World} {b : Nat} {now again tries top : Int} {v gv : Value} {L : List Lk} {G : List Int} (h : RGp M w b now again tries top v L gv G) (k : w.grownBy w' v.ownBlock) : RGapsAt w' b now again tries top v gv ∧ w'.ownsRow M 3 1 gv G.length (G.map encI) := by
  refine ⟨?_, World.ownsRow.kept h.gave k ?_⟩
  · have e := k.block b (lt_of_block h.at_) (fun e => lrow_ne h.row h.at_ e.symm)
    have a := h.at_
    unfold RGapsAt at *
    rw [e]; exact a
  · cases hv : gv.ownBlock with
    | none => exact .inl rfl
    | some g' => exact .inr (fun e => rows_ne h.row h.gave g' e.symm hv)
/-- another row is stored -/
theorem RGp.put {M : Nat} {w : World} {b : Nat} {now again tries top : Int} {v v' gv : Value} {L' : List Lk} {G : List Int} (a : RGapsAt w b now again tries top v gv) (g : w.ownsRow M 3 1 gv G.length (G.map encI)) (hM : M ≤ b) (hr : lackK.Own w M v' L') : RGp M (w.setCell ⟨b, 4, none⟩ v') b now again tries top v' L' gv G :=
  ⟨by unfold RGapsAt at *; rw [obj_set a]; rfl, hr.keep (fun g hg _ _ => Below.heap_setCell _ _ _ _ (fun e => lrow_ne hr a (hg.trans (by rw [e])))), intRow_keep g (fun g' o hg' _ => Below.heap_setCell _ _ _ _ (by
    rintro rfl
    unfold RGapsAt at a; rw [a] at hg'; simp at hg')), hM⟩
set_option maxRecDepth 100000 in
set_option maxHeartbeats 4000000 in
/-- a number above: those between are lacking -/
theorem rHear_up (M b : Nat) (cur again tries top : Int) (v : Value) (L : List Lk) (gv : Value) (G : List Int) (num now : Int) (ht : Pl.gTime cur now = 0) (hl : Pl.long num = true) (hL : L.length ≤ 1000) (h0 : 0 ≤ top) (h1 : top < num) (h2 : num - top - 1 + L.length ≤ 200) (w : World) (hM : M ≤ w.heap.size) (h : RGp M w b cur again tries top v L gv G) :
    Calls Tryd.prog 16 #[.pointer (some ⟨b, 0, none⟩), .int .i64 num, .int .i64 now] w fun e w' => ∃ v', e = .returned (.tuple #[.bool true, .int .i64 0]) ∧ RGp M w' b now again tries num v' (L ++ lkFill top (num - top - 1).toNat) gv G ∧ RGFP b v gv w w' ∧ (∀ g, v'.ownBlock = some g → v.ownBlock = some g ∨ w.heap.size ≤ g) := by
  have T := Lib.hid (rGapsTime_any b cur again tries top v gv now w h.at_)
  rw [ht] at T
  have R := Lib.hid (fun y => rLong_any num y)
  rw [hl] at R
  obtain ⟨hn1, hn2⟩ := (Pl.long_iff num).1 hl
  obtain ⟨o1, c1, rfl, -⟩ := h.row.read lackK_ok
  have H := Lib.hid h
  have c3 : w.cell? ⟨b, 3, none⟩ = some (.int .i64 top) := obj_cell h.at_ rfl
  have c4 : w.cell? ⟨b, 4, none⟩ = some (.slice o1 L.length c1) := obj_cell h.at_ rfl
  have W1 : IntKind.i64.wrap (num - top) = num - top := by rw [IntKind.wrap_i64]; omega
  have W2 : IntKind.i64.wrap (num - top - 1) = num - top - 1 := by rw [IntKind.wrap_i64]; omega
  have W3 : IntKind.i64.wrap (num - top - 1 + (L.length : Int)) = num - top - 1 + (L.length : Int) := by rw [IntKind.wrap_i64]; omega
  have W4 : IntKind.i64.wrap (top + 1) = top + 1 := by rw [IntKind.wrap_i64]; omega
  have d0 : decide (200 < num - top - 1 + (L.length : Int)) = false := by simp; omega
  clear h ht hl
  go_enter Tryd.func16, Tryd.ntmps16
  go_upto_region 5 with (first
    | (go_at_call 38; (with_reducible refine T.out.mono ?_); rintro e w' ⟨rfl, rfl⟩)
    | (go_at_call 27; refine (R.out _).mono ?_; rintro e w' ⟨rfl, rfl⟩))
  go_quiet (fail)
  go_upto_region 9 with fail
  refine abs_to (fun z => Hid (RGp M z b cur again tries top (.slice o1 L.length c1) L gv G) ∧ Hid (RGFP b (.slice o1 L.length c1) gv w z)) ⟨Lib.hid (H.out.drewN _), Lib.hid (Keeps.drewN (Keeps.refl _ _) _)⟩ ?_
  clear H c3 d0 c4 W1 W2 W3
  rintro z ⟨H, F⟩
  have c2 : z.cell? ⟨b, 2, none⟩ = some (.int .i64 cur) := obj_cell H.out.at_ rfl
  have f2 := obj_free H.out.at_ 2
  have H2 := Lib.hid (H.out.set (j := 2) (u := .int .i64 now) (now' := now) (again' := again) (tries' := tries) (top' := top) (by unfold RGapsAt; rw [obj_set H.out.at_]; rfl))
  have F2 : Hid (RGFP b (.slice o1 L.length c1) gv w (z.setCell ⟨b, 2, none⟩ (.int .i64 now))) := Lib.hid (Keeps.setCell F.out (.inl (.inl rfl)) _)
  go_upto_region 10 with fail
  refine abs_to (fun z => Hid (RGp M z b now again tries top (.slice o1 L.length c1) L gv G) ∧ Hid (RGFP b (.slice o1 L.length c1) gv w z)) ⟨H2, F2⟩ ?_
  clear H F c2 f2 H2 F2
  rintro z ⟨H, F⟩
  have c3 : z.cell? ⟨b, 3, none⟩ = some (.int .i64 top) := obj_cell H.out.at_ rfl
  have H' : Hid (RGp M z b now again tries top (.slice o1 L.length c1) (L ++ lkFill top 0) gv G) := Lib.hid (by simpa [lkFill] using H.out)
  go_upto_region 15 with fail
  go_loopw [10] (fun s10 wr => ∃ (m : Nat) (vm : Value), top + 1 + m ≤ num ∧ s10 = .int .i64 (top + 1 + m) ∧ Hid (RGp M wr b now again tries top vm (L ++ lkFill top m) gv G) ∧ Hid (RGFP b (.slice o1 L.length c1) gv w wr) ∧ Hid (∀ g, vm.ownBlock = some g → (Value.slice o1 L.length c1).ownBlock = some g ∨ w.heap.size ≤ g)) (fun s10 _ => (num - (RowKit.intOf s10)).toNat)
  case atStart => exact ⟨0, _, by omega, by simp, H', F, Lib.hid (fun g e => .inl e)⟩
  case round =>
    clear H H' F c3
    obtain ⟨m, vm, hm, rfl, H, F, HV⟩ := hrel
    by_cases hlt : top + 1 + m < num
    · have HS := Lib.hid (show L ++ lkFill top m ++ [(⟨top + 1 + m, 0, 0⟩ : Lk)] = L ++ lkFill top (m + 1) from by rw [lkFill_step, List.append_assoc])
      have hl2 : (L ++ lkFill top m).length ≤ 1300 := by rw [List.length_append, lkFill_len]; omega
      obtain ⟨L2, hL2⟩ : ∃ L2, L ++ lkFill top m = L2 := ⟨_, rfl⟩
      rw [hL2] at H HS hl2
      clear hL2
      obtain ⟨kk, hkk⟩ : ∃ kk, top + 1 + (m : Int) = kk := ⟨_, rfl⟩
      have W5 : IntKind.i64.wrap (kk + 1) = kk + 1 := by rw [IntKind.wrap_i64]; omega
      have HKK := Lib.hid (show kk + 1 = top + 1 + ((m + 1 : Nat) : Int) from by omega)
      rw [hkk] at HS hlt ⊢
      have hmn : top + 1 + ((m + 1 : Nat) : Int) ≤ num := by omega
      have HMS := Lib.hid (show (num - (kk + 1)).toNat < (num - kk).toNat from by omega)
      clear hkk
      have BA : Below wr.heap.size wr (wr.alloc (.cells (Lk.cells ⟨kk, 0, 0⟩).toArray 97)) := (Below.refl _ _).alloc (Nat.le_refl _) _
      have RA := Lib.hid (H.out.below BA)
      have FA := Lib.hid (Keeps.trans F.out (Below.toKeeps BA (Nat.le_refl _)))
      have hws : w.heap.size ≤ wr.heap.size := F.out.size
      have RUN := RecK.run_one lackK_ok _ M vm ⟨kk, 0, 0⟩ L2 RA.out.row wr.heap.size (obj_new _ _) (by omega) (by simp; omega)
      obtain ⟨vN, wN, hr, ho, hgr, hbk⟩ := RUN
      obtain ⟨gN, capN, rfl⟩ := Joins.ownsRow_form ho (by simp)
      have hgr' := RA.out.grown hgr
      obtain ⟨L3, hL3⟩ : ∃ L3, L2 ++ [(⟨kk, 0, 0⟩ : Lk)] = L3 := ⟨_, rfl⟩
      rw [hL3] at ho hr hbk HS
      clear hL3
      have PT := Lib.hid (RGp.put hgr'.1 hgr'.2 RA.out.low ho)
      have F9 : Hid (RGFP b (.slice o1 L.length c1) gv w (wN.setCell ⟨b, 4, none⟩ (.slice (some ⟨gN, 0, none⟩) L3.length capN))) := Lib.hid (Keeps.setCell (S := fun k => k = b ∨ (Value.slice o1 L.length c1).ownBlock = some k ∨ gv.ownBlock = some k) ⟨hgr.os.trans FA.out.os, hgr.tape.trans FA.out.tape, hgr.output.trans FA.out.output, Nat.le_trans FA.out.size hgr.size, fun j hj hne => (hgr.block j (Nat.lt_of_lt_of_le hj FA.out.size) (fun e => by
        rcases HV.out j e.symm with e' | e'
        · exact hne (.inr (.inl e'))
        · omega)).trans (FA.out.block j hj hne)⟩ (.inl (.inl rfl)) _)
      have HV9 := Lib.hid (show ∀ g, (Value.slice (some ⟨gN, 0, none⟩) L3.length capN).ownBlock = some g → (Value.slice o1 L.length c1).ownBlock = some g ∨ w.heap.size ≤ g from fun g e => by
        rcases hbk with h | h
        · exact HV.out g (h.symm.trans e)
        · rw [h] at e; simp at e; exact .inr (by omega))
      have HRN := Lib.hid hr
      have c4 : wr.cell? ⟨b, 4, none⟩ = some vm := obj_cell H.out.at_ rfl
      have cN : wN.cell? ⟨b, 4, none⟩ = some vm := obj_cell hgr'.1 rfl
      have fN := obj_free hgr'.1 4
      clear hr ho hgr hbk hgr' BA RA FA H F HV
      go_upto_region 16 with (at_builtin; refine Lib.wpList_append_run _ rfl (.tmp 94) (.tmp 97) 57 57 rfl _ _ rfl rfl _ _ HRN.out ?_)
      clear c4 cN fN HRN
      go_wp2_with fail
      go_roundw
      case measure => simp [RowKit.intOf]; have := HMS.out; omega
      case rel => exact ⟨m + 1, _, hmn, by rw [HKK.out], by rw [← HS.out]; exact PT, F9, HV9⟩
    · have hme : (num - top - 1).toNat = m := by omega
      have HME := Lib.hid hme
      have f3 := obj_free H.out.at_ 3
      have c3 : wr.cell? ⟨b, 3, none⟩ = some (.int .i64 top) := obj_cell H.out.at_ rfl
      have PT := Lib.hid (H.out.set (j := 3) (u := .int .i64 num) (now' := now) (again' := again) (tries' := tries) (top' := num) (by unfold RGapsAt; rw [obj_set H.out.at_]; rfl))
      have FT : Hid (RGFP b (.slice o1 L.length c1) gv w (wr.setCell ⟨b, 3, none⟩ (.int .i64 num))) := Lib.hid (Keeps.setCell F.out (.inl (.inl rfl)) _)
      clear H F hme
      go_wp2_with fail
      go_ret2
      first
        | exact ⟨_, rfl, by rw [HME.out]; exact PT.out, FT.out, HV.out⟩
        | exact ⟨rfl, _, by rw [show (num - top).toNat - 1 = m from by have := HME.out; omega]; exact PT.out, FT.out, HV.out⟩
end Go.Proofs.YtlfdkoebjddokaaDoor
