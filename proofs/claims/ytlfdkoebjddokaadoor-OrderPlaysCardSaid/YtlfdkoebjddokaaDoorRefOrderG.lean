import Derived.Test.YtlfdkoebjddokaaDoorRefOrderP
/-! The reference's Order: Gone. -/
namespace Go.Proofs.YtlfdkoebjddokaaDoor
open Go.RowKit
set_option linter.unusedVariables false
set_option linter.unusedSimpArgs false
set_option maxRecDepth 100000 in
set_option maxHeartbeats 4000000 in
theorem rGone_bad (b : Nat) (wait cur next : Int) (v : Value) (num now : Int) (f : Int) (hf : f ≠ 0)
    (hE : Pl.oTime cur now = f ∨ (Pl.oTime cur now = 0 ∧ Pl.long num = false ∧ f = 1) ∨ (Pl.oTime cur now = 0 ∧ Pl.long num = true ∧ next < 0 ∧ f = 6)) (w : World) (h : ROrdAt w b wait cur next v) :
    Calls Tryd.prog 10 #[.pointer (some ⟨b, 0, none⟩), .int .i64 num, .int .i64 now] w fun e w' => e = .returned (.int .i64 f) ∧ w = w' := by
  have R := Lib.hid (fun y => rLong_any num y)
  have T := Lib.hid (rOrdTime_any b wait cur next v now _ h)
  have c2 : w.cell? ⟨b, 2, none⟩ = some (.int .i64 next) := obj_cell h rfl
  have d0 : (f == 0) = false := by simpa using hf
  have d0' : (f != 0) = true := by simpa using hf
  clear h
  rcases hE with hE | ⟨hE, hl, rfl⟩ | ⟨hE, hl, hn, rfl⟩
  · rw [hE] at T
    clear hE hf
    cases hl : Pl.long num
    all_goals
      rw [hl] at R
      go_enter Tryd.func10, Tryd.ntmps10
      go_wp2_with (first
        | (go_at_call 26; (with_reducible refine T.out.mono ?_); rintro e w' ⟨rfl, rfl⟩)
        | (go_at_call 27; refine (R.out _).mono ?_; rintro e w' ⟨rfl, rfl⟩))
      go_ret
      exact ⟨rfl, rfl⟩
  · rw [hE] at T
    rw [hl] at R
    clear hE hf d0 d0' hl
    go_enter Tryd.func10, Tryd.ntmps10
    go_wp2_with (first
      | (go_at_call 26; (with_reducible refine T.out.mono ?_); rintro e w' ⟨rfl, rfl⟩)
      | (go_at_call 27; refine (R.out _).mono ?_; rintro e w' ⟨rfl, rfl⟩))
    go_ret
    exact ⟨rfl, rfl⟩
  · rw [hE] at T
    rw [hl] at R
    clear hE hf d0 d0' hl
    go_enter Tryd.func10, Tryd.ntmps10
    go_wp2_with (first
      | (go_at_call 26; (with_reducible refine T.out.mono ?_); rintro e w' ⟨rfl, rfl⟩)
      | (go_at_call 27; refine (R.out _).mono ?_; rintro e w' ⟨rfl, rfl⟩))
    go_ret
    exact ⟨rfl, rfl⟩
/-- how Gone ends -/
def RGoneE (M b : Nat) (wait now next : Int) (v : Value) (L : List KI) (num : Int) (w : World) (e : Ending) (w' : World) : Prop :=
  ∃ (v' : Value) (L' : List KI), e = .returned (.int .i64 0) ∧ ROrd M w' b wait now next v' L' ∧ ROFP b v w w' ∧ (∀ g, v'.ownBlock = some g → v.ownBlock = some g ∨ w.heap.size ≤ g) ∧
    (((next ≤ num ∧ num < next + 200 ∧ ∀ y ∈ L, y.num ≠ num) ∧ L' = L ++ [⟨num, true, 0, 0, 0, 0, false, none, 0, 0, now⟩]) ∨ (¬ (next ≤ num ∧ num < next + 200 ∧ ∀ y ∈ L, y.num ≠ num) ∧ L' = L ∧ v' = v))
set_option maxRecDepth 100000 in
set_option maxHeartbeats 4000000 in
theorem rGone_ok (M b : Nat) (wait cur next : Int) (v : Value) (L : List KI) (num now : Int) (ht : Pl.oTime cur now = 0) (hl : Pl.long num = true) (hn1 : 0 ≤ next) (hn2 : next ≤ 1099511627976) (hL : L.length ≤ 10000) (w : World) (hM : M ≤ w.heap.size) (h : ROrd M w b wait cur next v L) :
    Calls Tryd.prog 10 #[.pointer (some ⟨b, 0, none⟩), .int .i64 num, .int .i64 now] w (RGoneE M b wait now next v L num w) := by
  have R := Lib.hid (fun y => rLong_any num y)
  rw [hl] at R
  obtain ⟨hnum1, hnum2⟩ := (Pl.long_iff num).1 hl
  have H := Lib.hid h
  have TT := Lib.hid (rOrdTime_any b wait cur next v now w h.at_)
  rw [ht] at TT
  have c1 : w.cell? ⟨b, 1, none⟩ = some (.int .i64 cur) := obj_cell h.at_ rfl
  have c2 : w.cell? ⟨b, 2, none⟩ = some (.int .i64 next) := obj_cell h.at_ rfl
  have f1 := obj_free h.at_ 1
  clear h hl ht
  go_enter Tryd.func10, Tryd.ntmps10
  go_upto_region 10 with (first
    | (go_at_call 26; (with_reducible refine TT.out.mono ?_); rintro e w' ⟨rfl, rfl⟩)
    | (go_at_call 27; refine (R.out _).mono ?_; rintro e w' ⟨rfl, rfl⟩))
  refine abs_to (fun y => Hid (ROrd M y b wait now next v L) ∧ Hid (ROFP b v w y)) ⟨Lib.hid (H.out.set (by unfold ROrdAt; rw [obj_set H.out.at_]; rfl)), Lib.hid (Keeps.setCell (Keeps.refl _ _) (.inl (.inl rfl)) _)⟩ ?_
  clear H c1 f1 c2 TT R
  rintro y ⟨H, F⟩
  have c2 : y.cell? ⟨b, 2, none⟩ = some (.int .i64 next) := obj_cell H.out.at_ rfl
  have W1 : IntKind.i64.wrap (next + 200) = next + 200 := by rw [IntKind.wrap_i64]; omega
  have A1 := Lib.hid (rOrdAt_any M b wait now next v L num (by omega) y H.out)
  obtain ⟨K0, hK0⟩ : ∃ K0 : Bool, K0 = decide (next ≤ num ∧ num < next + 200 ∧ ∀ y ∈ L, y.num ≠ num) := ⟨_, rfl⟩
  have HK0 := Lib.hid hK0
  clear hK0
  go_cut [56] (fun u z => u = .bool K0 ∧ y = z)
  case first =>
    by_cases h1 : next ≤ num
    · by_cases h2 : num < next + 200
      · go_wp2_with (go_at_call 29; refine A1.out.mono ?_; rintro e w' ⟨k, rfl, hk, rfl⟩; have HK := Lib.hid hk; clear hk)
        rcases HK.out with ⟨rfl, hno⟩ | ⟨j, rfl, hj, hj1⟩
        · have e : K0 = true := by rw [HK0.out]; exact decide_eq_true ⟨h1, h2, hno⟩
          subst e
          go_wp2_with fail
          go_meet
          exact ⟨by first | rfl | (simp <;> omega), rfl⟩
        · have e : K0 = false := by rw [HK0.out]; exact decide_eq_false (fun q => q.2.2 _ (List.getElem_mem hj) hj1)
          subst e
          go_wp2_with fail
          go_meet
          exact ⟨by first | rfl | (simp <;> omega), rfl⟩
      · have e : K0 = false := by rw [HK0.out]; exact decide_eq_false (fun q => h2 q.2.1)
        subst e
        go_wp2_with fail
        go_meet
        exact ⟨by first | rfl | (simp <;> omega), rfl⟩
    · have e : K0 = false := by rw [HK0.out]; exact decide_eq_false (fun q => h1 q.1)
      subst e
      go_wp2_with fail
      go_meet
      exact ⟨by first | rfl | (simp <;> omega), rfl⟩
  case rest =>
  obtain ⟨rfl, rfl⟩ := hcut
  clear A1 c2
  cases K0
  case false =>
    have HN := Lib.hid (of_decide_eq_false HK0.out.symm)
    go_wp2_with fail
    go_ret
    exact ⟨v, L, rfl, H.out, F.out, fun _ e => .inl e, .inr ⟨HN.out, rfl, rfl⟩⟩
  case true =>
  have HY := Lib.hid (of_decide_eq_true HK0.out.symm)
  go_upto_region 11 with fail
  have BA : Below y.heap.size y (y.alloc (.cells (KI.cells ⟨num, true, 0, 0, 0, 0, false, none, 0, 0, now⟩).toArray 83)) := (Below.refl _ _).alloc (Nat.le_refl _) _
  have HA := Lib.hid (H.out.below BA)
  have FA := Lib.hid (Keeps.trans F.out (Below.toKeeps BA (Nat.le_refl _)))
  have RUN := RecK.run_one keptK_ok (y.alloc (.cells (KI.cells ⟨num, true, 0, 0, 0, 0, false, none, 0, 0, now⟩).toArray 83)) M v ⟨num, true, 0, 0, 0, 0, false, none, 0, 0, now⟩ L HA.out.row y.heap.size (obj_new _ _) (by omega) (by have := F.out.size; simp; omega)
  obtain ⟨vN, wN, hr, ho, hgr, hbk⟩ := RUN
  obtain ⟨gN, capN, rfl⟩ := Joins.ownsRow_form ho (by simp)
  have aN := HA.out.grown hgr
  have HRN := Lib.hid hr
  have cN : wN.cell? ⟨b, 3, none⟩ = some v := obj_cell aN rfl
  have fN := obj_free aN 3
  have c3 : y.cell? ⟨b, 3, none⟩ = some v := obj_cell H.out.at_ rfl
  have RN : Hid (ROrd M (wN.setCell ⟨b, 3, none⟩ (.slice (some ⟨gN, 0, none⟩) (L ++ [(⟨num, true, 0, 0, 0, 0, false, none, 0, 0, now⟩ : KI)]).length capN)) b wait now next (.slice (some ⟨gN, 0, none⟩) (L ++ [(⟨num, true, 0, 0, 0, 0, false, none, 0, 0, now⟩ : KI)]).length capN) (L ++ [(⟨num, true, 0, 0, 0, 0, false, none, 0, 0, now⟩ : KI)])) := Lib.hid (ROrd.put aN HA.out.low ho)
  have FN : Hid (ROFP b v w (wN.setCell ⟨b, 3, none⟩ (.slice (some ⟨gN, 0, none⟩) (L ++ [(⟨num, true, 0, 0, 0, 0, false, none, 0, 0, now⟩ : KI)]).length capN))) := Lib.hid (Keeps.setCell (S := fun k => k = b ∨ v.ownBlock = some k) (⟨hgr.os.trans FA.out.os, hgr.tape.trans FA.out.tape, hgr.output.trans FA.out.output, Nat.le_trans FA.out.size hgr.size, fun j hj hne => (hgr.block j (Nat.lt_of_lt_of_le hj FA.out.size) (fun e => hne (.inr e.symm))).trans (FA.out.block j hj hne)⟩) (.inl (.inl rfl)) _)
  have GN := Lib.hid (show ∀ g, (Value.slice (some ⟨gN, 0, none⟩) (L ++ [(⟨num, true, 0, 0, 0, 0, false, none, 0, 0, now⟩ : KI)]).length capN).ownBlock = some g → v.ownBlock = some g ∨ w.heap.size ≤ g from fun g e => by
    rcases hbk with h | h
    · exact .inl (h.symm.trans e)
    · rw [h] at e; have := F.out.size; simp at e; exact .inr (by omega))
  rw [show (L ++ [(⟨num, true, 0, 0, 0, 0, false, none, 0, 0, now⟩ : KI)]).length = L.length + 1 from by simp] at RN FN GN HRN
  clear hr ho hgr hbk aN BA HA FA H F
  go_upto_region 12 with (at_builtin; refine Lib.wpList_append_run _ rfl (.tmp 61) (.tmp 66) 31 31 rfl _ _ rfl rfl _ _ HRN.out ?_)
  clear HRN cN fN c3
  go_wp2_with fail
  go_ret
  exact ⟨_, _, rfl, RN.out, FN.out, GN.out, .inl ⟨HY.out, rfl⟩⟩
end Go.Proofs.YtlfdkoebjddokaaDoor
