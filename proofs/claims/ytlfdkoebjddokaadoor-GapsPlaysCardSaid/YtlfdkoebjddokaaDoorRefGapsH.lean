import Derived.Test.YtlfdkoebjddokaaDoorRefGaps
import Derived.Test.YtlfdkoebjddokaaDoorRefSerial
import Derived.Deep.QuietTactic
import Derived.BigQuiet
import Derived.Deep.DeepCutAuto
/-! The reference's Gaps: Hear. -/
namespace Go.Proofs.YtlfdkoebjddokaaDoor
open Go.RowKit
set_option linter.unusedVariables false
set_option linter.unusedSimpArgs false
set_option maxRecDepth 100000 in
set_option maxHeartbeats 2000000 in
/-- a time that may not be, or goes back; a number that is none -/
theorem rHear_bad (b : Nat) (cur again tries top : Int) (v gv : Value) (num now : Int) (f : Int) (hf : f ≠ 0) (hE : (Pl.gTime cur now = f) ∨ (Pl.gTime cur now = 0 ∧ Pl.long num = false ∧ f = 1)) (w : World) (h : RGapsAt w b cur again tries top v gv) :
    Calls Tryd.prog 16 #[.pointer (some ⟨b, 0, none⟩), .int .i64 num, .int .i64 now] w fun e w' => e = .returned (.tuple #[.bool false, .int .i64 f]) ∧ Below w.heap.size w w' := by
  have T := Lib.hid (rGapsTime_any b cur again tries top v gv now w h)
  have R := Lib.hid (fun y => rLong_any num y)
  clear h
  have d0 : (f == 0) = false := by simpa using hf
  rcases hE with hE | ⟨hE, hl, rfl⟩
  · rw [hE] at T
    clear hE hf
    cases hl : Pl.long num
    all_goals
      rw [hl] at R
      go_enter Tryd.func16, Tryd.ntmps16
      go_upto_region 5 with (first
        | (go_at_call 38; (with_reducible refine T.out.mono ?_); rintro e w' ⟨rfl, rfl⟩)
        | (go_at_call 27; refine (R.out _).mono ?_; rintro e w' ⟨rfl, rfl⟩))
      go_quiet (fail)
      go_wp2_with fail
      go_ret2
      exact ⟨rfl, Below.drewN (Below.refl _ _) _⟩
  · rw [hE] at T
    rw [hl] at R
    clear hE hf d0 hl
    go_enter Tryd.func16, Tryd.ntmps16
    go_upto_region 5 with (first
      | (go_at_call 38; (with_reducible refine T.out.mono ?_); rintro e w' ⟨rfl, rfl⟩)
      | (go_at_call 27; refine (R.out _).mono ?_; rintro e w' ⟨rfl, rfl⟩))
    go_quiet (fail)
    go_wp2_with fail
    go_ret2
    exact ⟨rfl, Below.drewN (Below.refl _ _) _⟩
set_option maxRecDepth 100000 in
set_option maxHeartbeats 4000000 in
/-- too many would be lacking -/
theorem rHear_full (M b : Nat) (cur again tries top : Int) (v : Value) (L : List Lk) (gv : Value) (G : List Int) (num now : Int) (ht : Pl.gTime cur now = 0) (hl : Pl.long num = true) (htop : top ≤ 1099511627776) (hL : L.length ≤ 1000) (h0 : 0 ≤ top) (h1 : top < num) (h2 : 200 < num - top - 1 + L.length) (w : World) (h : RGp M w b cur again tries top v L gv G) :
    Calls Tryd.prog 16 #[.pointer (some ⟨b, 0, none⟩), .int .i64 num, .int .i64 now] w fun e w' => e = .returned (.tuple #[.bool false, .int .i64 4]) ∧ Below w.heap.size w w' := by
  have T := Lib.hid (rGapsTime_any b cur again tries top v gv now w h.at_)
  rw [ht] at T
  have R := Lib.hid (fun y => rLong_any num y)
  rw [hl] at R
  obtain ⟨hn1, hn2⟩ := (Pl.long_iff num).1 hl
  obtain ⟨o1, c1, rfl, -⟩ := h.row.read lackK_ok
  have c3 : w.cell? ⟨b, 3, none⟩ = some (.int .i64 top) := obj_cell h.at_ rfl
  have c4 : w.cell? ⟨b, 4, none⟩ = some (.slice o1 L.length c1) := obj_cell h.at_ rfl
  have W1 : IntKind.i64.wrap (num - top) = num - top := by rw [IntKind.wrap_i64]; omega
  have W2 : IntKind.i64.wrap (num - top - 1) = num - top - 1 := by rw [IntKind.wrap_i64]; omega
  have W3 : IntKind.i64.wrap (num - top - 1 + (L.length : Int)) = num - top - 1 + (L.length : Int) := by rw [IntKind.wrap_i64]; omega
  clear h ht hl
  go_enter Tryd.func16, Tryd.ntmps16
  go_upto_region 5 with (first
    | (go_at_call 38; (with_reducible refine T.out.mono ?_); rintro e w' ⟨rfl, rfl⟩)
    | (go_at_call 27; refine (R.out _).mono ?_; rintro e w' ⟨rfl, rfl⟩))
  go_quiet (fail)
  go_wp2_with fail
  go_ret2
  exact ⟨rfl, Below.drewN (Below.refl _ _) _⟩
set_option maxRecDepth 100000 in
set_option maxHeartbeats 4000000 in
/-- the first of all -/
theorem rHear_first (M b : Nat) (cur again tries top : Int) (v : Value) (L : List Lk) (gv : Value) (G : List Int) (num now : Int) (ht : Pl.gTime cur now = 0) (hl : Pl.long num = true) (h0 : top < 0) (w : World) (h : RGp M w b cur again tries top v L gv G) :
    Calls Tryd.prog 16 #[.pointer (some ⟨b, 0, none⟩), .int .i64 num, .int .i64 now] w fun e w' => e = .returned (.tuple #[.bool true, .int .i64 0]) ∧ RGp M w' b now again tries num v L gv G ∧ RGFP b v gv w w' := by
  have T := Lib.hid (rGapsTime_any b cur again tries top v gv now w h.at_)
  rw [ht] at T
  have R := Lib.hid (fun y => rLong_any num y)
  rw [hl] at R
  have H := Lib.hid h
  have c3 : w.cell? ⟨b, 3, none⟩ = some (.int .i64 top) := obj_cell h.at_ rfl
  have d0 : decide (0 ≤ top) = false := by simp; omega
  clear h ht hl
  go_enter Tryd.func16, Tryd.ntmps16
  go_upto_region 5 with (first
    | (go_at_call 38; (with_reducible refine T.out.mono ?_); rintro e w' ⟨rfl, rfl⟩)
    | (go_at_call 27; refine (R.out _).mono ?_; rintro e w' ⟨rfl, rfl⟩))
  go_quiet (fail)
  go_upto_region 9 with fail
  refine abs_to (fun z => Hid (RGp M z b cur again tries top v L gv G) ∧ Hid (RGFP b v gv w z)) ⟨Lib.hid (H.out.drewN _), Lib.hid (Keeps.drewN (Keeps.refl _ _) _)⟩ ?_
  clear H c3 d0
  rintro z ⟨H, F⟩
  have c2 : z.cell? ⟨b, 2, none⟩ = some (.int .i64 cur) := obj_cell H.out.at_ rfl
  have f2 := obj_free H.out.at_ 2
  have H2 := Lib.hid (H.out.set (j := 2) (u := .int .i64 now) (now' := now) (again' := again) (tries' := tries) (top' := top) (by unfold RGapsAt; rw [obj_set H.out.at_]; rfl))
  have F2 : Hid (RGFP b v gv w (z.setCell ⟨b, 2, none⟩ (.int .i64 now))) := Lib.hid (Keeps.setCell F.out (.inl (.inl rfl)) _)
  go_upto_region 10 with fail
  refine abs_to (fun z => Hid (RGp M z b now again tries top v L gv G) ∧ Hid (RGFP b v gv w z)) ⟨H2, F2⟩ ?_
  clear H F c2 f2 H2 F2
  rintro z ⟨H, F⟩
  have c3 : z.cell? ⟨b, 3, none⟩ = some (.int .i64 top) := obj_cell H.out.at_ rfl
  have f3 := obj_free H.out.at_ 3
  have H3 := Lib.hid (H.out.set (j := 3) (u := .int .i64 num) (now' := now) (again' := again) (tries' := tries) (top' := num) (by unfold RGapsAt; rw [obj_set H.out.at_]; rfl))
  have F3 : Hid (RGFP b v gv w (z.setCell ⟨b, 3, none⟩ (.int .i64 num))) := Lib.hid (Keeps.setCell F.out (.inl (.inl rfl)) _)
  clear H F
  go_wp2_with fail
  go_ret2
  exact ⟨rfl, H3.out, F3.out⟩
end Go.Proofs.YtlfdkoebjddokaaDoor
