import Derived.Test.YtefhbjkhmfmkaaaDoorVoiceA
import Derived.Shelf.SlSortCmp.WholeK
import Derived.Deep.QuietTactic
import Derived.BigQuiet
import Derived.Deep.RegionHeld3
/-! cmp.Compare, cmp.Or; the closure by which voices are sorted. -/
namespace Go.Proofs.YtefhbjkhmfmkaaaDoor
open Go.RowKit Go.Lib Go.Sort Go.Shelf Go.Proofs
set_option linter.unusedVariables false
set_option linter.unusedSimpArgs false
def Pl.sgn (a b : Int) : Int := if a < b then -1 else if b < a then 1 else 0
theorem isNaN_any (a : Int) (w : World) : Calls Tryd.prog 34 #[.int .i64 a] w fun e w' => e = .returned (.bool false) ∧ w = w' := by
  go_enter Tryd.func34, Tryd.ntmps34
  go_wp2
  all_goals (go_ret; exact ⟨by simp, rfl⟩)
theorem cmpInt_any (a b : Int) (w : World) : Calls Tryd.prog 26 #[.int .i64 a, .int .i64 b] w fun e w' => e = .returned (.int .i64 (Pl.sgn a b)) ∧ w = w' := by
  have NA := Lib.hid (isNaN_any a w)
  have NB := Lib.hid (isNaN_any b w)
  have hc : a < b ∨ a = b ∨ b < a := by omega
  unfold Pl.sgn
  rcases hc with hc | hc | hc
  · rw [if_pos hc]
    go_enter Tryd.func26, Tryd.ntmps26
    go_wp2_with (first | (go_at_call 34; (with_reducible refine NA.out.mono ?_); rintro e w2 ⟨rfl, rfl⟩) | (go_at_call 34; (with_reducible refine NB.out.mono ?_); rintro e w2 ⟨rfl, rfl⟩))
    go_ret
    exact ⟨rfl, rfl⟩
  · subst hc
    rw [if_neg (by omega), if_neg (by omega)]
    go_enter Tryd.func26, Tryd.ntmps26
    go_wp2_with (first | (go_at_call 34; (with_reducible refine NA.out.mono ?_); rintro e w2 ⟨rfl, rfl⟩) | (go_at_call 34; (with_reducible refine NB.out.mono ?_); rintro e w2 ⟨rfl, rfl⟩))
    go_ret
    exact ⟨rfl, rfl⟩
  · rw [if_neg (by omega), if_pos hc]
    have h1 : ¬ a < b := by omega
    go_enter Tryd.func26, Tryd.ntmps26
    go_wp2_with (first | (go_at_call 34; (with_reducible refine NA.out.mono ?_); rintro e w2 ⟨rfl, rfl⟩) | (go_at_call 34; (with_reducible refine NB.out.mono ?_); rintro e w2 ⟨rfl, rfl⟩))
    go_ret
    exact ⟨rfl, rfl⟩
def Pl.orI (a b : Int) : Int := if a ≠ 0 then a else b
theorem cmpOr_any (a b : Int) (k : Nat) (w : World) (h0 : w.cell? ⟨k, 0, none⟩ = some (.int .i64 a)) (h1 : w.cell? ⟨k, 1, none⟩ = some (.int .i64 b)) :
    Calls Tryd.prog 25 #[.slice (some ⟨k, 0, none⟩) 2 2] w fun e w' => e = .returned (.int .i64 (Pl.orI a b)) ∧ w = w' := by
  unfold Pl.orI
  go_enter Tryd.func25, Tryd.ntmps25
  go_upto_region 3 with fail
  go_loopw [5, 8] (fun _ s8 wr => ∃ i : Nat, i ≤ 2 ∧ s8 = .int .i64 i ∧ (0 < i → a = 0) ∧ (1 < i → b = 0) ∧ w = wr) (fun _ s8 _ => 2 - (intOf s8).toNat)
  case atStart => exact ⟨0, by omega, rfl, by omega, by omega, rfl⟩
  case round =>
    obtain ⟨i, hi, rfl, ha, hb, rfl⟩ := hrel
    obtain rfl | rfl | rfl : i = 0 ∨ i = 1 ∨ i = 2 := by omega
    · by_cases e : a = 0
      · subst e
        go_wp2_with fail
        go_roundw
        case measure => simp [intOf]
        case rel => first | exact ⟨1, by omega, rfl, fun _ => rfl, by omega, rfl⟩ | exact ⟨1, by omega, rfl, fun _ => rfl, by omega, trivial⟩ | exact ⟨1, by omega, rfl, by simp, by omega, by first | rfl | trivial⟩
      · have d1 : (a == 0) = false := by rw [beq_eq_false_iff_ne]; exact e
        have d2 : (a != 0) = true := by simp [e]
        have E := Lib.hid e
        clear e ha hb
        go_wp2_with fail
        go_ret
        first | exact ⟨rfl, rfl⟩ | exact ⟨by rw [if_pos E.out]; rfl, rfl⟩
    · have e := ha (by omega)
      subst e
      by_cases e : b = 0
      · subst e
        clear ha hb
        go_wp2_with fail
        go_roundw
        case measure => simp [intOf]
        case rel => first | exact ⟨2, by omega, rfl, fun _ => rfl, fun _ => rfl, rfl⟩ | exact ⟨2, by omega, rfl, by simp, by simp, by first | rfl | trivial⟩
      · have d1 : (b == 0) = false := by rw [beq_eq_false_iff_ne]; exact e
        have d2 : (b != 0) = true := by simp [e]
        clear e ha hb
        go_wp2_with fail
        go_ret
        exact ⟨by simp, rfl⟩
    · have e := ha (by omega)
      subst e
      have e := hb (by omega)
      subst e
      clear ha hb
      go_wp2_with fail
      go_ret
      exact ⟨by simp, rfl⟩
/-- the order -/
def Pl.vcmp (x y : Vc) : Int := Pl.orI (Pl.sgn y.lvl x.lvl) (Pl.sgn x.who y.who)
theorem Pl.vcmp_lt (x y : Vc) : Pl.vcmp x y < 0 ↔ Pl.vBef x y := by
  unfold Pl.vcmp Pl.orI Pl.sgn Pl.vBef
  by_cases h1 : y.lvl < x.lvl
  · simp [h1]
  · by_cases h2 : x.lvl < y.lvl
    · simp [h1, h2]; omega
    · have e : x.lvl = y.lvl := by omega
      by_cases h3 : x.who < y.who
      · simp [e, h3]
      · by_cases h4 : y.who < x.who
        · simp [e, h3, h4]
        · simp [e, h3, h4]
set_option maxHeartbeats 2000000 in
theorem vclosure (x y : Vc) (W : World) : Calls Tryd.prog 24 #[vcV x.who x.lvl, vcV y.who y.lvl] W fun e w' => e = .returned (.int .i64 (Pl.vcmp x y)) ∧ ∃ q os', w' = grow (W.drewN q) os' := by
  obtain ⟨xn, xv⟩ := x
  obtain ⟨yn, yv⟩ := y
  have C1 := Lib.hid (fun z => cmpInt_any yv xv z)
  have C2 := Lib.hid (fun z => cmpInt_any xn yn z)
  have HV := Lib.hid (show Pl.vcmp ⟨xn, xv⟩ ⟨yn, yv⟩ = Pl.orI (Pl.sgn yv xv) (Pl.sgn xn yn) from rfl)
  generalize Pl.sgn yv xv = sa at *
  generalize Pl.sgn xn yn = sb at *
  have CO := Lib.hid (fun k z h0 h1 => cmpOr_any sa sb k z h0 h1)
  dsimp only
  go_enter Tryd.func24, Tryd.ntmps24
  go_upto_region 1 with fail
  obtain ⟨W2, hW2⟩ : ∃ W2, W2 = (W.alloc (.cells #[.int .i64 xn, .int .i64 xv] 38)).alloc (.cells #[.int .i64 yn, .int .i64 yv] 38) := ⟨_, rfl⟩
  have q := obj_old (obj_new W (.cells #[.int .i64 xn, .int .i64 xv] 38)) (.cells #[.int .i64 yn, .int .i64 yv] 38)
  have r := obj_new (W.alloc (.cells #[.int .i64 xn, .int .i64 xv] 38)) (.cells #[.int .i64 yn, .int .i64 yv] 38)
  rw [show (W.alloc (.cells #[.int .i64 xn, .int .i64 xv] 38)).heap.size = W.heap.size + 1 by simp] at r
  rw [← hW2] at q r
  have G := Lib.hid (show W2 = grow W #[.cells #[.int .i64 xn, .int .i64 xv] 38 (0, 0), .cells #[.int .i64 yn, .int .i64 yv] 38 (0, 0)] from by rw [hW2, alloc_eq_grow, alloc_eq_grow, grow_grow]; rfl)
  rw [← hW2]
  clear hW2
  obtain ⟨N, hN⟩ : ∃ N, W.heap.size = N := ⟨_, rfl⟩
  rw [hN] at q r ⊢
  clear hN
  have p0 := obj_cell q (k := 0) rfl
  have p1 := obj_cell q (k := 1) rfl
  have r0 := obj_cell r (k := 0) rfl
  have r1 := obj_cell r (k := 1) rfl
  have t0 : (W2.alloc (.cells #[.int .i64 sa, .int .i64 sb] 3)).drew.cell? ⟨W2.heap.size, 0, none⟩ = some (.int .i64 sa) := obj_cell (obj_new W2 (.cells #[.int .i64 sa, .int .i64 sb] 3)) rfl
  have t1 : (W2.alloc (.cells #[.int .i64 sa, .int .i64 sb] 3)).drew.cell? ⟨W2.heap.size, 1, none⟩ = some (.int .i64 sb) := obj_cell (obj_new W2 (.cells #[.int .i64 sa, .int .i64 sb] 3)) rfl
  have s0 : (W2.alloc (.cells #[.int .i64 sa, .int .i64 sb] 3)).drew.cell? ⟨N, 0, none⟩ = some (.int .i64 xn) := obj_cell (obj_old q (.cells #[.int .i64 sa, .int .i64 sb] 3)) rfl
  have s1 : (W2.alloc (.cells #[.int .i64 sa, .int .i64 sb] 3)).drew.cell? ⟨N, 1, none⟩ = some (.int .i64 xv) := obj_cell (obj_old q (.cells #[.int .i64 sa, .int .i64 sb] 3)) rfl
  have s2 : (W2.alloc (.cells #[.int .i64 sa, .int .i64 sb] 3)).drew.cell? ⟨N + 1, 0, none⟩ = some (.int .i64 yn) := obj_cell (obj_old r (.cells #[.int .i64 sa, .int .i64 sb] 3)) rfl
  have s3 : (W2.alloc (.cells #[.int .i64 sa, .int .i64 sb] 3)).drew.cell? ⟨N + 1, 1, none⟩ = some (.int .i64 yv) := obj_cell (obj_old r (.cells #[.int .i64 sa, .int .i64 sb] 3)) rfl
  clear q r
  go_region_held3 (fun y => y.cell? ⟨N, 0, none⟩ = some (.int .i64 xn) ∧ y.cell? ⟨N, 1, none⟩ = some (.int .i64 xv) ∧ y.cell? ⟨N + 1, 0, none⟩ = some (.int .i64 yn) ∧ y.cell? ⟨N + 1, 1, none⟩ = some (.int .i64 yv))
    (first | (exact ⟨p0, p1, r0, r1⟩) | (exact ⟨s0, s1, s2, s3⟩) | (with_reducible assumption))
    (first
    | (go_at_call 26; (with_reducible refine (C1.out _).mono ?_); rintro e z1 ⟨rfl, rfl⟩)
    | (go_at_call 26; (with_reducible refine (C2.out _).mono ?_); rintro e z1 ⟨rfl, rfl⟩)
    | (go_at_call 25; (with_reducible refine (CO.out _ _ t0 t1).mono ?_); rintro e z1 ⟨rfl, rfl⟩)
    | fail)
  all_goals go_wp2_with fail
  all_goals go_ret
  all_goals (refine ⟨by rw [HV.out]; rfl, 1, #[.cells #[.int .i64 xn, .int .i64 xv] 38 (0, 0), .cells #[.int .i64 yn, .int .i64 yv] 38 (0, 0)] ++ #[.cells #[.int .i64 sa, .int .i64 sb] 3 (0, 0)], ?_⟩; rw [G.out, alloc_eq_grow, grow_grow]; rfl)
end Go.Proofs.YtefhbjkhmfmkaaaDoor
