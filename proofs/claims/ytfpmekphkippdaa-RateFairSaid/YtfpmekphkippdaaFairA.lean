import Derived.Test.YtfpmekphkippdaaFair
/-! rate.Fair, of whatever. -/
namespace Go.Proofs.Ytfpmekphkippdaa
open Go.RowKit
open Go.Sort hiding Below
set_option linter.unusedVariables false
set_option linter.unusedSimpArgs false
set_option linter.unusedSectionVars false
theorem insertion_none (oa : Option Addr) (c : Nat) (fv : Value) (w : World) :
    Calls Try.prog 14 #[.slice oa 0 c, .int .i64 0, .int .i64 0, fv] w fun e w' => e = .returned (.tuple #[]) ∧ w = w' := by
  go_enter Try.func14, Try.ntmps14
  go_wp2
  go_loopw [8] (fun s wr => s = .int .i64 1 ∧ Hid (w = wr)) (fun _ _ => 0)
  case atStart => exact ⟨by first | rfl | simp, Lib.hid rfl⟩
  case round =>
    obtain ⟨rfl, HW⟩ := hrel
    go_wp2
    go_end0
    exact ⟨rfl, HW.out⟩
theorem stable_none (oa : Option Addr) (c : Nat) (fv : Value) (w : World) :
    Calls Try.prog 12 #[.slice oa 0 c, .int .i64 0, fv] w fun e w' => e = .returned (.tuple #[]) ∧ w = w' := by
  go_enter Try.func12, Try.ntmps12
  go_upto_region 2 with fail
  go_loopw [7, 8] (fun s7 s8 wr => s7 = .int .i64 0 ∧ s8 = .int .i64 20 ∧ Hid (w = wr)) (fun _ _ _ => 0)
  case atStart => exact ⟨rfl, rfl, Lib.hid rfl⟩
  case round =>
    obtain ⟨rfl, rfl, HW⟩ := hrel
    go_upto_region 7 with (go_at_call 14; refine (insertion_none _ _ _ _).mono ?_; rintro e z ⟨rfl, rfl⟩)
    go_loopw [6, 7, 8] (fun s6 s7 s8 z => s6 = .int .i64 20 ∧ Hid (w = z)) (fun _ _ _ _ => 0)
    case atStart => exact ⟨rfl, HW⟩
    case round =>
      clear HW
      obtain ⟨rfl, HW⟩ := hrel
      go_wp2
      go_end0
      exact ⟨rfl, HW.out⟩
theorem sort_none (oa : Option Addr) (c : Nat) (fv : Value) (w : World) :
    Calls Try.prog 7 #[.slice oa 0 c, fv] w fun e w' => e = .returned (.tuple #[]) ∧ w = w' := by
  go_enter Try.func7, Try.ntmps7
  go_wp2_with (go_at_call 12; refine (stable_none _ _ _ _).mono ?_; rintro e z ⟨rfl, rfl⟩)
  go_end0
  exact ⟨rfl, rfl⟩
instance (A : List Int) : Decidable (Pl.wrongs A) := by unfold Pl.wrongs; infer_instance
/-- what is wrong -/
def Pl.fairF (T : Int) (A : List Int) : Int := if 200 < A.length then 4 else if ¬ Pl.rate T ∨ Pl.wrongs A then 1 else 0
set_option maxHeartbeats 4000000 in
set_option maxRecDepth 1000000 in
theorem fair_none (T : Int) (hT : Pl.rate T) (v : Value) (w : World) (hv : Sl encI w v []) :
    Calls Try.prog 4 #[.int .i64 T, v] w (FairE w [] T) := by
  have HT := Lib.hid hT
  have k1 : Below w.heap.size w (w.alloc (.cells #[v] 22)) := (Below.refl _ _).alloc (Nat.le_refl _) _
  have WR := Lib.hid (rateWrong_any v [] _ (hv.below k1) false ⟨(fun h => by cases h), fun ⟨x, hx, _⟩ => by cases hx⟩)
  have hdT : decide (Pl.rate T) = true := decide_eq_true hT
  have HV := Lib.hid hv
  have K1 := Lib.hid k1
  obtain ⟨oa, c, rfl⟩ : ∃ oa c, v = .slice oa 0 c := by
    rcases hv with ⟨_, oa, cap, rfl, _⟩ | ⟨b, off, cap, rfl, _⟩
    · exact ⟨_, _, rfl⟩
    · exact ⟨_, _, rfl⟩
  have hmk : ∀ w : World, (Instr.makeSlice 22 (.int .i64 0) (.int .i64 0)).run Try.prog w = .ok (.slice (some ⟨w.heap.size, 0, none⟩) 0 0) (w.alloc (.cells #[] 3)) := fun w => make_intsF 0 (by omega) w
  have hmf : ∀ (fn : Fn) (first cap : Array Value) (w : World), (Instr.makeFunc fn first cap).run Try.prog w = .ok (.func fn first cap) w := fun _ _ _ _ => rfl
  clear hv hT k1
  go_enter Try.func4, Try.ntmps4
  go_upto_region 5 with (first
    | (go_at_call 5; refine (rateRate_any T _).mono ?_; rw [hdT]; rintro e z ⟨rfl, rfl⟩)
    | (go_at_call 6; (with_reducible refine WR.out.mono ?_); rintro e z ⟨rfl, rfl⟩))
  clear WR hdT
  go_upto_region 7 with fail
  obtain ⟨B, hB⟩ : ∃ B, w.heap.size = B := ⟨_, rfl⟩
  have k2 : Below w.heap.size w ((w.alloc (.cells #[.slice oa 0 c] 22)).alloc (.cells #[] 3)) := K1.out.alloc (by simp) _
  have z1 := Lib.hid (show ((w.alloc (.cells #[.slice oa 0 c] 22)).alloc (.cells #[] 3)).cell? ⟨B, 0, none⟩ = some (.slice oa 0 c) from by
    rw [← hB]; exact obj_cell (obj_old (obj_new _ _) _) rfl)
  refine abs_f (fun z => Hid (z.cell? ⟨B, 0, none⟩ = some (.slice oa 0 c)) ∧ Hid (Below w.heap.size w z)) ⟨by first | exact z1 | simpa using z1, by first | exact Lib.hid k2 | simpa using Lib.hid k2⟩ ?_
  try rw [hB]
  have HB := Lib.hid hB
  clear z1 k2 hmk hB
  rintro z ⟨ZB, ZK0⟩
  have ZK := Lib.hid (show Below w.heap.size w z from by rw [HB.out]; exact ZK0.out)
  clear ZK0
  go_loopw [36] (fun s wr => s = .int .i64 0 ∧ Hid (z = wr)) (fun _ _ => 0)
  case atStart => exact ⟨rfl, Lib.hid rfl⟩
  case round =>
    obtain ⟨rfl, HW⟩ := hrel
    have hw := HW.out
    subst hw
    clear HW
    have zb := ZB.out
    have CL := Lib.hid (cloneI_any (.slice oa 0 c) [] z (HV.out.below ZK.out) (by simp))
    go_upto_region 14 with (first
      | (go_at_call 7; refine (sort_none _ _ _ _).mono ?_; rintro e x ⟨rfl, rfl⟩)
      | (go_at_call 9; (with_reducible refine CL.out.mono ?_); rintro e y ⟨v', rfl, c1, c2⟩; have Y1 := Lib.hid (c1 y (Keeps.refl _ _)); have Y2 := Lib.hid c2; clear c1 c2))
    clear CL
    have y1 := (Y2.out.cell (p := ⟨B, 0, none⟩) (Sl.lt zb)).trans zb
    have KY := Lib.hid (ZK.out.trans (Y2.out.mono ZK.out.size))
    obtain ⟨oc, cc, rfl⟩ : ∃ oc cc, v' = .slice oc 0 cc := by
      rcases Y1.out with ⟨_, oa, cap, rfl, _⟩ | ⟨b, off, cap, rfl, _⟩
      · exact ⟨_, _, rfl⟩
      · exact ⟨_, _, rfl⟩
    clear zb Y2
    go_upto_region 15 with fail
    go_loopw [9, 52] (fun s9 s52 wr => s9 = .int .i64 T ∧ s52 = .int .i64 0 ∧ Hid (y = wr)) (fun _ _ _ => 0)
    case atStart => exact ⟨rfl, rfl, Lib.hid rfl⟩
    case round =>
      obtain ⟨rfl, rfl, HW⟩ := hrel
      have hw := HW.out
      subst hw
      clear HW
      go_upto_region 28 with fail
      go_loopw [9, 94] (fun s9 s94 wr => s94 = .int .i64 0 ∧ Hid (y = wr)) (fun _ _ _ => 0)
      case atStart => exact ⟨rfl, Lib.hid rfl⟩
      case round =>
        obtain ⟨rfl, HW⟩ := hrel
        have hw := HW.out
        subst hw
        clear HW
        go_wp2_with fail
        go_ret2
        exact ⟨0, T, oc, cc, rfl, Y1.out, ⟨Int.le_refl _, by simp [Pl.sumMin], HT.out.1, .inl rfl⟩, KY.out⟩
set_option maxHeartbeats 4000000 in
set_option maxRecDepth 1000000 in
theorem fair_any (T : Int) (v : Value) (A : List Int) (w : World) (hv : Sl encI w v A) :
    Calls Try.prog 4 #[.int .i64 T, v] w fun e w' => Below w.heap.size w w' ∧ ((Pl.fairF T A ≠ 0 ∧ e = .returned (.tuple #[.slice none 0 0, .iface 28 (.int .i64 (Pl.fairF T A))])) ∨ (Pl.fairF T A = 0 ∧ FairE w A T e w')) := by
  have hlen := hv.len
  unfold maxLen at hlen
  have k1 : Below w.heap.size w (w.alloc (.cells #[v] 22)) := (Below.refl _ _).alloc (Nat.le_refl _) _
  by_cases h1 : 200 < A.length
  · obtain ⟨oa, c, rfl⟩ : ∃ oa c, v = .slice oa A.length c := by
      rcases hv with ⟨h1, oa, cap, rfl, _⟩ | ⟨b, off, cap, rfl, _⟩
      · subst h1; exact ⟨_, _, rfl⟩
      · exact ⟨_, _, rfl⟩
    have hF : Pl.fairF T A = 4 := by unfold Pl.fairF; rw [if_pos h1]
    rw [hF]
    have e1 : (200 : Int) < (A.length : Int) := by omega
    have K1 := Lib.hid k1
    clear hv k1 hF h1
    go_enter Try.func4, Try.ntmps4
    go_wp2
    go_ret2
    exact ⟨K1.out, .inl ⟨by decide, rfl⟩⟩
  · by_cases h2 : ¬ Pl.rate T ∨ Pl.wrongs A
    · obtain ⟨oa, c, hvs⟩ : ∃ oa c, v = .slice oa A.length c := by
        rcases hv with ⟨h1, oa, cap, rfl, _⟩ | ⟨b, off, cap, rfl, _⟩
        · subst h1; exact ⟨_, _, rfl⟩
        · exact ⟨_, _, rfl⟩
      have hF : Pl.fairF T A = 1 := by unfold Pl.fairF; rw [if_neg h1, if_pos h2]
      rw [hF]
      have e1 : ¬ (200 : Int) < (A.length : Int) := by omega
      have K1 := Lib.hid k1
      by_cases h3 : Pl.rate T
      · have hw : Pl.wrongs A := by
          rcases h2 with h | h
          · exact absurd h3 h
          · exact h
        have WR := Lib.hid (rateWrong_any v A _ (hv.below k1) true ⟨fun _ => hw, fun _ => rfl⟩)
        have hdT : decide (Pl.rate T) = true := decide_eq_true h3
        subst hvs
        clear hv k1 hF h1 h2 hw h3
        go_enter Try.func4, Try.ntmps4
        go_wp2_with (first
          | (go_at_call 5; refine (rateRate_any T _).mono ?_; rw [hdT]; rintro e z ⟨rfl, rfl⟩)
          | (go_at_call 6; (with_reducible refine WR.out.mono ?_); rintro e z ⟨rfl, rfl⟩))
        go_ret2
        exact ⟨K1.out, .inl ⟨by decide, rfl⟩⟩
      · have hdT : decide (Pl.rate T) = false := decide_eq_false h3
        subst hvs
        clear hv k1 hF h1 h2 h3
        go_enter Try.func4, Try.ntmps4
        go_wp2_with (go_at_call 5; refine (rateRate_any T _).mono ?_; rw [hdT]; rintro e z ⟨rfl, rfl⟩)
        go_ret2
        exact ⟨K1.out, .inl ⟨by decide, rfl⟩⟩
    · have hF : Pl.fairF T A = 0 := by unfold Pl.fairF; rw [if_neg h1, if_neg h2]
      have hT : Pl.rate T := Classical.byContradiction fun h => h2 (.inl h)
      have hw : ¬ Pl.wrongs A := fun h => h2 (.inr h)
      rcases Nat.eq_zero_or_pos A.length with h0 | h0
      · have hA : A = [] := List.eq_nil_of_length_eq_zero h0
        subst hA
        refine (fair_none T hT v w hv).mono fun e w' h => ⟨?_, .inr ⟨hF, h⟩⟩
        obtain ⟨_, _, _, _, _, _, _, h⟩ := h
        exact h
      · obtain ⟨N, hN⟩ : ∃ N, A.length = N + 1 := ⟨A.length - 1, by omega⟩
        rcases hv with ⟨h1, _⟩ | ⟨b, off, cap, rfl, q1, q2, q3⟩
        · subst h1; simp at h0
        · refine (fair_main T A N hN (by omega) hT hw b off cap w (.inr ⟨b, off, cap, rfl, q1, q2, q3⟩)).mono fun e w' h => ⟨?_, .inr ⟨hF, h⟩⟩
          obtain ⟨_, _, _, _, _, _, _, h⟩ := h
          exact h
end Go.Proofs.Ytfpmekphkippdaa
