import Derived.Test.YthbcdpckckellaaDoorRead
import Derived.Deep.DeepCutAuto
import Derived.Deep.QuietTactic
import Derived.BigQuiet
import Derived.RegionTactic
import Derived.ChangeAlike
/-! slices.Equal of bytes. -/
namespace Go.Proofs.YthbcdpckckellaaDoor
open Go.RowKit
set_option linter.unusedVariables false
set_option linter.unusedSimpArgs false
set_option maxRecDepth 100000 in
set_option maxHeartbeats 2000000 in
theorem equal_any (v1 v2 : Value) (l1 l2 : List UInt8) (w : World) (hv1 : IsBytes w v1 l1) (hv2 : IsBytes w v2 l2) :
    Calls Tryd.prog 32 #[v1, v2] w fun e w' => e = .returned (.bool (decide (l1 = l2))) ∧ Below w.heap.size w w' := by
  by_cases hl : l1.length = l2.length
  case neg =>
    obtain ⟨oa1, c1, rfl, _⟩ := bytes_slice hv1
    obtain ⟨oa2, c2, rfl, _⟩ := bytes_slice hv2
    have E := Lib.hid (show decide (l1 = l2) = false from decide_eq_false (fun h => hl (by rw [h])))
    have d : ((l1.length : Int) != (l2.length : Int)) = true := by simpa using (fun h => hl (by omega))
    go_enter Tryd.func32, Tryd.ntmps32
    go_wp2
    go_ret
    exact ⟨ret_bool E.out.symm, Below.refl _ _⟩
  by_cases h0 : l1 = []
  · subst h0
    have h2 : l2 = [] := List.eq_nil_of_length_eq_zero hl.symm
    subst h2
    obtain ⟨oa1, c1, rfl, _⟩ := bytes_slice hv1
    obtain ⟨oa2, c2, rfl, _⟩ := bytes_slice hv2
    go_enter Tryd.func32, Tryd.ntmps32
    go_wp2
    refine wp_loop_once ?_
    go_wp2
    go_ret
    exact ⟨by simp, Below.refl _ _⟩
  · have hp : 0 < l1.length := List.length_pos_iff.2 h0
    rcases hv1 with ⟨h, _⟩ | ⟨b1, f1, k1, rfl, q1, m1, r1⟩
    · exact absurd h h0
    rcases hv2 with ⟨h, _⟩ | ⟨b2, f2, k2, rfl, q2, m2, r2⟩
    · rw [h] at hl; simp at hl; exact absurd hl h0
    have B1 := Lib.hid (Sl.lt (r1 0 hp))
    have B2 := Lib.hid (Sl.lt (r2 0 (by omega)))
    have R1 := Lib.hid r1
    have R2 := Lib.hid r2
    have HL := Lib.hid hl
    clear r1 r2 h0
    rw [← hl] at q2 ⊢
    clear hl
    unfold maxLen at m1 m2
    go_enter Tryd.func32, Tryd.ntmps32
    go_wp2
    go_loopw [5, 13] (fun s5 s13 wr => ∃ k : Nat, k ≤ l1.length ∧ s13 = .int .i64 k ∧ Hid (l1.take k = l2.take k) ∧ Hid (Below w.heap.size w wr)) (fun _ s13 _ => l1.length - (intOf s13).toNat)
    case atStart => exact ⟨0, by omega, rfl, Lib.hid (by simp), Lib.hid (Below.refl _ _)⟩
    case round =>
      obtain ⟨k, hk, rfl, ht, kb⟩ := hrel
      by_cases hlt : k < l1.length
      · have hlt2 : k < l2.length := by have := HL.out; omega
        have c1 := (kb.out.cell (p := ⟨b1, f1 + k, none⟩) B1.out).trans (R1.out k hlt)
        have c2 := (kb.out.cell (p := ⟨b2, f2 + k, none⟩) B2.out).trans (R2.out k hlt2)
        have HS1 := Lib.hid (List.take_succ_eq_append_getElem hlt)
        have HS2 := Lib.hid (List.take_succ_eq_append_getElem hlt2)
        have NE := Lib.hid (show l1[k] ≠ l2[k] → decide (l1 = l2) = false from fun h => decide_eq_false (fun h2 => h (by simp [h2])))
        generalize l1[k] = x at *
        generalize l2[k] = y at *
        by_cases e : x = y
        · subst e
          clear NE
          go_upto_region 6 with fail
          go_quiet (fail)
          go_wp2
          go_roundw
          case rel => exact ⟨k + 1, by omega, by go_num, Lib.hid (by rw [HS1.out, HS2.out, ht.out]), Lib.hid (Below.drewN kb.out _)⟩
          case measure => simp [intOf]; omega
        · have E := Lib.hid (NE.out e)
          have d : ((x.toNat : Int) != (y.toNat : Int)) = true := by
            simpa using (fun h : (x.toNat : Int) = (y.toNat : Int) => e (UInt8.toNat_inj.1 (by omega)))
          clear NE HS1 HS2 e
          go_upto_region 6 with fail
          go_quiet (fail)
          go_wp2
          go_ret
          exact ⟨ret_bool E.out.symm, Below.drewN kb.out _⟩
      · have E := Lib.hid (show decide (l1 = l2) = true from by
          have h := ht.out
          rw [List.take_of_length_le (by omega), List.take_of_length_le (by have := HL.out; omega)] at h
          exact decide_eq_true h)
        go_wp2
        go_ret
        exact ⟨ret_bool E.out.symm, kb.out⟩
end Go.Proofs.YthbcdpckckellaaDoor
