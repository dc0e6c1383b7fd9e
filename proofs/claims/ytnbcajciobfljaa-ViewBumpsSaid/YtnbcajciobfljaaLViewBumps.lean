import Derived.Test.YtnbcajciobfljaaLViewOnce
import Derived.Test.YtnbcajciobfljaaPBump
/-! The walk of the law ViewBumps. -/
namespace Go.Proofs.Ytnbcajciobfljaa
open Go.RowKit
set_option linter.unusedVariables false
set_option linter.unusedSimpArgs false
set_option maxRecDepth 100000 in
set_option maxHeartbeats 8000000 in
theorem walk_ViewBumps (w : World) (v1 : Value) (A : List Mb) (o1 : IsMs w v1 A) (n : Int) (hn : (Lit.int .i64 n).wf = true) (up : Bool) :
    Calls Try.prog 4 #[v1, .int .i64 n, .bool up] w fun e w' => e = .returned (.bool true) ∧ Below w.heap.size w w' := by
  have BM := Lib.hid (bump_any v1 A n up w o1)
  have H1 := Lib.hid o1
  obtain ⟨oa, ca, rfl, hla, hca, -, -⟩ := ms_read o1
  unfold maxLen at hca
  clear o1 hn
  go_enter Try.func4, Try.ntmps4
  go_upto_region 2 with (go_at_call 5; (with_reducible refine BM.out.mono ?_); rintro r z0 ⟨f, va, rfl, hf, hm, k⟩; have HF := Lib.hid hf; have X0 := Lib.hid hm; have K0 := Lib.hid k; clear hf hm k)
  clear BM
  by_cases h0 : f = 0
  case neg =>
    rw [errV_hit f h0]
    by_cases hg : Pl.GoodV A
    case neg =>
      have CK := Lib.hid (fun y (k : Below w.heap.size w y) => check_bad _ A y (H1.out.below k) hg)
      clear hg h0
      go_wp2_with (go_at_call 9; (with_reducible refine (CK.out _ K0.out).mono ?_); rintro r z10 ⟨kg, rfl, k⟩; have K10 := Lib.hid (K0.out.trans (k.mono K0.out.size)); clear k)
      go_ret
      exact ⟨rfl, K10.out⟩
    have CK := Lib.hid (fun y (k : Below w.heap.size w y) => check_good _ A y (H1.out.below k) hg)
    have hcase : n < 0 ∨ (0 ≤ n ∧ 15 < n) ∨ (0 ≤ n ∧ n ≤ 15 ∧ 0 < A.length) := by
      obtain ⟨a, h1, h2⟩ := HF.out
      obtain rfl : a = 0 := h1.eq hg.view
      rcases h2 with ⟨q, _⟩ | ⟨_, h2⟩
      · exact absurd rfl q
      · by_cases hb : Pl.nodeB n = true
        · rw [if_pos hb] at h2
          unfold Pl.nodeB at hb
          simp at hb
          by_cases hl : 0 < A.length
          · omega
          · exfalso
            have : A = [] := List.length_eq_zero_iff.1 (by omega)
            subst this
            rw [if_neg (by unfold Pl.bumpM Pl.vat; simp)] at h2
            exact h0 h2
        · unfold Pl.nodeB at hb
          simp at hb
          omega
    clear hg h0
    rcases hcase with h1 | ⟨h1, h2⟩ | ⟨h1, h2, h3⟩
    · go_wp2_with (go_at_call 9; (with_reducible refine (CK.out _ K0.out).mono ?_); rintro r z10 ⟨rfl, k⟩; have K10 := Lib.hid (K0.out.trans (k.mono K0.out.size)); clear k)
      go_ret
      exact ⟨by first | rfl | simp, K10.out⟩
    · have h4 : ¬ n < 0 := by omega
      go_wp2_with (go_at_call 9; (with_reducible refine (CK.out _ K0.out).mono ?_); rintro r z10 ⟨rfl, k⟩; have K10 := Lib.hid (K0.out.trans (k.mono K0.out.size)); clear k)
      go_ret
      exact ⟨by first | rfl | simp, K10.out⟩
    · have h4 : ¬ n < 0 := by omega
      have h5 : ¬ 15 < n := by omega
      have h6 : (0 : Int) < (A.length : Int) := by omega
      have h7 : decide ((0 : Int) < (A.length : Int)) = true := by simp; omega
      go_wp2_with (go_at_call 9; (with_reducible refine (CK.out _ K0.out).mono ?_); rintro r z10 ⟨rfl, k⟩; have K10 := Lib.hid (K0.out.trans (k.mono K0.out.size)); clear k)
      all_goals go_ret
      all_goals exact ⟨by first | rfl | (simp; omega), K10.out⟩
  subst h0
  rw [errV_nil]
  obtain ⟨g1, hok⟩ := HF.out.zero
  have G1 := Lib.hid g1
  have GR := Lib.hid (Pl.putV_good g1 hok)
  have ERI := Lib.hid (Pl.bump_right (n := n) (up := up) g1 hok)
  have ELE := Lib.hid (Pl.bump_left (n := n) (up := up) g1 hok)
  have ENE := Lib.hid (Pl.bump_newer (n := n) (up := up) g1 hok)
  have EAL := Lib.hid (Pl.bump_alive (n := n) (up := up) g1 hok)
  rw [if_pos rfl] at X0
  obtain ⟨R, hR⟩ : ∃ R, Pl.putV A (Pl.bumpM A n up) = R := ⟨_, rfl⟩
  rw [hR] at GR ERI ELE ENE EAL X0
  have ver := Lib.hid (show Pl.bumpM A n up = ⟨n, (Pl.bumpM A n up).v, up⟩ from rfl)
  clear g1 hok hR HF
  obtain ⟨ob, cb, rfl, hlb, hcb, -, -⟩ := ms_read X0.out
  unfold maxLen at hcb
  go_upto_region 4 with fail
  have M4 := Lib.hid (by have := merge_good _ _ A R z0 (H1.out.below K0.out) X0.out G1.out GR.out; rw [ERI.out] at this; exact this)
  go_upto_region 5 with (go_at_call 6; (with_reducible refine M4.out.mono ?_); rintro r z1 ⟨vb, rfl, hb, k⟩; have B1 := Lib.hid hb; have X1 := Lib.hid (X0.out.below k); have K1 := Lib.hid (K0.out.trans (k.mono K0.out.size)); clear k hb)
  clear M4 X0 K0 ERI
  have M5 := Lib.hid (by have := merge_good _ _ R A z1 X1.out (H1.out.below K1.out) GR.out G1.out; rw [ELE.out] at this; exact this)
  go_upto_region 6 with (go_at_call 6; (with_reducible refine M5.out.mono ?_); rintro r z2 ⟨vc, rfl, hb, k⟩; have C2 := Lib.hid hb; have B2 := Lib.hid (B1.out.below k); have X2 := Lib.hid (X1.out.below k); have K2 := Lib.hid (K1.out.trans (k.mono K1.out.size)); clear k hb)
  clear M5 X1 B1 K1 ELE
  have S6 := Lib.hid (sameMbs_b _ _ R z2 X2.out B2.out)
  go_upto_region 7 with (go_at_call 7; (with_reducible refine S6.out.mono ?_); rintro r z3 ⟨rfl, k⟩; have X3 := Lib.hid (X2.out.below k); have C3 := Lib.hid (C2.out.below k); have K3 := Lib.hid (K2.out.trans (k.mono K2.out.size)); clear k)
  clear S6 X2 B2 C2 K2
  have S7 := Lib.hid (sameMbs_b _ _ R z3 X3.out C3.out)
  go_upto_region 8 with (go_at_call 7; (with_reducible refine S7.out.mono ?_); rintro r z4 ⟨rfl, k⟩; have X4 := Lib.hid (X3.out.below k); have K4 := Lib.hid (K3.out.trans (k.mono K3.out.size)); clear k)
  clear S7 X3 C3 K3
  have M8 := Lib.hid (by have := newer_good _ _ A R z4 (H1.out.below K4.out) X4.out G1.out GR.out; rw [ENE.out, ver.out] at this; exact this)
  go_upto_region 9 with (go_at_call 8; (with_reducible refine M8.out.mono ?_); rintro r z5 ⟨vd, rfl, hb, k⟩; have D5 := Lib.hid hb; have X5 := Lib.hid (X4.out.below k); have K5 := Lib.hid (K4.out.trans (k.mono K4.out.size)); clear k hb)
  clear M8 X4 K4 ENE
  have M9 := Lib.hid ((alive_any _ R z5 X5.out).mono (R' := fun e w' => ∃ v', e = .returned (.tuple #[v', .nilIface]) ∧ IRow w' z5.heap.size v' (Pl.aliveV R) ∧ Below z5.heap.size z5 w') (fun e w' ⟨f, v', h, hf, hm, k⟩ => by
    obtain rfl : f = 0 := hf.eq GR.out.view
    exact ⟨v', by rw [h, errV_nil], by rw [if_pos rfl] at hm; exact hm, k⟩))
  go_upto_region 10 with (go_at_call 10; (with_reducible refine M9.out.mono ?_); rintro r z6 ⟨ve, rfl, hb, k⟩; have E6 := Lib.hid hb; have D6 := Lib.hid (D5.out.below k); have X6 := Lib.hid (X5.out.below k); have K6 := Lib.hid (K5.out.trans (k.mono K5.out.size)); clear k hb)
  clear M9 X5 K5 D5
  obtain ⟨od, cd, e, hld, hcd, -, rd⟩ := ms_read D6.out
  subst e
  obtain ⟨bd, fd, rfl, -, q0, -, q2, -⟩ := rd 0 (by simp)
  simp only [Nat.zero_mul, Nat.add_zero, List.getElem_cons_zero] at q0 q2
  have hcd1 : 1 ≤ cd := hld
  clear rd hld hcd
  simp only [List.length_cons, List.length_nil, Nat.zero_add]
  go_upto_region 12 with fail
  clear q0 q2
  obtain ⟨oe, ce, rfl, rd⟩ := intRow_read E6.out
  have RD := Lib.hid rd
  have LM := E6.out.sl.len
  unfold maxLen at LM
  clear rd
  go_upto_region 14 with fail
  go_loopw [19, 20] (fun s19 s20 wr => ∃ i : Nat, i ≤ (Pl.aliveV R).length ∧ s20 = .int .i64 i ∧ s19 = .bool (((Pl.aliveV R).take i).any fun k => decide (k = n)) ∧ wr = z6) (fun _ s20 _ => (Pl.aliveV R).length - (intOf s20).toNat)
  case atStart => exact ⟨0, by omega, rfl, rfl, rfl⟩
  case round =>
    obtain ⟨i, hi, rfl, rfl, rfl⟩ := hrel
    by_cases hlt : i < (Pl.aliveV R).length
    · obtain ⟨g, rfl, -, -, q⟩ := RD.out i _ (List.getElem?_eq_getElem hlt)
      have MM := Lib.hid (show (((Pl.aliveV R).take (i + 1)).any fun k => decide (k = n)) = ((((Pl.aliveV R).take i).any fun k => decide (k = n)) || decide ((Pl.aliveV R)[i] = n)) from by
        rw [Pl.take_more hlt, List.any_append]; simp)
      obtain ⟨x, hx⟩ : ∃ x, (Pl.aliveV R)[i] = x := ⟨_, rfl⟩
      rw [hx] at q MM
      clear hx
      obtain ⟨b, hb⟩ : ∃ b, (((Pl.aliveV R).take i).any fun k => decide (k = n)) = b := ⟨_, rfl⟩
      rw [hb] at MM ⊢
      clear hb
      cases b
      · by_cases hx : x = n
        · subst hx
          go_wp2_with fail
          go_roundw
          case measure => simp [intOf]; omega
          case rel => exact ⟨i + 1, by omega, by go_num, by rw [MM.out]; simp, by first | rfl | trivial⟩
        · have hx2 : (x == n) = false := by rw [beq_eq_false_iff_ne]; exact hx
          have HX := Lib.hid hx
          clear hx
          go_wp2_with fail
          go_roundw
          case measure => simp [intOf]; omega
          case rel => exact ⟨i + 1, by omega, by go_num, by rw [MM.out]; simp [HX.out], by first | rfl | trivial⟩
      · go_wp2_with fail
        go_roundw
        case measure => simp [intOf]; omega
        case rel => exact ⟨i + 1, by omega, by go_num, by rw [MM.out]; rfl, by first | rfl | trivial⟩
    · obtain rfl : i = (Pl.aliveV R).length := by omega
      rw [List.take_length, EAL.out]
      have CK := Lib.hid (check_good _ R _ X6.out GR.out)
      cases up
      all_goals
        go_wp2_with (go_at_call 9; (with_reducible refine CK.out.mono ?_); rintro r z10 ⟨rfl, k⟩; have K10 := Lib.hid (K6.out.trans (k.mono K6.out.size)); clear k)
        go_ret
        exact ⟨rfl, K10.out⟩
end Go.Proofs.Ytnbcajciobfljaa
