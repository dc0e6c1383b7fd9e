import Derived.Test.YtcicfchpcbfdkaaGreatDoorNodeS
import Derived.Test.YtcicfchpcbfdkaaGreatDoorErrV
import Derived.Deep.Cut
import Derived.Deep.CutBlock
import Derived.Deep.QuietTactic
import Derived.BigQuiet
/-! The walk of the law NodePlans. -/
namespace Go.Proofs.YtcicfchpcbfdkaaGreatDoor
open Go.RowKit
set_option linter.unusedVariables false
set_option linter.unusedSimpArgs false
theorem Pl.nodup_len : ∀ (n : Nat) (A : List Int), A.Nodup → (∀ k ∈ A, 0 ≤ k ∧ k < (n : Int)) → A.length ≤ n
  | 0, A, _, h => by
    cases A with
    | nil => simp
    | cons x r => have := h x (by simp); omega
  | n + 1, A, hd, h => by
    by_cases hn : (n : Int) ∈ A
    · have h1 := Pl.nodup_len n (A.erase n) (hd.erase _) (fun k hk => by
        obtain ⟨h2, h3⟩ := (hd.mem_erase_iff).1 hk
        have := h k h3; omega)
      have h2 := List.length_erase_of_mem hn
      omega
    · have h1 := Pl.nodup_len n A hd (fun k hk => by
        have h2 := h k hk
        have : k ≠ n := fun e => hn (e ▸ hk)
        omega)
      omega
theorem Pl.planF_zero {id tr par ep : Int} {A : List Int} (h : Pl.planF id tr par ep A = 0) : ¬ Pl.planBad id tr par ep ∧ (∀ k ∈ A, ¬ Pl.kidBad id par k) ∧ A.Nodup := by
  unfold Pl.planF at h
  split at h
  · cases h
  · rename_i h1
    split at h
    · cases h
    · rename_i h2
      split at h
      · rename_i h3
        exact ⟨h1, fun k hk hb => h2 ⟨k, hk, hb⟩, h3⟩
      · cases h
theorem Pl.planF_good {id tr par ep : Int} {A : List Int} (h1 : ¬ Pl.planBad id tr par ep) (h2 : ∀ k ∈ A, ¬ Pl.kidBad id par k) (h3 : A.Nodup) : Pl.planF id tr par ep A = 0 := by
  unfold Pl.planF
  rw [if_neg h1, if_neg (by rintro ⟨k, hk, hb⟩; exact h2 k hk hb), if_pos h3]
theorem Pl.plan_len {id tr par ep : Int} {A : List Int} (h : Pl.planF id tr par ep A = 0) : A.length ≤ 16 := by
  obtain ⟨_, h2, h3⟩ := Pl.planF_zero h
  refine Pl.nodup_len 16 A h3 fun k hk => ?_
  have := h2 k hk
  unfold Pl.kidBad at this
  omega
theorem World.drewN_add7 (w : World) (a b : Nat) : (w.drewN a).drewN b = w.drewN (a + b) := by simp [World.drewN, Nat.add_assoc]
set_option maxRecDepth 100000 in
set_option maxHeartbeats 8000000 in
theorem walk_NodePlans (w : World) (id : Int) (wf0 : (Lit.int .i64 id).wf = true) (tr : Int) (wf1 : (Lit.int .i64 tr).wf = true) (par : Int) (wf2 : (Lit.int .i64 par).wf = true) (v3 : Value) (A : List Int) (o3 : IsInts w v3 A) (ep : Int) (wf4 : (Lit.int .i64 ep).wf = true) (nx : Int) (wf5 : (Lit.int .i64 nx).wf = true) (hE : Env w) :
    Calls Tryz.prog 3 #[.int .i64 id, .int .i64 tr, .int .i64 par, v3, .int .i64 ep, .int .i64 nx] w fun e w' => e = .returned (.bool true) ∧ Below w.heap.size w w' := by
  have HA := Lib.hid o3.1
  have hm := o3.1.len
  unfold maxLen at hm
  have ES := Lib.hid (fun (j : Int) y (hh : Below w.heap.size w y) => error_same j y (hE.below hh))
  obtain ⟨oA, cA, rfl⟩ : ∃ oa c, v3 = .slice oa A.length c := by
    rcases o3.1 with ⟨h1, oa, cap, rfl, _⟩ | ⟨b, off, cap, rfl, _⟩
    · subst h1; exact ⟨_, _, rfl⟩
    · exact ⟨_, _, rfl⟩
  have NW1 := Lib.hid (nodeNew_ok 3 (by decide) w)
  clear o3 hE wf0 wf1 wf2 wf4 wf5
  go_enter Tryz.func3, Tryz.ntmps3
  go_upto_region 4 with (go_at_call 7; (with_reducible refine NW1.out.mono ?_); rintro e w1 ⟨b1, sm1, pl1, mp1, rfl, h1, h2, -, h4, k1⟩; have N1 := Lib.hid h1; have M1 := Lib.hid h2; have X1 := Lib.hid h4; have K1 := Lib.hid k1; clear h1 h2 h4 k1)
  clear NW1
  have S1 := Lib.hid (show Calls Tryz.prog 8 #[.pointer (some ⟨b1, 0, none⟩), .int .i64 2, pkV 0 0 0 0 false (.slice none 0 0), .int .i64 0] w1 fun e w' => e = .returned (.iface 62 (.int .i64 5)) ∧ Below w1.heap.size w1 w' from nodeSend_none b1 0 3 0 _ sm1 pl1 _ 2 (by decide) rfl 0 (by unfold Pl.clockOk; decide) 0 0 0 0 false _ w1 N1.out)
  go_upto_region 5 with (go_at_call 8; (with_reducible refine S1.out.mono ?_); rintro e w2 ⟨rfl, k2⟩; have N2 := Lib.hid (show NodeAt w2 b1 0 3 0 (fun _ => .pointer none) sm1 pl1 (.slice none 0 0) from Below.heapAt k2 N1.out (lt_of_block N1.out)); have M2 := Lib.hid (M1.out.below k2 M1.out.lt); have K2 := Lib.hid (K1.out.trans (k2.mono K1.out.size)); clear k2)
  clear S1
  have PL1 := Lib.hid (show Calls Tryz.prog 9 #[.pointer (some ⟨b1, 0, none⟩), .int .i64 2, .int .i64 5, .slice none 0 0, .int .i64 1] w2 _ from nodePlan_new b1 0 3 0 _ sm1 pl1 _ 2 (by decide) 5 1 (.slice none 0 0) [] (Pl.planF_good (by decide) (fun k hk => by simp at hk) (by simp)) (by simp) rfl w2 N2.out X1.out.2.1 M2.out (fun y _ => Sl.nil y))
  go_upto_region 6 with (go_at_call 9; (with_reducible refine PL1.out.mono ?_); rintro e w3 ⟨rfl, tb1, kv1, gp1, rg1, q0, q1, q2, q3, q4, hb1, h1, h2, k3⟩; have N3 := Lib.hid h1; have T3 := Lib.hid h2; have K3 := Lib.hid (K2.out.trans (k3.mono (by have := X1.out; omega))); clear h1 h2 k3)
  clear PL1
  have S2 := Lib.hid (show Calls Tryz.prog 8 #[.pointer (some ⟨b1, 0, none⟩), .int .i64 2, pkV 0 0 0 0 false (.slice none 0 0), .int .i64 0] w3 fun e w' => e = .returned (.iface 62 (.int .i64 6)) ∧ Below w3.heap.size w3 w' from nodeSend_state b1 0 3 0 _ sm1 pl1 _ 2 tb1 (by decide) rfl 0 (by unfold Pl.clockOk; decide) 5 1 _ _ _ _ _ _ _ _ _ (by decide) 0 0 0 0 false _ w3 N3.out T3.out)
  go_upto_region 7 with (go_at_call 8; (with_reducible refine S2.out.mono ?_); rintro e w4 ⟨rfl, k4⟩; have K4 := Lib.hid (K3.out.trans (k4.mono K3.out.size)); clear k4)
  clear S2 N3 T3 N2 M2 N1 M1 X1 K1 K2 K3
  have E5 := Lib.hid (show Calls Tryz.prog 10 #[.iface 62 (.int .i64 5), .int .i64 5] w4 fun e w' => e = .returned (.bool true) ∧ Below w4.heap.size w4 w' from ES.out 5 w4 K4.out)
  go_upto_region 8 with (go_at_call 10; (with_reducible refine E5.out.mono ?_); rintro e w5 ⟨rfl, k5⟩; have K5 := Lib.hid (K4.out.trans (k5.mono K4.out.size)); clear k5)
  have E6 := Lib.hid (show Calls Tryz.prog 10 #[.iface 62 (.int .i64 6), .int .i64 6] w5 fun e w' => e = .returned (.bool true) ∧ Below w5.heap.size w5 w' from ES.out 6 w5 K5.out)
  go_upto_region 11 with (go_at_call 10; (with_reducible refine E6.out.mono ?_); rintro e w6 ⟨rfl, k6⟩; have K6 := Lib.hid (K5.out.trans (k6.mono K5.out.size)); clear k6)
  refine abs_n (fun y => Hid (Below w.heap.size w y)) K6 ?_
  clear E5 E6 K4 K5 K6
  rintro y0 K0
  by_cases hid : 0 ≤ id ∧ id ≤ 15
  case neg =>
    have NB := Lib.hid (nodeNew_bad id hid y0)
    have hc : id < 0 ∨ (¬ id < 0 ∧ 15 < id) := by omega
    clear hid
    rcases hc with h | ⟨h, h'⟩
    all_goals
      go_wp2_with (go_at_call 7; (with_reducible refine NB.out.mono ?_); rintro e w1 ⟨rfl, rfl⟩)
      go_ret
      exact ⟨by first | rfl | (simp; done) | (simp; omega), K0.out⟩
  have NW := Lib.hid (nodeNew_ok id hid y0)
  have HID := Lib.hid hid
  clear hid
  go_upto_region 15 with (go_at_call 7; (with_reducible refine NW.out.mono ?_); rintro e w7 ⟨b, sm, pl, mp, rfl, h1, h2, h3, h4, k1⟩; have N7 := Lib.hid h1; have M7 := Lib.hid h2; have P7 := Lib.hid h3; have X7 := Lib.hid (show y0.heap.size ≤ sm ∧ sm < b ∧ pl < sm ∧ (∀ j, j < 9 → mp j < sm) ∧ w.heap.size ≤ sm from ⟨h4.1, h4.2.1, h4.2.2.2.1, h4.2.2.2.2, Nat.le_trans K0.out.size h4.1⟩); have K7 := Lib.hid (K0.out.trans (k1.mono K0.out.size)); clear h1 h2 h3 h4 k1)
  have HWY := Lib.hid (show w.heap.size ≤ y0.heap.size from K0.out.size)
  clear NW K0
  go_cut [98] (fun v z => v = .bool (decide (Pl.planBad id tr par ep)) ∧ w7 = z)
  case first =>
    as_aux_lemma =>
    have hi := HID.out
    have HC : (tr < 1) ∨ (¬ tr < 1 ∧ 8 < tr) ∨ (¬ tr < 1 ∧ ¬ 8 < tr ∧ par < -1) ∨ (¬ tr < 1 ∧ ¬ 8 < tr ∧ ¬ par < -1 ∧ 15 < par) ∨ (¬ tr < 1 ∧ ¬ 8 < tr ∧ ¬ par < -1 ∧ ¬ 15 < par ∧ par = id) ∨ (¬ tr < 1 ∧ ¬ 8 < tr ∧ ¬ par < -1 ∧ ¬ 15 < par ∧ par ≠ id ∧ ep < 0) ∨ (¬ tr < 1 ∧ ¬ 8 < tr ∧ ¬ par < -1 ∧ ¬ 15 < par ∧ par ≠ id ∧ ¬ ep < 0 ∧ 65535 < ep) ∨ (¬ tr < 1 ∧ ¬ 8 < tr ∧ ¬ par < -1 ∧ ¬ 15 < par ∧ par ≠ id ∧ ¬ ep < 0 ∧ ¬ 65535 < ep) := by omega
    rcases HC with h1 | ⟨h1, h2⟩ | ⟨h1, h2, h3⟩ | ⟨h1, h2, h3, h4⟩ | ⟨h1, h2, h3, h4, h5⟩ | ⟨h1, h2, h3, h4, h5, h6⟩ | ⟨h1, h2, h3, h4, h5, h6, h7⟩ | ⟨h1, h2, h3, h4, h5, h6, h7⟩
    · have HD := Lib.hid (show decide (Pl.planBad id tr par ep) = true from decide_eq_true (by unfold Pl.planBad; omega))
      go_wp2_with fail
      go_meet
      exact ⟨by rw [HD.out], rfl⟩
    · have HD := Lib.hid (show decide (Pl.planBad id tr par ep) = true from decide_eq_true (by unfold Pl.planBad; omega))
      go_wp2_with fail
      go_meet
      exact ⟨by rw [HD.out], rfl⟩
    · have HD := Lib.hid (show decide (Pl.planBad id tr par ep) = true from decide_eq_true (by unfold Pl.planBad; omega))
      go_wp2_with fail
      go_meet
      exact ⟨by rw [HD.out], rfl⟩
    · have HD := Lib.hid (show decide (Pl.planBad id tr par ep) = true from decide_eq_true (by unfold Pl.planBad; omega))
      go_wp2_with fail
      go_meet
      exact ⟨by rw [HD.out], rfl⟩
    · have HD := Lib.hid (show decide (Pl.planBad id tr par ep) = true from decide_eq_true (by unfold Pl.planBad; omega))
      have d1 : (par == id) = true := by simpa using h5
      clear h5
      go_wp2_with fail
      go_meet
      exact ⟨by rw [HD.out], rfl⟩
    · have HD := Lib.hid (show decide (Pl.planBad id tr par ep) = true from decide_eq_true (by unfold Pl.planBad; omega))
      have d1 : (par == id) = false := by simpa using h5
      clear h5
      go_wp2_with fail
      go_meet
      exact ⟨by rw [HD.out], rfl⟩
    · have HD := Lib.hid (show decide (Pl.planBad id tr par ep) = true from decide_eq_true (by unfold Pl.planBad; omega))
      have d1 : (par == id) = false := by simpa using h5
      clear h5
      go_wp2_with fail
      go_meet
      exact ⟨by rw [HD.out], rfl⟩
    · have HD := Lib.hid (show decide (Pl.planBad id tr par ep) = false from decide_eq_false (by unfold Pl.planBad; omega))
      have d1 : (par == id) = false := by simpa using h5
      clear h5
      go_wp2_with fail
      go_meet
      exact ⟨by rw [HD.out], rfl⟩
  case rest =>
  obtain ⟨rfl, rfl⟩ := hcut
  go_upto_if 98 with fail
  go_cut [22] (fun v z => v = .int .i64 (if Pl.planBad id tr par ep then 1 else 0) ∧ w7 = z)
  case first =>
    by_cases hb : Pl.planBad id tr par ep
    · rw [decide_eq_true hb]
      have HB := Lib.hid hb
      clear hb
      go_wp2_with fail
      go_meet
      exact ⟨by rw [if_pos HB.out], rfl⟩
    · rw [decide_eq_false hb]
      have HB := Lib.hid hb
      clear hb
      go_wp2_with fail
      go_meet
      exact ⟨by rw [if_neg HB.out], rfl⟩
  case rest =>
  obtain ⟨rfl, rfl⟩ := hcut
  have RC := Lib.hid (show ∀ y, Below w.heap.size w y → ∀ i (hi : i < A.length), ∃ bb f, oA = some ⟨bb, f, none⟩ ∧ y.cell? ⟨bb, f + i, none⟩ = some (.int .i64 A[i]) from fun y kk i hi => by
    rcases HA.out with ⟨h1, _⟩ | ⟨bb, off, cap, e, _, _, h2⟩
    · subst h1; simp at hi
    · cases e
      exact ⟨bb, off, rfl, (kk.cell (p := ⟨bb, off + i, none⟩) (Sl.lt (h2 i hi))).trans (h2 i hi)⟩)
  obtain ⟨e0, he0⟩ : ∃ e0 : Int, (if Pl.planBad id tr par ep then 1 else 0) = e0 := ⟨_, rfl⟩
  have E0 : (e0 = 1 ∧ Hid (Pl.planF id tr par ep A = 1)) ∨ (e0 = 0 ∧ Hid (¬ Pl.planBad id tr par ep)) := by
    by_cases hb : Pl.planBad id tr par ep
    · rw [if_pos hb] at he0
      exact .inl ⟨he0.symm, Lib.hid (by unfold Pl.planF; rw [if_pos hb])⟩
    · rw [if_neg hb] at he0
      exact .inr ⟨he0.symm, Lib.hid hb⟩
  rw [he0]
  clear he0
  go_upto_block 0 with fail
  go_cut [22, 23, 24] from 99 to 128 (fun v22 _ _ z => w7 = z ∧ ∃ e : Int, v22 = .int .i64 e ∧ ((e = 1 ∧ Hid (Pl.planF id tr par ep A = 1)) ∨ (e = 0 ∧ Hid (¬ Pl.planBad id tr par ep ∧ ∀ k ∈ A, ¬ Pl.kidBad id par k))))
  case first =>
    as_aux_lemma =>
    go_upto_region 18 with fail
    go_loopw [22, 23, 24] (fun s22 s23 _ z => ∃ (i : Nat) (e : Int), i ≤ A.length ∧ s23 = .int .i64 i ∧ s22 = .int .i64 e ∧ w7 = z ∧ ((e = 1 ∧ Hid (Pl.planF id tr par ep A = 1)) ∨ (e = 0 ∧ Hid (¬ Pl.planBad id tr par ep ∧ ∀ j (hj : j < i) (hl : j < A.length), ¬ Pl.kidBad id par A[j])))) (fun _ s23 _ _ => A.length - (RowKit.intOf s23).toNat)
    case atStart =>
      refine ⟨0, e0, by omega, rfl, rfl, rfl, ?_⟩
      rcases E0 with h | ⟨h1, h2⟩
      · exact .inl h
      · exact .inr ⟨h1, Lib.hid ⟨h2.out, fun j hj => by omega⟩⟩
    case round =>
      as_aux_lemma =>
      clear E0
      obtain ⟨i, e, hi, rfl, rfl, rfl, HE1⟩ := hrel
      rcases HE1 with ⟨rfl, HF⟩ | ⟨rfl, HN⟩
      · by_cases hlt : i < A.length
        · have e1 : (i : Int) < (A.length : Int) := by omega
          go_wp2_with fail
          go_meet
          exact ⟨rfl, 1, rfl, .inl ⟨rfl, HF⟩⟩
        · have e1 : ¬ (i : Int) < (A.length : Int) := by omega
          clear hlt
          go_wp2_with fail
          go_meet
          exact ⟨rfl, 1, rfl, .inl ⟨rfl, HF⟩⟩
      · by_cases hlt : i < A.length
        · have e1 : (i : Int) < (A.length : Int) := by omega
          obtain ⟨bb, ff, rfl, q⟩ := RC.out _ K7.out i hlt
          have HG := Lib.hid (show ¬ Pl.kidBad id par A[i] → ∀ j (hj : j < i + 1) (hl : j < A.length), ¬ Pl.kidBad id par A[j] from fun h j hj hl => by
            by_cases e : j = i
            · subst e; exact h
            · exact HN.out.2 j (by omega) hl)
          have HB := Lib.hid (show Pl.kidBad id par A[i] → Pl.planF id tr par ep A = 1 from fun h => by
            unfold Pl.planF
            rw [if_neg HN.out.1, if_pos ⟨_, List.getElem_mem _, h⟩])
          generalize A[i] = k at *
          have HC : (k < 0 ∧ Pl.kidBad id par k) ∨ (¬ k < 0 ∧ 15 < k ∧ Pl.kidBad id par k) ∨ (¬ k < 0 ∧ ¬ 15 < k ∧ k = id ∧ Pl.kidBad id par k) ∨ (¬ k < 0 ∧ ¬ 15 < k ∧ k ≠ id ∧ k = par ∧ Pl.kidBad id par k) ∨ (¬ k < 0 ∧ ¬ 15 < k ∧ k ≠ id ∧ k ≠ par ∧ ¬ Pl.kidBad id par k) := by
            unfold Pl.kidBad; omega
          rcases HC with ⟨h1, hk⟩ | ⟨h1, h2, hk⟩ | ⟨h1, h2, h3, hk⟩ | ⟨h1, h2, h3, h4, hk⟩ | ⟨h1, h2, h3, h4, hk⟩
          · have F1 := Lib.hid (HB.out hk)
            clear HB HG hk
            go_wp2_with fail
            go_roundw
            case measure => simp only [RowKit.intOf]; omega
            case rel => exact ⟨i + 1, 1, by omega, by simp, rfl, by first | rfl | trivial, .inl ⟨rfl, F1⟩⟩
          · have F1 := Lib.hid (HB.out hk)
            clear HB HG hk
            go_wp2_with fail
            go_roundw
            case measure => simp only [RowKit.intOf]; omega
            case rel => exact ⟨i + 1, 1, by omega, by simp, rfl, by first | rfl | trivial, .inl ⟨rfl, F1⟩⟩
          · have F1 := Lib.hid (HB.out hk)
            have d1 : (k == id) = true := by simpa using h3
            clear HB HG hk h3
            go_wp2_with fail
            go_roundw
            case measure => simp only [RowKit.intOf]; omega
            case rel => exact ⟨i + 1, 1, by omega, by simp, rfl, by first | rfl | trivial, .inl ⟨rfl, F1⟩⟩
          · have F1 := Lib.hid (HB.out hk)
            have d1 : (k == id) = false := by simpa using h3
            have d2 : (k == par) = true := by simpa using h4
            clear HB HG hk h3 h4
            go_wp2_with fail
            go_roundw
            case measure => simp only [RowKit.intOf]; omega
            case rel => exact ⟨i + 1, 1, by omega, by simp, rfl, by first | rfl | trivial, .inl ⟨rfl, F1⟩⟩
          · have G1 := Lib.hid (HG.out hk)
            have d1 : (k == id) = false := by simpa using h3
            have d2 : (k == par) = false := by simpa using h4
            have NB1 := Lib.hid HN.out.1
            clear HB HG hk h3 h4
            go_wp2_with fail
            go_roundw
            case measure => simp only [RowKit.intOf]; omega
            case rel => exact ⟨i + 1, 0, by omega, by simp, rfl, by first | rfl | trivial, .inr ⟨rfl, Lib.hid ⟨NB1.out, G1.out⟩⟩⟩
        · have e1 : ¬ (i : Int) < (A.length : Int) := by omega
          have NB1 := Lib.hid (show ¬ Pl.planBad id tr par ep ∧ ∀ k ∈ A, ¬ Pl.kidBad id par k from ⟨HN.out.1, fun k hk => by
            obtain ⟨j, hj, rfl⟩ := List.mem_iff_getElem.1 hk
            exact HN.out.2 j (by omega) hj⟩)
          clear hlt
          go_wp2_with fail
          go_meet
          exact ⟨rfl, 0, rfl, .inr ⟨rfl, NB1⟩⟩
  case rest =>
  clear E0
  obtain ⟨rfl, e0', rfl, E1⟩ := hcut
  go_upto_block 2 with fail
  go_cut [22, 25, 26] from 129 to 156 (fun v22 _ _ z => (∃ nn, z = w7.drewN nn) ∧ v22 = .int .i64 (Pl.planF id tr par ep A))
  case first =>
    as_aux_lemma =>
    go_upto_region 24 with fail
    go_loopw [22, 25, 26] (fun s22 s25 _ z => ∃ (i nn : Nat) (e : Int), i ≤ A.length ∧ s25 = .int .i64 i ∧ s22 = .int .i64 e ∧ z = w7.drewN nn ∧ ((e ≠ 0 ∧ Hid (Pl.planF id tr par ep A = e)) ∨ (e = 0 ∧ Hid ((¬ Pl.planBad id tr par ep ∧ ∀ k ∈ A, ¬ Pl.kidBad id par k) ∧ (A.take i).Nodup)))) (fun _ s25 _ _ => A.length - (RowKit.intOf s25).toNat)
    case atStart =>
      refine ⟨0, 0, e0', by omega, rfl, rfl, rfl, ?_⟩
      rcases E1 with ⟨rfl, h⟩ | ⟨h1, h2⟩
      · exact .inl ⟨by decide, h⟩
      · exact .inr ⟨h1, Lib.hid ⟨h2.out, by simp⟩⟩
    case round =>
      as_aux_lemma =>
      clear E1
      obtain ⟨i, nn, e, hi, rfl, rfl, rfl, HE1⟩ := hrel
      rcases HE1 with ⟨hne, HF⟩ | ⟨rfl, HN⟩
      · have d0 : (e == 0) = false := by simpa using hne
        by_cases hlt : i < A.length
        · have e1 : (i : Int) < (A.length : Int) := by omega
          clear hne
          go_wp2_with fail
          go_meet
          exact ⟨⟨_, rfl⟩, by rw [HF.out]⟩
        · have e1 : ¬ (i : Int) < (A.length : Int) := by omega
          clear hlt hne
          go_wp2_with fail
          go_meet
          exact ⟨⟨_, rfl⟩, by rw [HF.out]⟩
      · by_cases hlt : i < A.length
        · have e1 : (i : Int) < (A.length : Int) := by omega
          have HLT := Lib.hid hlt
          have HT := Lib.hid (Pl.nodup_take hlt)
          have HBAD := Lib.hid (show A[i] ∈ A.take i → Pl.planF id tr par ep A = 7 from fun h => by
            unfold Pl.planF
            rw [if_neg HN.out.1.1, if_neg (by rintro ⟨k, hk, hb⟩; exact HN.out.1.2 k hk hb), if_neg]
            intro hn
            have h2 : (A.take (i + 1)).Nodup := hn.sublist (List.take_sublist _ _)
            exact (HT.out.1 h2).2 h)
          go_upto_region 27 with fail
          go_loopw [22, 26] (fun s22 s26 z => ∃ (j n2 : Nat) (e : Int), j ≤ i ∧ s26 = .int .i64 j ∧ s22 = .int .i64 e ∧ z = w7.drewN n2 ∧ ((e = 7 ∧ Hid (Pl.planF id tr par ep A = 7)) ∨ (e = 0 ∧ Hid (∀ m (hm : m < j) (hl : m < A.length), A[m] ≠ A[i])))) (fun _ s26 _ => i - (RowKit.intOf s26).toNat)
          case atStart => exact ⟨0, nn, 0, by omega, rfl, rfl, rfl, .inr ⟨rfl, Lib.hid (fun m hm => by omega)⟩⟩
          case round =>
            as_aux_lemma =>
            obtain ⟨j, n2, e, hj, rfl, rfl, rfl, HE2⟩ := hrel
            rcases HE2 with ⟨rfl, HF⟩ | ⟨rfl, HM⟩
            · by_cases hji : j < i
              · have e2 : (j : Int) < (i : Int) := by omega
                go_wp2_with fail
                go_roundw
                case measure => simp only [RowKit.intOf]; omega
                case rel => exact ⟨i + 1, n2, 7, by omega, by simp, rfl, rfl, .inl ⟨by decide, HF⟩⟩
              · have e2 : ¬ (j : Int) < (i : Int) := by omega
                clear hji
                go_wp2_with fail
                go_roundw
                case measure => simp only [RowKit.intOf]; omega
                case rel => exact ⟨i + 1, n2, 7, by omega, by simp, rfl, rfl, .inl ⟨by decide, HF⟩⟩
            · by_cases hji : j < i
              · have e2 : (j : Int) < (i : Int) := by omega
                have e3 : (j : Int) < (A.length : Int) := by omega
                obtain ⟨bb, ff, rfl, q⟩ := RC.out _ K7.out i hlt
                obtain ⟨bb', ff', eq, q'⟩ := RC.out _ K7.out j (by omega)
                cases eq
                have HG := Lib.hid (show A[j] ≠ A[i] → ∀ m (hm : m < j + 1) (hl : m < A.length), A[m] ≠ A[i] from fun h m hm hl => by
                  by_cases e : m = j
                  · subst e; exact h
                  · exact HM.out m (by omega) hl)
                have HB := Lib.hid (show A[j] = A[i] → Pl.planF id tr par ep A = 7 from fun h => HBAD.out (by
                  rw [← h]
                  exact List.mem_take_iff_getElem.2 ⟨j, by omega, rfl⟩))
                obtain ⟨xi, hxi⟩ : ∃ xi, A[i] = xi := ⟨_, rfl⟩
                obtain ⟨xj, hxj⟩ : ∃ xj, A[j] = xj := ⟨_, rfl⟩
                have HXI := Lib.hid hxi
                have q2 : w7.cell? ⟨bb, ff + i, none⟩ = some (.int .i64 xi) := by rw [← hxi]; exact q
                have q3 : w7.cell? ⟨bb, ff + j, none⟩ = some (.int .i64 xj) := by rw [← hxj]; exact q'
                have HG2 := Lib.hid (show xj ≠ xi → ∀ m (hm : m < j + 1) (hl : m < A.length), A[m] ≠ A[i] from fun h => HG.out (fun e => h (by rw [← hxi, ← hxj]; exact e)))
                have HB2 := Lib.hid (show xj = xi → Pl.planF id tr par ep A = 7 from fun h => HB.out (by rw [← hxi, ← hxj] at h; exact h))
                clear hxi hxj HG HB HT HBAD q q'
                by_cases hx : xj = xi
                · have F7 := Lib.hid (HB2.out hx)
                  have d1 : (xj == xi) = true := by simpa using hx
                  clear HB2 HG2 hx
                  go_upto_region 29 with fail
                  go_quiet (fail)
                  go_wp2_with fail
                  go_roundw
                  case measure => simp only [RowKit.intOf]; omega
                  case rel => exact ⟨j + 1, _, 7, by omega, by simp, rfl, rfl, .inl ⟨rfl, F7⟩⟩
                · have G2 := Lib.hid (HG2.out hx)
                  have d1 : (xj == xi) = false := by simpa using hx
                  clear HB2 HG2 hx
                  go_upto_region 29 with fail
                  go_quiet (fail)
                  go_wp2_with fail
                  go_roundw
                  case measure => simp only [RowKit.intOf]; omega
                  case rel => exact ⟨j + 1, _, 0, by omega, by simp, rfl, rfl, .inr ⟨rfl, G2⟩⟩
              · have e2 : ¬ (j : Int) < (i : Int) := by omega
                have ND := Lib.hid (show (A.take (i + 1)).Nodup from HT.out.2 ⟨HN.out.2, fun hm => by
                  obtain ⟨m, hm1, hm2⟩ := List.mem_take_iff_getElem.1 hm
                  exact HM.out m (by omega) (by omega) hm2⟩)
                clear hji
                go_wp2_with fail
                go_roundw
                case measure => simp only [RowKit.intOf]; omega
                case rel => exact ⟨i + 1, n2, 0, by omega, by simp, rfl, rfl, .inr ⟨rfl, Lib.hid ⟨HN.out.1, ND.out⟩⟩⟩
        · have e1 : ¬ (i : Int) < (A.length : Int) := by omega
          have F0 := Lib.hid (show Pl.planF id tr par ep A = 0 from Pl.planF_good HN.out.1.1 HN.out.1.2 (by
            have := HN.out.2
            rw [List.take_of_length_le (by omega)] at this
            exact this))
          clear hlt
          go_wp2_with fail
          go_meet
          exact ⟨⟨_, rfl⟩, by rw [F0.out]⟩
  case rest =>
  clear E1
  obtain ⟨⟨nn, rfl⟩, rfl⟩ := hcut
  go_upto_region 31 with fail
  have KD : Below w7.heap.size w7 (w7.drewN nn) := Below.drewN (Below.refl _ _) nn
  have K0s := Lib.hid (show w.heap.size ≤ sm ∧ y0.heap.size ≤ sm from ⟨X7.out.2.2.2.2, X7.out.1⟩)
  refine abs_n (fun y => Hid (NodeAt y b 0 id 0 (fun _ => .pointer none) sm pl (.slice none 0 0)) ∧ Hid (MapAt Tryz.prog 3 y sm 0 (fun _ => none)) ∧ Hid (Pul y0.heap.size y pl 0 10 mp (fun _ => 0) (fun _ => 0) (fun _ => 0) (fun _ _ => none)) ∧ Hid (Below w.heap.size w y)) ⟨Lib.hid (show NodeAt (w7.drewN nn) b 0 id 0 (fun _ => .pointer none) sm pl (.slice none 0 0) from N7.out), Lib.hid (M7.out.below KD M7.out.lt), Lib.hid (P7.out.drewN nn), Lib.hid (Below.drewN K7.out nn)⟩ ?_
  clear N7 M7 P7 K7 KD RC
  rintro y ⟨NY, MY, PY, KY⟩
  by_cases hF : Pl.planF id tr par ep A = 0
  case neg =>
    have PB := nodePlan_bad b 0 id 0 _ sm pl _ tr par ep (.slice oA A.length cA) A hF y NY.out (HA.out.below KY.out)
    have EB := ES.out (Pl.planF id tr par ep A) y KY.out
    rw [errV_hit _ hF] at PB EB
    have PB1 := Lib.hid PB
    have EB1 := Lib.hid EB
    have d1 : (Pl.planF id tr par ep A == 0) = false := beq_eq_false_iff_ne.2 hF
    have d2 : (Pl.planF id tr par ep A != 0) = true := by simp [hF]
    clear hF PB EB
    generalize Pl.planF id tr par ep A = F at *
    go_wp2_with (first
      | (go_at_call 9; (with_reducible refine PB1.out.mono ?_); rintro e w8 ⟨rfl, rfl⟩)
      | (go_at_call 10; (with_reducible refine EB1.out.mono ?_); rintro e w9 ⟨rfl, k9⟩; have K9 := Lib.hid (KY.out.trans (k9.mono KY.out.size))))
    go_ret
    exact ⟨by first | rfl | simp, K9.out⟩
  have hz := Pl.planF_zero hF
  have hl := Pl.plan_len hF
  have hbad := hz.1
  obtain ⟨k, rfl⟩ : ∃ k : Nat, tr = k := ⟨tr.toNat, by unfold Pl.planBad at hbad; omega⟩
  have hk : 1 ≤ k ∧ k ≤ 8 := by unfold Pl.planBad at hbad; omega
  have HF := Lib.hid hF
  have HZ := Lib.hid hz
  rw [hF]
  have hsb := X7.out
  have PN := Lib.hid (nodePlan_new b 0 id 0 _ sm pl _ k hk par ep (.slice oA A.length cA) A hF hl rfl y NY.out (by omega) MY.out (fun z hz => HA.out.below (KY.out.trans (hz.mono (by have := hsb; omega)))))
  clear hF hz hbad hsb
  go_upto_region 34 with (first
    | (go_at_call 9; (with_reducible refine PN.out.mono ?_); rintro e w8 ⟨rfl, tb, kv, gp, rg, h0, h1, h2, h3, h4, hbt, hn, ht, k8⟩; have HBT := Lib.hid hbt; have N8 := Lib.hid hn; have T8 := Lib.hid ht; have M8 := Lib.hid (MY.out.below k8 (by have := X7.out; omega)); have P8 := Lib.hid (show Pul y0.heap.size w8 pl 0 10 mp (fun _ => 0) (fun _ => 0) (fun _ => 0) (fun _ _ => none) from ⟨Below.heapAt k8 PY.out.at_ (by have := X7.out; omega), fun j hj => (PY.out.map j hj).below k8 (by have := X7.out.2.2.2.1 j hj; have := X7.out.2.1; omega), PY.out.ne, PY.out.inj, PY.out.low⟩); have K8 := Lib.hid (KY.out.trans (k8.mono (by have := X7.out; omega))); have E0 := Lib.hid (show Calls Tryz.prog 10 #[.nilIface, .int .i64 0] w8 fun e w' => e = .returned (.bool true) ∧ Below w8.heap.size w8 w' from ES.out 0 w8 K8.out); clear hbt hn ht k8)
    | (go_at_call 10; (with_reducible refine E0.out.mono ?_); rintro e w9 ⟨rfl, k9⟩; have N9 := Lib.hid (show NodeAt w9 b 0 id 0 (fun j => if j = k then .pointer (some ⟨tb, 0, none⟩) else .pointer none) sm pl (.slice none 0 0) from Below.heapAt k9 N8.out (lt_of_block N8.out)); have T9 := Lib.hid (show TrackAt w9 tb par ep kv gp rg (-1) h0 h1 h2 h3 h4 from Below.heapAt k9 T8.out (lt_of_block T8.out)); have M9 := Lib.hid (M8.out.below k9 M8.out.lt); have P9 := Lib.hid (P8.out.below k9); have K9 := Lib.hid (K8.out.trans (k9.mono K8.out.size)); clear k9))
  refine abs_n (fun y => Hid (NodeAt y b 0 id 0 (fun j => if j = k then .pointer (some ⟨tb, 0, none⟩) else .pointer none) sm pl (.slice none 0 0)) ∧ Hid (TrackAt y tb par ep kv gp rg (-1) h0 h1 h2 h3 h4) ∧ Hid (MapAt Tryz.prog 3 y sm 0 (fun _ => none)) ∧ Hid (Pul y0.heap.size y pl 0 10 mp (fun _ => 0) (fun _ => 0) (fun _ => 0) (fun _ _ => none)) ∧ Hid (Below w.heap.size w y)) ⟨N9, T9, M9, P9, K9⟩ ?_
  clear N9 T9 M9 P9 K9 N8 T8 M8 P8 K8 E0 PN NY MY PY KY
  rintro z ⟨NZ0, TZ, MZ, PZ, KZ⟩
  obtain ⟨T, hTT, NZ⟩ : ∃ T : Nat → Value, T k = .pointer (some ⟨tb, 0, none⟩) ∧ Hid (NodeAt z b 0 id 0 T sm pl (.slice none 0 0)) := ⟨_, by simp, NZ0⟩
  have HT2 := Lib.hid hTT
  clear NZ0 hTT
  by_cases hnx : 0 ≤ nx ∧ nx ≤ 65535
  case neg =>
    have hc : nx < 0 ∨ (¬ nx < 0 ∧ 65535 < nx) := by omega
    clear hnx
    rcases hc with h | ⟨h, h'⟩
    all_goals
      go_wp2_with fail
      go_ret
      exact ⟨by first | rfl | simp, KZ.out⟩
  obtain ⟨x0, x1⟩ := hnx
  have g0 : ¬ nx < 0 := by omega
  have g1 : ¬ 65535 < nx := by omega
  have HF2 := Lib.hid (show Pl.planF id k par nx A = 0 from Pl.planF_good (fun h => HZ.out.1 (by unfold Pl.planBad at *; omega)) HZ.out.2.1 HZ.out.2.2)
  have SB := Lib.hid (show Calls Tryz.prog 11 #[.pointer (some ⟨b, 0, none⟩), .int .i64 (k : Int), .int .i64 1] z _ from nodeSub_first y0.heap.size b 0 id _ sm pl _ k tb hk 1 (by decide) HT2.out par ep kv gp rg (-1) h0 h1 h2 h3 h4 0 10 mp _ _ _ _ (fun j => by simp) z NZ.out TZ.out HBT.out MZ.out PZ.out ⟨X7.out.1, X7.out.2.2.1, X7.out.2.1, X7.out.2.2.2.1⟩)
  have HAA := Lib.hid (show ∀ u v, Below w.heap.size w u → Below b u v → Sl encI v (.slice oA A.length cA) A from fun u v h1 h2 => HA.out.below (h1.trans (h2.mono (by have := X7.out; omega))))
  clear x0 x1
  by_cases hx : nx < ep
  · have HX := Lib.hid hx
    go_upto_region 40 with (go_at_call 11; (with_reducible refine SB.out.mono ?_); rintro e w10 ⟨rfl, S, cS, hS⟩; have S10 := Lib.hid hS; have K10 := Lib.hid (KZ.out.trans (hS.kb.mono HWY.out)); clear hS)
    clear SB
    have P2 := Lib.hid (nodePlan_state b 0 id 1 _ sm pl _ k hk par nx (.slice oA A.length cA) A HF2.out hl tb HT2.out par ep kv gp rg (-1) h0 h1 h2 h3 h4 w10 S10.out.at_ S10.out.track (HAA.out w10 w10 K10.out (Below.refl _ _)) HX.out)
    go_upto_region 41 with (first
      | (go_at_call 9; (with_reducible refine P2.out.mono ?_); rintro e w11 ⟨rfl, rfl⟩; have N11 := Lib.hid S10.out.at_; have K11 := Lib.hid K10.out; have E2 := Lib.hid (show Calls Tryz.prog 10 #[.iface 62 (.int .i64 6), .int .i64 6] w10 fun e w' => e = .returned (.bool true) ∧ Below w10.heap.size w10 w' from ES.out 6 w10 K11.out))
      | (go_at_call 10; (with_reducible refine E2.out.mono ?_); rintro e w12 ⟨rfl, k12⟩; have N12 := Lib.hid (show NodeAt w12 b 0 id 1 _ sm pl (.slice none 0 0) from Below.heapAt k12 N11.out (lt_of_block N11.out)); have K12 := Lib.hid (K11.out.trans (k12.mono K11.out.size)); clear k12))
    have OT := Lib.hid (nodeOut_none b 0 id 1 _ sm pl w12 N12.out)
    have LE := Lib.hid (show w.heap.size ≤ w12.heap.size ∧ w.heap.size ≤ b from ⟨K12.out.size, by have := X7.out; omega⟩)
    go_wp2_with (go_at_call 12; (with_reducible refine OT.out.mono ?_); rintro e w13 ⟨rfl, hk13⟩; have K13 := Lib.hid (K12.out.trans (hk13.below LE.out.1 LE.out.2)); clear hk13)
    go_ret
    exact ⟨by first | rfl | simp, K13.out⟩
  · have HX := Lib.hid (show ep ≤ nx from by omega)
    go_upto_region 40 with (go_at_call 11; (with_reducible refine SB.out.mono ?_); rintro e w10 ⟨rfl, S, cS, hS⟩; have S10 := Lib.hid hS; have K10 := Lib.hid (KZ.out.trans (hS.kb.mono HWY.out)); clear hS)
    clear SB
    have P2 := Lib.hid (nodePlan_old b 0 id 1 _ sm pl _ k hk par nx (.slice oA A.length cA) A HF2.out hl tb HT2.out par ep kv gp rg (-1) h0 h1 h2 h3 h4 cS S w10 S10.out.at_ S10.out.track HBT.out X7.out.2.1 S10.out.map S10.out.subs (fun v h => HAA.out w10 v K10.out h) HX.out)
    go_upto_region 41 with (first
      | (go_at_call 9; (with_reducible refine P2.out.mono ?_); rintro e w11 ⟨rfl, hP⟩; have N11 := Lib.hid hP.at_; have K11 := Lib.hid (K10.out.trans (hP.kb.mono (by have := X7.out; omega))); clear hP; have E2 := Lib.hid (show Calls Tryz.prog 10 #[.nilIface, .int .i64 0] w11 fun e w' => e = .returned (.bool true) ∧ Below w11.heap.size w11 w' from ES.out 0 w11 K11.out))
      | (go_at_call 10; (with_reducible refine E2.out.mono ?_); rintro e w12 ⟨rfl, k12⟩; have N12 := Lib.hid (show NodeAt w12 b 0 id 1 _ sm pl (.slice none 0 0) from Below.heapAt k12 N11.out (lt_of_block N11.out)); have K12 := Lib.hid (K11.out.trans (k12.mono K11.out.size)); clear k12))
    have OT := Lib.hid (nodeOut_none b 0 id 1 _ sm pl w12 N12.out)
    have LE := Lib.hid (show w.heap.size ≤ w12.heap.size ∧ w.heap.size ≤ b from ⟨K12.out.size, by have := X7.out; omega⟩)
    go_wp2_with (go_at_call 12; (with_reducible refine OT.out.mono ?_); rintro e w13 ⟨rfl, hk13⟩; have K13 := Lib.hid (K12.out.trans (hk13.below LE.out.1 LE.out.2)); clear hk13)
    go_ret
    exact ⟨by first | rfl | simp, K13.out⟩
end Go.Proofs.YtcicfchpcbfdkaaGreatDoor
