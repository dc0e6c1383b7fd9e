import Derived.Test.YticihmkgdabgiaaDoorRefOpen
import Derived.Test.YticihmkgdabgiaaDoorSame
import Derived.Test.YticihmkgdabgiaaDoorTold
import Derived.Deep.RegionHeld3
/-! The walk of the law CrcSums. -/
namespace Go.Proofs.YticihmkgdabgiaaDoor
open Go.RowKit
set_option linter.unusedVariables false
set_option linter.unusedSimpArgs false
/-- the error of a fault's number -/
def errV (k : Int) : Value := if k = 0 then .nilIface else .iface 73 (.int .i64 k)
theorem errV_zero : errV 0 = .nilIface := rfl
theorem errV_hit {k : Int} (h : k ≠ 0) : errV k = .iface 73 (.int .i64 k) := by unfold errV; rw [if_neg h]
theorem err_same (k : Int) (w : World) (hE : Env w) : Calls Tryd.prog 13 #[errV k, .int .i64 k] w fun e w' => e = .returned (.bool true) ∧ Below w.heap.size w w' := by
  by_cases h : k = 0
  · subst h
    rw [errV_zero]
    exact (error_nil 0 w).mono fun e w' ⟨h1, h2⟩ => ⟨by rw [h1]; rfl, by rw [← h2]; exact Below.refl _ _⟩
  · rw [errV_hit h]
    exact (error_hit k k w hE).mono fun e w' ⟨h1, h2⟩ => ⟨by rw [h1]; simp, h2⟩
def Pl.openL (l : List UInt8) : List UInt8 := if Pl.openFault l = 0 then Pl.opened l else []
theorem copen_any (v : Value) (l : List UInt8) (w : World) (hv : IsBytes w v l) (hb : l.length ≤ 100000000) :
    Calls Tryd.prog 36 #[v] w fun e w' => ∃ oa n c, e = .returned (.tuple #[.slice oa n c, errV (Pl.openFault l)]) ∧ IsBytes w' (.slice oa n c) (Pl.openL l) ∧ Below w.heap.size w w' := by
  unfold Pl.openL
  by_cases h : Pl.openFault l = 0
  · rw [h, if_pos rfl]
    exact (copen_ok v l w hv hb h).mono fun e w' ⟨oa, n, c, h1, h2, h3⟩ => ⟨oa, n, c, h1, h2.reads, h3⟩
  · rw [if_neg h, errV_hit h]
    exact (copen_bad v l w hv hb h).mono fun e w' ⟨h1, h3⟩ => ⟨none, 0, 0, h1, Sl.nil _, h3⟩
set_option maxHeartbeats 1000000 in
theorem join_bad (a b n : Int) (h : ¬ ((0 ≤ a ∧ a ≤ 4294967295) ∧ (0 ≤ b ∧ b ≤ 4294967295) ∧ 0 ≤ n ∧ n ≤ 1000000)) (w : World) :
    Calls Tryd.prog 33 #[.int .i64 a, .int .i64 b, .int .i64 n] w fun e w' => e = .returned (.tuple #[.int .i64 0, .iface 73 (.int .i64 1)]) ∧ w = w' := by
  have H := Lib.hid h
  clear h
  cases h1 : decide (0 ≤ a ∧ a ≤ 4294967295)
  · have W1 := Lib.hid (by have h := word_any a w; rw [h1] at h; exact h)
    clear h1 H
    go_enter Tryd.func33, Tryd.ntmps33
    go_wp2_with (go_at_call 50; (with_reducible refine W1.out.mono ?_); rintro e w' ⟨rfl, rfl⟩)
    refine bodyPost_ret (v := .tuple #[.int .i64 0, .iface 73 (.int .i64 1)]) (by simp [results, Tryd.results33, go_sem]) rfl ?_
    exact ⟨rfl, rfl⟩
  · have W1 := Lib.hid (by have h := word_any a w; rw [h1] at h; exact h)
    cases h2 : decide (0 ≤ b ∧ b ≤ 4294967295)
    · have W2 := Lib.hid (by have h := word_any b w; rw [h2] at h; exact h)
      clear h1 h2 H
      go_enter Tryd.func33, Tryd.ntmps33
      go_wp2_with (first | (go_at_call 50; (with_reducible refine W1.out.mono ?_); rintro e w' ⟨rfl, rfl⟩) | (go_at_call 50; (with_reducible refine W2.out.mono ?_); rintro e w' ⟨rfl, rfl⟩) | fail)
      refine bodyPost_ret (v := .tuple #[.int .i64 0, .iface 73 (.int .i64 1)]) (by simp [results, Tryd.results33, go_sem]) rfl ?_
      exact ⟨rfl, rfl⟩
    · have W2 := Lib.hid (by have h := word_any b w; rw [h2] at h; exact h)
      have hn : n < 0 ∨ (0 ≤ n ∧ 1000000 < n) := by
        have := of_decide_eq_true h1
        have := of_decide_eq_true h2
        have := H.out
        omega
      clear h1 h2 H
      rcases hn with hn | ⟨hn0, hn⟩
      all_goals
        go_enter Tryd.func33, Tryd.ntmps33
        go_wp2_with (first | (go_at_call 50; (with_reducible refine W1.out.mono ?_); rintro e w' ⟨rfl, rfl⟩) | (go_at_call 50; (with_reducible refine W2.out.mono ?_); rintro e w' ⟨rfl, rfl⟩) | fail)
        refine bodyPost_ret (v := .tuple #[.int .i64 0, .iface 73 (.int .i64 1)]) (by simp [results, Tryd.results33, go_sem]) rfl ?_
        exact ⟨rfl, rfl⟩
theorem abs_q {P : Program} {c : Code} {Q : Exit → Act → World → Prop} {a : Act} {W : World} (S : World → Prop) (h : S W) (k : ∀ wq, S wq → c.wp P Q a wq) : c.wp P Q a W := k W h
set_option maxRecDepth 100000 in
set_option maxHeartbeats 1000000 in
theorem walk_CrcSums_run (w : World) (oa0 : Option Addr) (c0 : Nat) (l : List UInt8) (o0 : IsBytes w (.slice oa0 l.length c0) l) (sum a n : Int) (hE : Env w) (h0 : l.length ≤ 1048576)
    (x y : Bool) (e0 want0 e1 want1 : Int)
    (hx : ∀ z : World, Calls Tryd.prog 30 #[.int .i64 sum] z fun e w' => e = .returned (.bool x) ∧ z = w')
    (hy : ∀ z : World, Calls Tryd.prog 30 #[.int .i64 a] z fun e w' => e = .returned (.bool y) ∧ z = w')
    (hm0 : x = false → e0 = 1 ∧ want0 = 0) (hm1 : x = true → e0 = 0 ∧ ∀ (z : World), IsBytes z (.slice oa0 l.length c0) l → Calls Tryd.prog 29 #[.int .i64 sum, .slice oa0 l.length c0] z fun e w' => e = .returned (.int .i64 want0) ∧ z = w')
    (hmo : ∀ (z : World), IsBytes z (.slice oa0 l.length c0) l → Calls Tryd.prog 31 #[.int .i64 sum, .slice oa0 l.length c0] z fun e w' => e = .returned (.tuple #[.int .i64 want0, errV e0]) ∧ z = w')
    (g : Bool) (hg : g = (x && (y && (decide (0 ≤ n) && decide (n ≤ 1000000)))))
    (hj0 : g = false → e1 = 1 ∧ want1 = 0) (hj1 : g = true → e1 = 0 ∧ ∀ (z : World), Calls Tryd.prog 32 #[.int .i64 sum, .int .i64 a, .int .i64 n] z fun e w' => e = .returned (.int .i64 want1) ∧ z = w')
    (hjo : ∀ (z : World), Calls Tryd.prog 33 #[.int .i64 sum, .int .i64 a, .int .i64 n] z fun e w' => e = .returned (.tuple #[.int .i64 want1, errV e1]) ∧ Below z.heap.size z w') :
    Calls Tryd.prog 7 #[.slice oa0 l.length c0, .int .i64 sum, .int .i64 a, .int .i64 n] w fun e w' => e = .returned (.bool true) ∧ Below w.heap.size w w' := by
  have HV := Lib.hid o0
  have HE := Lib.hid hE
  have HL := Lib.hid h0
  have HX := Lib.hid hx
  have HY := Lib.hid hy
  have HM0 := Lib.hid hm0
  have HM1 := Lib.hid hm1
  have HMO := Lib.hid (hmo w o0)
  have HG := Lib.hid hg
  have HJ0 := Lib.hid hj0
  have HJ1 := Lib.hid hj1
  have HJO := Lib.hid hjo
  have S1 := Lib.hid (crcSum_any _ l w o0)
  have S2 := Lib.hid (refSum_any _ l w o0)
  clear o0 hE h0 hx hy hm0 hm1 hmo hg hj0 hj1 hjo
  generalize Pl.sumI l = su at *
  go_enter Tryd.func7, Tryd.ntmps7
  go_upto_region 7 with (first
    | (go_at_call 28; (with_reducible refine S1.out.mono ?_); rintro e z ⟨rfl, rfl⟩)
    | (go_at_call 29; (with_reducible refine S2.out.mono ?_); rintro e z ⟨rfl, rfl⟩)
    | (go_at_call 30; (with_reducible refine (HX.out _).mono ?_); rintro e z ⟨rfl, rfl⟩)
    | (go_at_call 30; (with_reducible refine (HY.out _).mono ?_); rintro e z ⟨rfl, rfl⟩)
    | fail)
  go_upto_if 30 with fail
  go_cut [11, 12] (fun s11 s12 z => s11 = .int .i64 e0 ∧ s12 = .int .i64 want0 ∧ w = z)
  case first =>
    cases x
    · obtain ⟨rfl, rfl⟩ := HM0.out rfl
      go_wp2_with fail
      go_meet
      exact ⟨rfl, rfl, rfl⟩
    · obtain ⟨rfl, h2⟩ := HM1.out rfl
      have RM := Lib.hid (h2 w HV.out)
      clear h2
      go_wp2_with (go_at_call 29; (with_reducible refine RM.out.mono ?_); rintro e z ⟨rfl, rfl⟩)
      go_meet
      exact ⟨rfl, rfl, rfl⟩
  case rest =>
  obtain ⟨rfl, rfl, rfl⟩ := hcut
  clear S1 S2 HM0 HM1 HX HY
  have ER := Lib.hid (err_same e0 w HE.out)
  go_upto_region 14 with (first
    | (go_at_call 31; (with_reducible refine HMO.out.mono ?_); rintro e z ⟨rfl, rfl⟩)
    | (go_at_call 13; (with_reducible refine ER.out.mono ?_); rintro e z1 ⟨rfl, k1⟩; have K1 := Lib.hid k1; clear k1)
    | fail)
  clear ER HMO
  by_cases hA : 20000 < n ∧ n ≤ 1000000
  · obtain ⟨hA1, hA2⟩ := hA
    go_wp2
    go_ret
    exact ⟨rfl, K1.out⟩
  go_cut [55] (fun s55 z => s55 = .bool false ∧ z1 = z)
  case first =>
    by_cases hB : 20000 < n
    · have hC : 1000000 < n := by omega
      go_wp2_with fail
      go_meet
      exact ⟨by simp; try omega, rfl⟩
    · go_wp2_with fail
      go_meet
      exact ⟨by simp; try omega, rfl⟩
  case rest =>
  obtain ⟨rfl, rfl⟩ := hcut
  clear hA
  go_upto_region 18 with fail
  go_cut [67] (fun s67 z => s67 = .bool g ∧ z1 = z)
  case first =>
    have HG2 := HG.out
    cases x
    · have E := Lib.hid (show g = false by rw [HG2]; rfl)
      clear HG2
      go_wp2_with fail
      go_meet
      exact ⟨by rw [E.out], rfl⟩
    · cases y
      · have E := Lib.hid (show g = false by rw [HG2]; rfl)
        clear HG2
        go_wp2_with fail
        go_meet
        exact ⟨by rw [E.out], rfl⟩
      · by_cases h1 : 0 ≤ n
        · by_cases h2 : n ≤ 1000000
          · have E := Lib.hid (show g = true by rw [HG2]; simp [h1, h2])
            clear HG2
            go_wp2_with fail
            go_meet
            exact ⟨by rw [E.out], rfl⟩
          · have E := Lib.hid (show g = false by rw [HG2]; simp [h2])
            clear HG2
            go_wp2_with fail
            go_meet
            exact ⟨by rw [E.out], rfl⟩
        · have E := Lib.hid (show g = false by rw [HG2]; simp [h1])
          clear HG2
          go_wp2_with fail
          go_meet
          exact ⟨by rw [E.out], rfl⟩
  case rest =>
  obtain ⟨rfl, rfl⟩ := hcut
  clear HG
  go_upto_if 67 with fail
  go_cut [11, 12] (fun s11 s12 z => s11 = .int .i64 e1 ∧ s12 = .int .i64 want1 ∧ z1 = z)
  case first =>
    cases g
    · obtain ⟨rfl, rfl⟩ := HJ0.out rfl
      go_wp2_with fail
      go_meet
      exact ⟨rfl, rfl, rfl⟩
    · obtain ⟨rfl, h2⟩ := HJ1.out rfl
      have RM := Lib.hid (h2 z1)
      clear h2
      go_wp2_with (go_at_call 32; (with_reducible refine RM.out.mono ?_); rintro e z ⟨rfl, rfl⟩)
      go_meet
      exact ⟨rfl, rfl, rfl⟩
  case rest =>
  obtain ⟨rfl, rfl, rfl⟩ := hcut
  clear HJ0 HJ1
  have hl0 := HL.out
  go_upto_region 29 with (first
    | (go_at_call 33; (with_reducible refine (HJO.out _).mono ?_); rintro e z2 ⟨rfl, k2⟩; have K2 := Lib.hid (K1.out.trans (k2.mono K1.out.size)); have ER := Lib.hid (err_same e1 z2 (HE.out.below K2.out)); clear k2)
    | (go_at_call 13; (with_reducible refine ER.out.mono ?_); rintro e z3 ⟨rfl, k3⟩; have K3 := Lib.hid (K2.out.trans (k3.mono K2.out.size)); have SE := Lib.hid (seal_any _ l z3 (HV.out.below K3.out) (by omega)); clear k3)
    | (go_at_call 34; (with_reducible refine SE.out.mono ?_); rintro e z4 ⟨v17, rfl, o4, k4⟩; have K4 := Lib.hid (K3.out.trans (k4.mono K3.out.size)); have R17 := Lib.hid o4.reads; have RO := Lib.hid (ropen_any _ l z4 (HV.out.below K4.out)); clear k4 o4)
    | (go_at_call 35; (with_reducible refine RO.out.mono ?_); rintro e z5 ⟨o18, n18, c18, rfl, r18, k5⟩; have K5 := Lib.hid (K4.out.trans (k5.mono K4.out.size)); have R17 := Lib.hid (R17.out.below k5); have R18 := Lib.hid (r18.below k5); have CO := Lib.hid (copen_any _ l z5 (HV.out.below K5.out) (by omega)); clear k5 r18)
    | (go_at_call 36; (with_reducible refine CO.out.mono ?_); rintro e z6 ⟨o19, n19, c19, rfl, r19, k6⟩; have K6 := Lib.hid (K5.out.trans (k6.mono K5.out.size)); have R17 := Lib.hid (R17.out.below k6); have R18 := Lib.hid (R18.out.below k6); have R19 := Lib.hid r19; have ER2 := Lib.hid (err_same (Pl.openFault l) z6 (HE.out.below K6.out)); clear k6 r19)
    | (go_at_call 13; (with_reducible refine ER2.out.mono ?_); rintro e z7 ⟨rfl, k7⟩; have K7 := Lib.hid (K6.out.trans (k7.mono K6.out.size)); have R17 := Lib.hid (R17.out.below k7); have R18 := Lib.hid (R18.out.below k7); have R19 := Lib.hid (R19.out.below k7); clear k7)
    | fail)
  clear HJO SE RO CO ER ER2 K1 K2 K3 K4 K5 K6
  have u17 := conv_bytes (R17.out.drew)
  have u18 := conv_bytes (R18.out.drew)
  have u19 := conv_bytes (R19.out.drew)
  have SE := Lib.hid ((refSeal_any _ l z7.drew ((HV.out.below K7.out).drew) (by omega)).mono (fun e w8 ⟨v9, he, ho, hk⟩ => (show ∃ v9, e = Ending.returned v9 ∧ Hid (Below w.heap.size w w8) ∧ (convert 22 9 v17).run Tryd.prog w8 = Result.ok (Value.string (strB (Pl.sealB l))) w8 ∧ (convert 22 9 v9).run Tryd.prog w8 = Result.ok (Value.string (strB (Pl.sealB l))) w8 ∧ (convert 22 9 (.slice o18 n18 c18)).run Tryd.prog w8 = Result.ok (Value.string (strB (Pl.openL l))) w8 ∧ (convert 22 9 (.slice o19 n19 c19)).run Tryd.prog w8 = Result.ok (Value.string (strB (Pl.openL l))) w8 from
    ⟨v9, he, Lib.hid ((Below.drew K7.out).trans (hk.mono K7.out.size)), conv_bytes (R17.out.drew.below hk), conv_bytes ho.reads, conv_bytes (R18.out.drew.below hk), conv_bytes (R19.out.drew.below hk)⟩)))
  change (convert 22 9 (.slice o18 n18 c18)).run Tryd.prog z7.drew = .ok (.string (strB (Pl.openL l))) z7.drew at u18
  generalize strB (Pl.sealB l) = sA at *
  generalize strB (Pl.openL l) = sB at *
  clear R17 R18 R19 HV HE
  refine wp_region_noPanic ?_
  refine wp_region_held_drew (S := (fun w' : World => (convert 22 9 v17).run Tryd.prog w' = Result.ok (Value.string sA) w' ∧ (convert 22 9 (.slice o18 n18 c18)).run Tryd.prog w' = Result.ok (Value.string sB) w' ∧ (convert 22 9 (.slice o19 n19 c19)).run Tryd.prog w' = Result.ok (Value.string sB) w')) (by kernel_rfl) ⟨u17, u18, u19⟩ (fun hHeld => ?_)
  refine wpAnyH_take (i := 0) (v := ?v0) rfl (by kernel_rfl) (by kernel_rfl) (by kernel_rfl) (fun _ _ _ h => h) (Or.inl ⟨by rfl, ?h0⟩) (by assumption) ?r0
  case h0 =>
    intro w hSw
    try dsimp only at hSw
    first | (go_simp; done) | (go_simp; with_reducible rfl)
  try simp only [Act.put, List.getElem_toArray, List.getElem_cons_zero, List.getElem_cons_succ, List.setIfInBounds_toArray, List.set_cons_zero, List.set_cons_succ]
  refine wpAnyH_take (i := 1) (v := ?v1) rfl (by kernel_rfl) (by kernel_rfl) (by kernel_rfl) (fun _ _ _ h => h) (Or.inl ⟨by rfl, ?h1⟩) (by assumption) ?r1
  case h1 =>
    intro w hSw
    try dsimp only at hSw
    first | (go_simp; done) | (go_simp; with_reducible rfl)
  try simp only [Act.put, List.getElem_toArray, List.getElem_cons_zero, List.getElem_cons_succ, List.setIfInBounds_toArray, List.set_cons_zero, List.set_cons_succ]
  refine wpAnyH_take (i := 2) (v := ?v2) rfl (by kernel_rfl) (by kernel_rfl) (by kernel_rfl) (fun _ _ _ h => h) (Or.inl ⟨by rfl, ?h2⟩) (by assumption) ?r2
  case h2 =>
    intro w hSw
    try dsimp only at hSw
    first | (go_simp; done) | (go_simp; with_reducible rfl)
  try simp only [Act.put, List.getElem_toArray, List.getElem_cons_zero, List.getElem_cons_succ, List.setIfInBounds_toArray, List.set_cons_zero, List.set_cons_succ]
  refine wpAnyH_take (i := 4) (v := ?v4) rfl (by kernel_rfl) (by kernel_rfl) (by kernel_rfl) (fun _ _ _ h => h) (Or.inl ⟨by rfl, ?h4⟩) (by assumption) ?r4
  case h4 =>
    intro w hSw
    try dsimp only at hSw
    first | (go_simp; done) | (go_simp; with_reducible rfl)
  try simp only [Act.put, List.getElem_toArray, List.getElem_cons_zero, List.getElem_cons_succ, List.setIfInBounds_toArray, List.set_cons_zero, List.set_cons_succ]
  refine wpAnyH_take (i := 3) (v := ?v3) rfl (by kernel_rfl) (by kernel_rfl) (by kernel_rfl) (fun _ _ _ h => h) (Or.inl ⟨by rfl, ?h3⟩) (by assumption) ?r3
  case h3 =>
    intro w hSw
    try dsimp only at hSw
    first | (go_simp; done) | (go_simp; with_reducible rfl)
  try simp only [Act.put, List.getElem_toArray, List.getElem_cons_zero, List.getElem_cons_succ, List.setIfInBounds_toArray, List.set_cons_zero, List.set_cons_succ]
  refine wpAnyH_ready (rs := [5]) (by kernel_rfl) (by simp) ?_
  refine AllReadyH.cons rfl (fun K hK => ?_) AllReadyH.nil
  go_simp
  refine SE.out.mono ?_
  rintro e w8 ⟨v9, rfl, K8, x17, x9, x18, x19⟩
  go_wp2_with fail
  refine hK.out _ _ ⟨x17, x18, x19⟩ (fun hHeld => ?_)
  clear hK K
  try simp only [Act.put, List.getElem_toArray, List.getElem_cons_zero, List.getElem_cons_succ, List.setIfInBounds_toArray, List.set_cons_zero, List.set_cons_succ]
  refine wpAnyH_ready (rs := [6]) (by kernel_rfl) (by simp) ?_
  refine AllReadyH.cons rfl (fun K hK => ?_) AllReadyH.nil
  go_simp
  refine hK.out _ _ ⟨x17, x18, x19⟩ (fun hHeld => ?_)
  clear hK K
  try simp only [Act.put, List.getElem_toArray, List.getElem_cons_zero, List.getElem_cons_succ, List.setIfInBounds_toArray, List.set_cons_zero, List.set_cons_succ]
  refine wpAnyH_take (i := 7) (v := ?v7) rfl (by kernel_rfl) (by kernel_rfl) (by kernel_rfl) (fun _ _ _ h => h) (Or.inl ⟨by rfl, ?h7⟩) (by assumption) ?r7
  case h7 =>
    intro w hSw
    try dsimp only at hSw
    first | (go_simp; done) | (go_simp; with_reducible rfl)
  try simp only [Act.put, List.getElem_toArray, List.getElem_cons_zero, List.getElem_cons_succ, List.setIfInBounds_toArray, List.set_cons_zero, List.set_cons_succ]
  refine wpAnyH_take (i := 8) (v := ?v8) rfl (by kernel_rfl) (by kernel_rfl) (by kernel_rfl) (fun _ _ _ h => h) (Or.inl ⟨by rfl, ?h8⟩) (by assumption) ?r8
  case h8 =>
    intro w hSw
    try dsimp only at hSw
    first | (go_simp; done) | (go_simp; with_reducible rfl)
  try simp only [Act.put, List.getElem_toArray, List.getElem_cons_zero, List.getElem_cons_succ, List.setIfInBounds_toArray, List.set_cons_zero, List.set_cons_succ]
  refine wpAnyH_take (i := 9) (v := ?v9) rfl (by kernel_rfl) (by kernel_rfl) (by kernel_rfl) (fun _ _ _ h => h) (Or.inl ⟨by rfl, ?h9⟩) (by assumption) ?r9
  case h9 =>
    intro w hSw
    try dsimp only at hSw
    first | (go_simp; done) | (go_simp; with_reducible rfl)
  try simp only [Act.put, List.getElem_toArray, List.getElem_cons_zero, List.getElem_cons_succ, List.setIfInBounds_toArray, List.set_cons_zero, List.set_cons_succ]
  refine wpAnyH_take (i := 10) (v := ?v10) rfl (by kernel_rfl) (by kernel_rfl) (by kernel_rfl) (fun _ _ _ h => h) (Or.inl ⟨by rfl, ?h10⟩) (by assumption) ?r10
  case h10 =>
    intro w hSw
    try dsimp only at hSw
    first | (go_simp; done) | (go_simp; with_reducible rfl)
  try simp only [Act.put, List.getElem_toArray, List.getElem_cons_zero, List.getElem_cons_succ, List.setIfInBounds_toArray, List.set_cons_zero, List.set_cons_succ]
  refine wpAnyH_take (i := 11) (v := ?v11) rfl (by kernel_rfl) (by kernel_rfl) (by kernel_rfl) (fun _ _ _ h => h) (Or.inl ⟨by rfl, ?h11⟩) (by assumption) ?r11
  case h11 =>
    intro w hSw
    try dsimp only at hSw
    first | (go_simp; done) | (go_simp; with_reducible rfl)
  try simp only [Act.put, List.getElem_toArray, List.getElem_cons_zero, List.getElem_cons_succ, List.setIfInBounds_toArray, List.set_cons_zero, List.set_cons_succ]
  refine wpAnyH_take (i := 12) (v := ?v12) rfl (by kernel_rfl) (by kernel_rfl) (by kernel_rfl) (fun _ _ _ h => h) (Or.inl ⟨by rfl, ?h12⟩) (by assumption) ?r12
  case h12 =>
    intro w hSw
    try dsimp only at hSw
    first | (go_simp; done) | (go_simp; with_reducible rfl)
  try simp only [Act.put, List.getElem_toArray, List.getElem_cons_zero, List.getElem_cons_succ, List.setIfInBounds_toArray, List.set_cons_zero, List.set_cons_succ]
  refine wpAnyH_take (i := 13) (v := ?v13) rfl (by kernel_rfl) (by kernel_rfl) (by kernel_rfl) (fun _ _ _ h => h) (Or.inl ⟨by rfl, ?h13⟩) (by assumption) ?r13
  case h13 =>
    intro w hSw
    try dsimp only at hSw
    first | (go_simp; done) | (go_simp; with_reducible rfl)
  try simp only [Act.put, List.getElem_toArray, List.getElem_cons_zero, List.getElem_cons_succ, List.setIfInBounds_toArray, List.set_cons_zero, List.set_cons_succ]
  refine wpAnyH_take (i := 14) (v := ?v14) rfl (by kernel_rfl) (by kernel_rfl) (by kernel_rfl) (fun _ _ _ h => h) (Or.inl ⟨by rfl, ?h14⟩) (by assumption) ?r14
  case h14 =>
    intro w hSw
    try dsimp only at hSw
    first | (go_simp; done) | (go_simp; with_reducible rfl)
  try simp only [Act.put, List.getElem_toArray, List.getElem_cons_zero, List.getElem_cons_succ, List.setIfInBounds_toArray, List.set_cons_zero, List.set_cons_succ]
  refine wpAnyH_take (i := 15) (v := ?v15) rfl (by kernel_rfl) (by kernel_rfl) (by kernel_rfl) (fun _ _ _ h => h) (Or.inl ⟨by rfl, ?h15⟩) (by assumption) ?r15
  case h15 =>
    intro w hSw
    try dsimp only at hSw
    first | (go_simp; done) | (go_simp; with_reducible rfl)
  try simp only [Act.put, List.getElem_toArray, List.getElem_cons_zero, List.getElem_cons_succ, List.setIfInBounds_toArray, List.set_cons_zero, List.set_cons_succ]
  refine wpAnyH_take (i := 16) (v := ?v16) rfl (by kernel_rfl) (by kernel_rfl) (by kernel_rfl) (fun _ _ _ h => h) (Or.inl ⟨by rfl, ?h16⟩) (by assumption) ?r16
  case h16 =>
    intro w hSw
    try dsimp only at hSw
    first | (go_simp; done) | (go_simp; with_reducible rfl)
  try simp only [Act.put, List.getElem_toArray, List.getElem_cons_zero, List.getElem_cons_succ, List.setIfInBounds_toArray, List.set_cons_zero, List.set_cons_succ]
  refine wpAnyH_done (by kernel_rfl) ?_ _
  refine NoPanic.normal ?_
  go_wp2
  go_ret
  exact ⟨by simp, K8.out⟩
theorem word_of (a : Int) (h : 0 ≤ a ∧ a ≤ 4294967295) : a = ((BitVec.ofNat 32 a.toNat).toNat : Int) := by
  rw [BitVec.toNat_ofNat, Nat.mod_eq_of_lt (by omega)]; omega
theorem part_more (sum : Int) (v : Value) (l : List UInt8) (x : Bool) (hx : x = decide (0 ≤ sum ∧ sum ≤ 4294967295)) :
    ∃ e0 want0 : Int, (x = false → e0 = 1 ∧ want0 = 0) ∧ (x = true → e0 = 0 ∧ ∀ (z : World), IsBytes z v l → Calls Tryd.prog 29 #[.int .i64 sum, v] z fun e w' => e = .returned (.int .i64 want0) ∧ z = w') ∧
      (∀ (z : World), IsBytes z v l → Calls Tryd.prog 31 #[.int .i64 sum, v] z fun e w' => e = .returned (.tuple #[.int .i64 want0, errV e0]) ∧ z = w') := by
  by_cases h : 0 ≤ sum ∧ sum ≤ 4294967295
  · rw [decide_eq_true h] at hx
    subst hx
    have e := word_of sum h
    generalize BitVec.ofNat 32 sum.toNat = s at e
    subst e
    exact ⟨0, Pl.moreI s l, (fun h => by cases h), fun _ => ⟨rfl, fun z hz => refMore_any s v l z hz⟩, fun z hz => more_any s v l z hz⟩
  · rw [decide_eq_false h] at hx
    subst hx
    exact ⟨1, 0, fun _ => ⟨rfl, rfl⟩, (fun h => by cases h), fun z hz => more_bad sum h v z⟩
theorem part_join (sum a n : Int) (g : Bool) (hg : g = (decide (0 ≤ sum ∧ sum ≤ 4294967295) && (decide (0 ≤ a ∧ a ≤ 4294967295) && (decide (0 ≤ n) && decide (n ≤ 1000000))))) :
    ∃ e1 want1 : Int, (g = false → e1 = 1 ∧ want1 = 0) ∧ (g = true → e1 = 0 ∧ ∀ (z : World), Calls Tryd.prog 32 #[.int .i64 sum, .int .i64 a, .int .i64 n] z fun e w' => e = .returned (.int .i64 want1) ∧ z = w') ∧
      (∀ (z : World), Calls Tryd.prog 33 #[.int .i64 sum, .int .i64 a, .int .i64 n] z fun e w' => e = .returned (.tuple #[.int .i64 want1, errV e1]) ∧ Below z.heap.size z w') := by
  by_cases h : (0 ≤ sum ∧ sum ≤ 4294967295) ∧ (0 ≤ a ∧ a ≤ 4294967295) ∧ 0 ≤ n ∧ n ≤ 1000000
  · obtain ⟨h1, h2, h3, h4⟩ := h
    rw [decide_eq_true h1, decide_eq_true h2, decide_eq_true h3, decide_eq_true h4] at hg
    have hg' : g = true := hg
    subst hg'
    have e1 := word_of sum h1
    have e2 := word_of a h2
    generalize BitVec.ofNat 32 sum.toNat = s at e1
    generalize BitVec.ofNat 32 a.toNat = t at e2
    subst e1 e2
    obtain ⟨k, rfl⟩ := Int.eq_ofNat_of_zero_le h3
    exact ⟨0, ((Pl.joinB s t k).toNat : Int), (fun h => by cases h), fun _ => ⟨rfl, fun z => refJoin_any s t k (by omega) z⟩, fun z => join_ok s t k (by omega) z⟩
  · have hg' : g = false := by
      rw [hg]
      cases hq : (decide (0 ≤ sum ∧ sum ≤ 4294967295) && (decide (0 ≤ a ∧ a ≤ 4294967295) && (decide (0 ≤ n) && decide (n ≤ 1000000))))
      · rfl
      · exfalso
        simp only [Bool.and_eq_true, decide_eq_true_eq] at hq
        exact h hq
    subst hg'
    exact ⟨1, 0, fun _ => ⟨rfl, rfl⟩, (fun h => by cases h), fun z => (join_bad sum a n h z).mono fun e w' ⟨q1, q2⟩ => ⟨q1, by rw [← q2]; exact Below.refl _ _⟩⟩
theorem walk_CrcSums (w : World) (v0 : Value) (l0 : List UInt8) (o0 : IsBytes w v0 l0) (a1 : Int) (w1 : (Lit.int .i64 a1).wf = true) (a2 : Int) (w2 : (Lit.int .i64 a2).wf = true) (a3 : Int) (w3 : (Lit.int .i64 a3).wf = true) (hE : Env w) (h0 : l0.length ≤ 1048576) :
    Calls Tryd.prog 7 #[v0, .int .i64 a1, .int .i64 a2, .int .i64 a3] w fun e w' => e = .returned (.bool true) ∧ Below w.heap.size w w' := by
  obtain ⟨oa, c, rfl, _⟩ := bytes_slice o0
  obtain ⟨e0, want0, p1, p2, p3⟩ := part_more a1 (.slice oa l0.length c) l0 _ rfl
  obtain ⟨e1, want1, q1, q2, q3⟩ := part_join a1 a2 a3 _ rfl
  exact walk_CrcSums_run w oa c l0 o0 a1 a2 a3 hE h0 _ _ e0 want0 e1 want1 (fun z => refWord_any a1 z) (fun z => refWord_any a2 z) p1 p2 p3 _ rfl q1 q2 q3
end Go.Proofs.YticihmkgdabgiaaDoor
