import Derived.Test.YthgdkakkbaoccaaDoorRefPullC
/-! The reference's Pull: Ask. -/
namespace Go.Proofs.YthgdkakkbaoccaaDoor
open Go.RowKit
set_option linter.unusedVariables false
set_option linter.unusedSimpArgs false
theorem r1Time_any (n : Int) (w : World) : Calls Tryd.prog 78 #[.int .i64 n] w fun e w' => e = .returned (.bool (decide (0 ≤ n) && decide (n ≤ 1000000))) ∧ w = w' := by
  go_enter Tryd.func78, Tryd.ntmps78
  go_wp2
  all_goals
    go_ret
    exact ⟨ret_bool (by simp <;> omega), rfl⟩
set_option maxRecDepth 100000 in
set_option maxHeartbeats 2000000 in
theorem rPullAsk_bad (b : Nat) (n now : Int) (hn : ¬ ((1 ≤ n ∧ n ≤ 8) ∧ 0 ≤ now ∧ now ≤ 1000000)) (w : World) :
    Calls Tryd.prog 49 #[.pointer (some ⟨b, 0, none⟩), .int .i64 n, .int .i64 now] w fun e w' => e = .returned (.tuple #[.bool false, .int .i64 1]) ∧ w = w' := by
  have R := Lib.hid (fun y => rTrack_any n y)
  have T := Lib.hid (fun y => r1Time_any now y)
  obtain ⟨B1, h1⟩ : ∃ B1, (decide (1 ≤ n) && decide (n ≤ 8)) = B1 := ⟨_, rfl⟩
  obtain ⟨B2, h2⟩ : ∃ B2, (decide (0 ≤ now) && decide (now ≤ 1000000)) = B2 := ⟨_, rfl⟩
  rw [h1] at R
  rw [h2] at T
  have hB : B1 = false ∨ (B1 = true ∧ B2 = false) := by
    cases B1
    · exact .inl rfl
    · cases B2
      · exact .inr ⟨rfl, rfl⟩
      · exfalso; simp at h1 h2; omega
  clear h1 h2 hn
  rcases hB with rfl | ⟨rfl, rfl⟩
  all_goals
    go_enter Tryd.func49, Tryd.ntmps49
    go_wp2_with (first
      | (go_at_call 76; refine (R.out _).mono ?_; rintro e w' ⟨rfl, rfl⟩)
      | (go_at_call 78; refine (T.out _).mono ?_; rintro e w' ⟨rfl, rfl⟩))
    all_goals
      go_ret2
      exact ⟨rfl, rfl⟩
set_option maxRecDepth 100000 in
set_option maxHeartbeats 2000000 in
theorem rPullAsk_back (M b : Nat) (cur th : Int) (v : Value) (L : List Wt) (told asked : Nat → Int) (t now : Int) (ht : 1 ≤ t ∧ t ≤ 8) (h0 : 0 ≤ now ∧ now ≤ 1000000) (hn : now < cur) (w : World) (h : RPul M w b cur th v L told asked) :
    Calls Tryd.prog 49 #[.pointer (some ⟨b, 0, none⟩), .int .i64 t, .int .i64 now] w fun e w' => e = .returned (.tuple #[.bool false, .int .i64 6]) ∧ w = w' := by
  have R := Lib.hid (fun y => rTrack_any t y)
  have T := Lib.hid (fun y => r1Time_any now y)
  have e1 : (decide (1 ≤ t) && decide (t ≤ 8)) = true := by simp [ht.1, ht.2]
  have e2 : (decide (0 ≤ now) && decide (now ≤ 1000000)) = true := by simp [h0.1, h0.2]
  have c1 := h.at_.now_
  clear h ht h0
  go_enter Tryd.func49, Tryd.ntmps49
  go_wp2_with (first
    | (go_at_call 76; refine (R.out _).mono ?_; rw [e1]; rintro e w' ⟨rfl, rfl⟩)
    | (go_at_call 78; refine (T.out _).mono ?_; rw [e2]; rintro e w' ⟨rfl, rfl⟩))
  go_ret2
  exact ⟨rfl, rfl⟩
set_option maxRecDepth 100000 in
set_option maxHeartbeats 2000000 in
theorem rPullAsk_none (M b : Nat) (cur th : Int) (v : Value) (L : List Wt) (told asked : Nat → Int) (t now : Int) (ht : 1 ≤ t ∧ t ≤ 8) (hn : Pl.clockOk cur now) (hL : L.length ≤ 100000) (hl : ∀ x ∈ L, 0 ≤ x.lay) (hN : ∀ n, NeedL L t n → n = -1) (w : World) (h : RPul M w b cur th v L told asked) :
    Calls Tryd.prog 49 #[.pointer (some ⟨b, 0, none⟩), .int .i64 t, .int .i64 now] w fun e w' => e = .returned (.tuple #[.bool false, .int .i64 5]) ∧ w = w' := by
  have R := Lib.hid (fun y => rTrack_any t y)
  have T := Lib.hid (fun y => r1Time_any now y)
  have NE := Lib.hid (rPullNeed_any M b cur th v L told asked t (by omega) hl w h)
  have HNN := Lib.hid hN
  unfold Pl.clockOk at hn
  obtain ⟨h0, h1, h2⟩ := hn
  have e1 : (decide (1 ≤ t) && decide (t ≤ 8)) = true := by simp [ht.1, ht.2]
  have e2 : (decide (0 ≤ now) && decide (now ≤ 1000000)) = true := by simp [h0, h1]
  have c1 := h.at_.now_
  clear h ht hN hl
  go_enter Tryd.func49, Tryd.ntmps49
  go_wp2_with (first
    | (go_at_call 76; refine (R.out _).mono ?_; rw [e1]; rintro e w' ⟨rfl, rfl⟩)
    | (go_at_call 78; refine (T.out _).mono ?_; rw [e2]; rintro e w' ⟨rfl, rfl⟩)
    | (go_at_call 51; refine NE.out.mono ?_; rintro e w2 ⟨n, rfl, hn, rfl⟩; obtain rfl := HNN.out n hn; clear hn))
  go_ret2
  exact ⟨rfl, rfl⟩
set_option maxRecDepth 100000 in
set_option maxHeartbeats 4000000 in
theorem rPullAsk_ok (M b : Nat) (cur th : Int) (v : Value) (L : List Wt) (told asked : Nat → Int) (t : Nat) (now : Int) (ht : 1 ≤ t ∧ t ≤ 8) (hn : Pl.clockOk cur now) (hL : L.length ≤ 100000) (hl : ∀ x ∈ L, 0 ≤ x.lay) (hN : ∀ n, NeedL L t n → 0 ≤ n) (ha : 0 ≤ asked t ∧ asked t ≤ 1000001) (w : World) (h : RPul M w b cur th v L told asked) :
    Calls Tryd.prog 49 #[.pointer (some ⟨b, 0, none⟩), .int .i64 t, .int .i64 now] w fun e w' => e = .returned (.tuple #[.bool (Pl.askDue (asked t) th now), .int .i64 0]) ∧ RPul M w' b now th v L told (askN asked t th now) ∧ RFP b v w w' := by
  have R := Lib.hid (fun y => rTrack_any t y)
  have T := Lib.hid (fun y => r1Time_any now y)
  have NE := Lib.hid (rPullNeed_any M b cur th v L told asked t (by omega) hl w h)
  have HNN := Lib.hid hN
  unfold Pl.clockOk at hn
  obtain ⟨h0, h1, h2⟩ := hn
  obtain ⟨t1, t2⟩ := ht
  have ht9 : t < 9 := by omega
  have e1 : (decide (1 ≤ (t : Int)) && decide ((t : Int) ≤ 8)) = true := by simp; omega
  have e2 : (decide (0 ≤ now) && decide (now ≤ 1000000)) = true := by simp [h0, h1]
  have c1 := h.at_.now_
  have f1 := obj_free h.at_ 1
  have H2 := Lib.hid (h.set (h.at_.setNow now))
  have K2 : Hid (RFP b v w (w.setCell ⟨b, 1, none⟩ (.int .i64 now))) := Lib.hid (Keeps.setCell (Keeps.refl _ _) (.inl (.inl rfl)) _)
  clear h hN hl
  go_enter Tryd.func49, Tryd.ntmps49
  go_upto_region 10 with (first
    | (go_at_call 76; refine (R.out _).mono ?_; rw [e1]; rintro e w' ⟨rfl, rfl⟩)
    | (go_at_call 78; refine (T.out _).mono ?_; rw [e2]; rintro e w' ⟨rfl, rfl⟩)
    | (go_at_call 51; refine NE.out.mono ?_; rintro e w2 ⟨n, rfl, hn, rfl⟩; have hnn := HNN.out n hn; clear hn))
  refine abs_to (fun y => Hid (RPul M y b now th v L told asked) ∧ Hid (RFP b v w y)) ⟨H2, K2⟩ ?_
  clear H2 K2 c1 f1 NE
  rintro y ⟨h, kk⟩
  have c0 := h.out.at_.th_
  have ca := h.out.at_.asked_ t ht9
  have fa := obj_free h.out.at_ (12 + t)
  have W1 : IntKind.i64.wrap (now - asked t) = now - asked t := by rw [IntKind.wrap_i64]; omega
  have W2 : IntKind.i64.wrap (now - asked t + 1) = now - asked t + 1 := by rw [IntKind.wrap_i64]; omega
  have W3 : IntKind.i64.wrap (now + 1) = now + 1 := by rw [IntKind.wrap_i64]; omega
  by_cases d0 : 0 < asked t
  · by_cases d1 : now - asked t + 1 < th
    · have hd := Lib.hid (show Pl.askDue (asked t) th now = false by simp [Pl.askDue, d0]; omega)
      go_quiet (fail)
      go_wp2
      go_ret2
      rw [askN_no hd.out, hd.out]
      exact ⟨rfl, ⟨by exact h.out.at_, by exact h.out.row, h.out.low⟩, Keeps.trans kk.out ⟨rfl, rfl, rfl, Nat.le_refl _, fun _ _ _ => rfl⟩⟩
    · have hd := Lib.hid (show Pl.askDue (asked t) th now = true by simp [Pl.askDue]; omega)
      have d2 : decide (now - asked t + 1 < th) = false := by simpa using d1
      go_quiet (fail)
      go_upto_region 12 with fail
      refine abs_to (fun z => Hid (RPul M z b now th v L told asked) ∧ Hid (RFP b v w z)) ⟨Lib.hid ⟨by exact h.out.at_, by exact h.out.row, h.out.low⟩, Lib.hid (Keeps.trans kk.out ⟨rfl, rfl, rfl, Nat.le_refl _, fun _ _ _ => rfl⟩)⟩ ?_
      clear h kk c0 ca fa
      rintro z ⟨h, kk⟩
      have ca := h.out.at_.asked_ t ht9
      have fa := obj_free h.out.at_ (12 + t)
      go_wp2
      go_ret2
      rw [askN_yes hd.out, hd.out]
      exact ⟨rfl, h.out.set (h.out.at_.setAsked t ht9 _), Keeps.setCell kk.out (.inl (.inl rfl)) _⟩
  · have hd := Lib.hid (show Pl.askDue (asked t) th now = true by simp [Pl.askDue]; omega)
    have d2 : decide (0 < asked t) = false := by simpa using d0
    go_quiet (fail)
    go_upto_region 12 with fail
    refine abs_to (fun z => Hid (RPul M z b now th v L told asked) ∧ Hid (RFP b v w z)) ⟨Lib.hid ⟨by exact h.out.at_, by exact h.out.row, h.out.low⟩, Lib.hid (Keeps.trans kk.out ⟨rfl, rfl, rfl, Nat.le_refl _, fun _ _ _ => rfl⟩)⟩ ?_
    clear h kk c0 ca fa
    rintro z ⟨h, kk⟩
    have ca := h.out.at_.asked_ t ht9
    have fa := obj_free h.out.at_ (12 + t)
    go_wp2
    go_ret2
    rw [askN_yes hd.out, hd.out]
    exact ⟨rfl, h.out.set (h.out.at_.setAsked t ht9 _), Keeps.setCell kk.out (.inl (.inl rfl)) _⟩
end Go.Proofs.YthgdkakkbaoccaaDoor
