import Derived.Test.YthgdkakkbaoccaaDoorRefPullW
/-! The reference's Pull: Drop, Who. -/
namespace Go.Proofs.YthgdkakkbaoccaaDoor
open Go.RowKit
set_option linter.unusedVariables false
set_option linter.unusedSimpArgs false
set_option maxRecDepth 100000 in
set_option maxHeartbeats 2000000 in
theorem rPullDrop_bad (b : Nat) (who n : Int) (h : ¬ Pl.rightOk who n) (w : World) :
    Calls Tryd.prog 46 #[.pointer (some ⟨b, 0, none⟩), .int .i64 who, .int .i64 n] w fun e w' => e = .returned (.int .i64 1) ∧ w = w' := by
  have H := Lib.hid h
  have R := Lib.hid (fun y => rTrack_any n y)
  clear h
  by_cases hn : 1 ≤ n ∧ n ≤ 8
  · obtain ⟨n1, n2⟩ := hn
    have e1 : (decide (1 ≤ n) && decide (n ≤ 8)) = true := by simp [n1, n2]
    go_enter Tryd.func46, Tryd.ntmps46
    go_wp2_with (go_at_call 76; refine (R.out _).mono ?_; rw [e1]; rintro e w' ⟨rfl, rfl⟩)
    all_goals first
      | (exfalso; have := H.out; unfold Pl.rightOk at this; omega)
      | (go_ret; exact ⟨rfl, rfl⟩)
  · have e1 : (decide (1 ≤ n) && decide (n ≤ 8)) = false := by simp; omega
    clear hn
    go_enter Tryd.func46, Tryd.ntmps46
    go_wp2_with (go_at_call 76; refine (R.out _).mono ?_; rw [e1]; rintro e w' ⟨rfl, rfl⟩)
    all_goals (go_ret; exact ⟨rfl, rfl⟩)
/-- the list with one less; whether there was one -/
def DropL (L L' : List Wt) (who t e : Int) : Prop := (e = 5 ∧ L' = L ∧ ∀ x ∈ L, isWt who t x = false) ∨ (e = 0 ∧ ∃ (k : Nat) (h : k < L.length), isWt who t L[k] = true ∧ L' = L.take k ++ L.drop (k + 1))
theorem DropL.len {L L' : List Wt} {who t e : Int} (h : DropL L L' who t e) : L'.length ≤ L.length := by
  rcases h with ⟨_, rfl, _⟩ | ⟨_, k, hk, _, rfl⟩
  · exact Nat.le_refl _
  · simp; omega
set_option maxRecDepth 100000 in
set_option maxHeartbeats 1000000 in
theorem rPullDrop_ok (M b : Nat) (now th : Int) (v : Value) (L : List Wt) (told asked : Nat → Int) (who : Int) (t : Int) (hr : Pl.rightOk who t) (hL : L.length ≤ 100000) (w : World) (hM : M ≤ w.heap.size) (h : RPul M w b now th v L told asked) :
    Calls Tryd.prog 46 #[.pointer (some ⟨b, 0, none⟩), .int .i64 who, .int .i64 t] w fun e w' => ∃ (f : Int) (v' : Value) (L' : List Wt), e = .returned (.int .i64 f) ∧ DropL L L' who t f ∧ RPul M w' b now th v' L' told asked ∧ RFP b v w w' := by
  have R := Lib.hid (fun y => rTrack_any t y)
  obtain ⟨r0, r1, r2, r3⟩ := hr
  have e1 : (decide (1 ≤ t) && decide (t ≤ 8)) = true := by simp [r2, r3]
  have A1 := Lib.hid (rPullAt_any M b now th v L told asked who t (by omega) w h)
  have H := Lib.hid h
  clear h
  go_enter Tryd.func46, Tryd.ntmps46
  go_upto_region 5 with (first
    | (go_at_call 76; refine (R.out _).mono ?_; rw [e1]; rintro e w' ⟨rfl, rfl⟩)
    | (go_at_call 77; refine A1.out.mono ?_; rintro e w' ⟨k, rfl, hk, rfl⟩; have HK := Lib.hid hk; clear hk))
  rcases HK.out with ⟨rfl, hno⟩ | ⟨j, rfl, hj, hj1⟩
  · have HNO := Lib.hid hno
    clear hno HK
    go_wp2_with fail
    go_ret
    exact ⟨5, v, L, rfl, .inl ⟨rfl, rfl, HNO.out⟩, H.out, Keeps.refl _ _⟩
  · obtain ⟨g, c1, hv⟩ := Joins.ownsRow_form H.out.row (by omega)
    subst hv
    have HX := Lib.hid hj1
    have k2 := H.out.at_.row_
    have hcap : L.length ≤ c1 := by
      rcases H.out.row.2 with ⟨h0, _⟩ | ⟨g', cap, cur, h0, _, _, hc, _⟩
      · cases h0
      · cases h0; exact hc
    have RUN1 := Lib.hid (RecK.run_more wantK_ok w M (.slice none 0 0) [] (L.take j) (RecK.Own.nil _ _) ⟨g, 0, none⟩ c1 (fun i u hu => by
      have hc := H.out.row.cells (g := g) rfl
      refine hc i u ?_
      rw [show wcells L = wantK.all L from rfl]
      conv => lhs; rw [← List.take_append_drop j L]
      rw [RecK.all_app, List.getElem?_append_left (List.getElem?_eq_some_iff.1 hu).1]; exact hu) (by simp; omega) hM)
    rw [show (L.take j).length = j by simp; omega] at RUN1
    clear hj1 HK
    go_upto_region 8 with fail
    go_upto_region 9 with (at_builtin; obtain ⟨vN, wN, hr, ho, hgr, hbk⟩ := RUN1.out; refine Lib.wpList_append_run _ rfl (.tmp 28) (.tmp 34) 85 85 rfl _ _ rfl rfl _ _ hr ?_)
    have hsz : w.heap.size ≤ wN.heap.size := hgr.size
    have kN : Keeps (fun k => k = b ∨ (Value.slice (some ⟨g, 0, none⟩) L.length c1).ownBlock = some k) w wN := ⟨hgr.os, hgr.tape, hgr.output, hgr.size, fun k hk _ => hgr.block k hk (by simp [Value.ownBlock])⟩
    have HN := Lib.hid (show RPul M wN b now th (.slice (some ⟨g, 0, none⟩) L.length c1) L told asked from ⟨by
        have e := hgr.block b (lt_of_block H.out.at_) (by simp [Value.ownBlock])
        have a := H.out.at_
        unfold RPullAt at *
        rw [e]; exact a, World.ownsRow.kept H.out.row hgr (.inr (by simp [Value.ownBlock])), H.out.low⟩)
    have HO := Lib.hid ho
    have HB := Lib.hid (show vN.ownBlock ≠ some g from fun e => by
      rcases hbk with h | h
      · rw [h] at e; simp [Value.ownBlock] at e
      · rw [h] at e; have := (H.out.row.lt g rfl).2; simp at e; omega)
    have KN := Lib.hid kN
    have k2 := HN.out.at_.row_
    have W1 : IntKind.i64.wrap ((j : Int) + 1) = ((j + 1 : Nat) : Int) := by rw [IntKind.wrap_i64]; omega
    have HV := Lib.hid (show ∀ k, k < w.heap.size → some k ≠ vN.ownBlock from fun k hk e => by
      rcases hbk with h | h
      · rw [h] at e; simp [Value.ownBlock] at e
      · rw [h] at e; simp at e; omega)
    have RUN2 := Lib.hid (RecK.run_more wantK_ok wN M vN (L.take j) (L.drop (j + 1)) HO.out ⟨g, (j + 1) * 3, none⟩ (c1 - (j + 1)) (fun i u hu => by
      have hc := HN.out.row.cells (g := g) rfl
      have e1 : (wantK.all (L.take (j + 1))).length = (j + 1) * 3 := by rw [wantK.all_len wantK_ok, List.length_take, Nat.min_eq_left (by omega)]; rfl
      have := hc ((j + 1) * 3 + i) u (by
        rw [show wcells L = wantK.all L from rfl]
        conv => lhs; rw [← List.take_append_drop (j + 1) L]
        rw [RecK.all_app, List.getElem?_append_right (by omega), e1, Nat.add_sub_cancel_left]; exact hu)
      rw [Addr.add_lit, Nat.zero_add] at this
      rw [Addr.add_lit]
      exact this) (by simp; omega) (Nat.le_trans hM hsz))
    rw [show (L.drop (j + 1)).length = L.length - (j + 1) by simp] at RUN2
    have RUN3 := Lib.hid (fun (e : c1 = j + 1) => RecK.run_more wantK_ok wN M vN (L.take j) (L.drop (j + 1)) HO.out ⟨g, 0, none⟩ 0 (fun i u hu => by
      rw [List.drop_eq_nil_of_le (by omega)] at hu
      simp [RecK.all_nil] at hu) (by simp; omega) (Nat.le_trans hM hsz))
    rw [show (L.drop (j + 1)).length = L.length - (j + 1) by simp] at RUN3
    have HR := Lib.hid (show ∀ w9, wN.grownBy w9 vN.ownBlock → RPullAt w9 b now th (.slice (some ⟨g, 0, none⟩) L.length c1) told asked from fun w9 k => by
      have e := k.block b (lt_of_block HN.out.at_) (fun e => wrow_ne (L := L.take j) HO.out HN.out.at_ e.symm)
      have a := HN.out.at_
      unfold RPullAt at *
      rw [e]; exact a)
    have HKF := Lib.hid (show ∀ w9, wN.grownBy w9 vN.ownBlock → RFP b (.slice (some ⟨g, 0, none⟩) L.length c1) w w9 from fun w9 k =>
      ⟨k.os.trans KN.out.os, k.tape.trans KN.out.tape, k.output.trans KN.out.output, Nat.le_trans KN.out.size k.size, fun i hi hne => (k.block i (Nat.lt_of_lt_of_le hi KN.out.size) (HV.out i hi)).trans (KN.out.block i hi hne)⟩)
    clear hr ho hgr hbk kN RUN1
    by_cases hc1 : c1 = j + 1
    · have hl0 : L.length - (j + 1) = 0 := by omega
      have RUN5 := Lib.hid (RUN3.out hc1)
      rw [hl0] at RUN5
      clear RUN3 RUN2
      subst hc1
      obtain ⟨v9, w9, hr, ho, hgr, hbk⟩ := RUN5.out
      have a9 := HR.out w9 hgr
      have k9 := a9.row_
      have f9 := obj_free a9 2
      have A9 := Lib.hid a9
      have HO9 := Lib.hid ho
      have HF9 : Hid (RFP b (.slice (some ⟨g, 0, none⟩) L.length _) w (w9.setCell ⟨b, 2, none⟩ v9)) := Lib.hid (Keeps.setCell (HKF.out w9 hgr) (.inl (.inl rfl)) _)
      have HRN := Lib.hid hr
      have PT := Lib.hid (RPul.put a9 H.out.low ho)
      obtain ⟨L', hL'⟩ : ∃ L', L.take j ++ L.drop (j + 1) = L' := ⟨_, rfl⟩
      rw [hL'] at ho PT HO9
      have HL' := Lib.hid hL'
      clear hL'
      rcases Joins.ownsRow_forms ho with ⟨rfl, -⟩ | ⟨g9, cap9, rfl⟩
      all_goals
        clear a9 hr ho hgr hbk RUN5 HR HKF HV HB HO KN
        go_upto_region 10 with (at_builtin; refine Lib.wpList_append_run _ rfl (.tmp 37) (.tmp 44) 85 85 rfl _ _ rfl rfl _ _ HRN.out ?_)
        clear k9 f9 k2
        go_wp2_with fail
        go_ret
        exact ⟨0, _, _, rfl, .inr ⟨rfl, j, hj, HX.out, HL'.out.symm⟩, PT.out, HF9.out⟩
    · clear RUN3
      obtain ⟨v9, w9, hr, ho, hgr, hbk⟩ := RUN2.out
      have a9 := HR.out w9 hgr
      have k9 := a9.row_
      have f9 := obj_free a9 2
      have A9 := Lib.hid a9
      have HO9 := Lib.hid ho
      have HF9 : Hid (RFP b (.slice (some ⟨g, 0, none⟩) L.length _) w (w9.setCell ⟨b, 2, none⟩ v9)) := Lib.hid (Keeps.setCell (HKF.out w9 hgr) (.inl (.inl rfl)) _)
      have HRN := Lib.hid hr
      have PT := Lib.hid (RPul.put a9 H.out.low ho)
      obtain ⟨L', hL'⟩ : ∃ L', L.take j ++ L.drop (j + 1) = L' := ⟨_, rfl⟩
      rw [hL'] at ho PT HO9
      have HL' := Lib.hid hL'
      clear hL'
      rcases Joins.ownsRow_forms ho with ⟨rfl, -⟩ | ⟨g9, cap9, rfl⟩
      all_goals
        clear a9 hr ho hgr hbk RUN2 HR HKF HV HB HO KN
        go_upto_region 10 with (at_builtin; refine Lib.wpList_append_run _ rfl (.tmp 37) (.tmp 44) 85 85 rfl _ _ rfl rfl _ _ HRN.out ?_)
        clear k9 f9 k2
        go_wp2_with fail
        go_ret
        exact ⟨0, _, _, rfl, .inr ⟨rfl, j, hj, HX.out, HL'.out.symm⟩, PT.out, HF9.out⟩
set_option maxRecDepth 100000 in
set_option maxHeartbeats 4000000 in
theorem rPullWho_any (M b : Nat) (now th : Int) (v : Value) (L : List Wt) (told asked : Nat → Int) (t : Int) (hL : L.length ≤ 100000) (w : World) (h : RPul M w b now th v L told asked) :
    Calls Tryd.prog 50 #[.pointer (some ⟨b, 0, none⟩), .int .i64 t] w fun e w' => ∃ (v' : Value) (S : List Int), e = .returned v' ∧ Rises S ∧ (∀ i, i ∈ S ↔ i ∈ (L.filter (fun x => decide (x.track = t))).map Wt.who) ∧ w'.ownsRow w.heap.size 3 1 v' S.length (S.map encI) ∧ Below w.heap.size w w' := by
  obtain ⟨o1, c1, rfl, g1⟩ := wantRow_read h.row
  have H := Lib.hid h
  clear g1 h
  go_enter Tryd.func50, Tryd.ntmps50
  go_wp2_with fail
  go_loopw [5, 6] (fun s5 s6 wr => ∃ (k : Nat) (A : List Int), k ≤ L.length ∧ A.length ≤ k ∧ s6 = .int .i64 k ∧ Hid (A = ((L.take k).filter (fun x => decide (x.track = t))).map Wt.who) ∧ Hid (wr.ownsRow w.heap.size 3 1 s5 A.length (A.map encI)) ∧ Hid (Below w.heap.size w wr)) (fun _ s6 _ => L.length - (RowKit.intOf s6).toNat)
  case atStart => exact ⟨0, [], by omega, by simp, rfl, Lib.hid (by simp), Lib.hid (World.ownsRow_nil _ _ _ _), Lib.hid (Below.refl _ _)⟩
  case round =>
    obtain ⟨k, A, hk, hA, rfl, HA, ro, kb⟩ := hrel
    have hW := H.out.below kb.out
    have k2 := hW.at_.row_
    by_cases hlt : k < L.length
    · obtain ⟨o1', c1', e', hrd⟩ := wantRow_read hW.row
      cases e'
      obtain ⟨g, rfl, _, hgl, q0, q1, q2⟩ := hrd k L[k] (by simp [hlt])
      have HT := Lib.hid (take_one L k hlt)
      clear hrd hW
      generalize L[k] = x at *
      obtain ⟨a0, a1, a2⟩ := x
      dsimp only at q0 q1 q2
      cases d1 : (a1 == t)
      · have HA2 := Lib.hid (show A = ((L.take (k + 1)).filter (fun x => decide (x.track = t))).map Wt.who from by
          rw [HT.out, List.filter_append, List.map_append, ← HA.out]; simp at d1; simp [d1])
        go_wp2_with fail
        go_roundw
        case measure => simp [RowKit.intOf]; omega
        case rel => exact ⟨k + 1, A, by omega, by omega, rfl, HA2, ro, kb⟩
      · have HA2 := Lib.hid (show A ++ [a0] = ((L.take (k + 1)).filter (fun x => decide (x.track = t))).map Wt.who from by
          rw [HT.out, List.filter_append, List.map_append, ← HA.out]; simp at d1; simp [d1])
        have roA : Hid ((wr.alloc (.cells #[.int .i64 a0] 3)).ownsRow w.heap.size 3 1 u5 A.length (A.map encI)) := Lib.hid (ro.out.alloc _)
        have kA : Hid (Below w.heap.size w (wr.alloc (.cells #[.int .i64 a0] 3))) := Lib.hid (kb.out.alloc kb.out.size _)
        have RUN := Lib.hid (run_moreInt2 _ w.heap.size u5 a0 A.length (A.map encI) roA.out wr.heap.size (obj_new _ _) (by omega) (by have := kb.out.size; simp; omega))
        have hgb : Hid (∀ g, u5.ownBlock = some g → w.heap.size ≤ g) := Lib.hid (fun g e => (ro.out.lt g e).1)
        clear ro kb
        go_upto_region 4 with (at_builtin; obtain ⟨vN, wN, hr, ho, hgr, hbk⟩ := RUN.out; obtain ⟨gN, capN, rfl⟩ := Joins.ownsRow_form ho (by omega); refine Lib.wpList_append_run _ rfl (.tmp 26) (.tmp 35) 22 22 rfl _ _ rfl rfl _ _ hr ?_)
        have RO : Hid (wN.ownsRow w.heap.size 3 1 (.slice (some ⟨gN, 0, none⟩) (A.length + 1) capN) (A ++ [a0]).length ((A ++ [a0]).map encI)) := Lib.hid (by rw [List.map_append, List.length_append]; exact ho)
        have KN : Hid (Below w.heap.size w wN) := Lib.hid ⟨hgr.os.trans kA.out.os, hgr.tape.trans kA.out.tape, hgr.output.trans kA.out.output, Nat.le_trans kA.out.size hgr.size, fun j hj => (hgr.block j (Nat.lt_of_lt_of_le hj kA.out.size) (fun e => by have := hgb.out j e.symm; omega)).trans (kA.out.block j hj)⟩
        clear hr ho hgr hbk RUN roA kA hgb k2 q0 q1 q2
        go_wp2_with fail
        go_roundw
        case measure => simp [RowKit.intOf]; omega
        case rel => exact ⟨k + 1, A ++ [a0], by omega, by simp; omega, rfl, HA2, RO, KN⟩
    · obtain rfl : k = L.length := by omega
      rw [List.take_length] at HA
      have SO := Lib.hid (rSorted_any u5 A (by omega) wr (intRow_sl ro.out))
      clear hW
      go_wp2_with (go_at_call 34; refine SO.out.mono ?_; rintro e w9 ⟨v9, S, rfl, hS, hm, hrow, k9⟩)
      go_ret
      exact ⟨v9, S, rfl, hS, fun i => by rw [hm i, HA.out], World.ownsRow.mono hrow kb.out.size, kb.out.trans (k9.mono kb.out.size)⟩
end Go.Proofs.YthgdkakkbaoccaaDoor
