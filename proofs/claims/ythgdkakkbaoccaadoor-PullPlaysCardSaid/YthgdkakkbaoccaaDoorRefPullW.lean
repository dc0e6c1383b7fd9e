import Derived.Test.YthgdkakkbaoccaaDoorRefPull
import Derived.Test.YthgdkakkbaoccaaDoorPPull
import Derived.Deep.QuietTactic
import Derived.BigQuiet
import Derived.Deep.DeepCutAuto
/-! The reference's Pull: Want, Need. -/
namespace Go.Proofs.YthgdkakkbaoccaaDoor
open Go.RowKit
set_option linter.unusedVariables false
set_option linter.unusedSimpArgs false
/-- a store into a row -/
theorem wrow_set {w : World} {M g cap : Nat} {L : List Wt} (h : WRow w M (.slice (some ⟨g, 0, none⟩) L.length cap) L) (k : Nat) (hk : k < L.length) (lay : Int) : WRow (w.setCell ⟨g, k * 3 + 2, none⟩ (.int .i64 lay)) M (.slice (some ⟨g, 0, none⟩) L.length cap) (L.set k ⟨L[k].who, L[k].track, lay⟩) ∧ w.grownBy (w.setCell ⟨g, k * 3 + 2, none⟩ (.int .i64 lay)) (some g) := by
  obtain ⟨h1, h2⟩ := h.stored (k * 3 + 2) (.int .i64 lay)
  refine ⟨?_, h2⟩
  have e : (wcells L).set (k * 3 + 2) (.int .i64 lay) = wcells (L.set k ⟨L[k].who, L[k].track, lay⟩) := by
    have e1 : wcells L = wcells (L.take k) ++ (L[k].cells ++ wcells (L.drop (k + 1))) := (congrArg wcells (split_at L k hk)).trans (by unfold wcells; rw [List.flatMap_append, List.flatMap_cons])
    have e2 : wcells (L.set k ⟨L[k].who, L[k].track, lay⟩) = wcells (L.take k) ++ ((⟨L[k].who, L[k].track, lay⟩ : Wt).cells ++ wcells (L.drop (k + 1))) := by
      rw [set_split L k hk]
      unfold wcells; rw [List.flatMap_append, List.flatMap_cons]
    have e3 : (wcells (L.take k)).length = k * 3 := by rw [wcells_len, List.length_take, Nat.min_eq_left (by omega)]
    rw [e1, e2, List.set_append_right _ _ (by omega), e3, show k * 3 + 2 - k * 3 = 2 by omega]
    congr 1
  rw [e] at h1
  show _ ∧ _
  unfold World.ownsRow at h1
  rw [List.length_set]
  exact h1
theorem RPul.turned {M : Nat} {w : World} {b : Nat} {now th : Int} {g cap : Nat} {L : List Wt} {told asked : Nat → Int} (h : RPul M w b now th (.slice (some ⟨g, 0, none⟩) L.length cap) L told asked) (k : Nat) (hk : k < L.length) (lay : Int) :
    RPul M (w.setCell ⟨g, k * 3 + 2, none⟩ (.int .i64 lay)) b now th (.slice (some ⟨g, 0, none⟩) L.length cap) (L.set k ⟨L[k].who, L[k].track, lay⟩) told asked :=
  ⟨obj_other h.at_ (fun e => h.row_ne (by simp [Value.ownBlock]; exact e)) _, (wrow_set h.row k hk lay).1, h.low⟩
/-- the list with one more, or turned -/
def WantL (L L' : List Wt) (who t lay : Int) : Prop := (L' = L ++ [⟨who, t, lay⟩] ∧ ∀ x ∈ L, isWt who t x = false) ∨ ∃ (k : Nat) (h : k < L.length), isWt who t L[k] = true ∧ L' = L.set k ⟨who, t, lay⟩
theorem isWt_iff {who t : Int} {x : Wt} : isWt who t x = true ↔ x.who = who ∧ x.track = t := by simp [isWt]
theorem PR2.want {L L' : List Wt} {F : Nat → Int → Option Int} (h : PR2 L F) (who : Int) (t : Nat) (lay : Int) (hr : Pl.rightOk who t) (hl : 0 ≤ lay ∧ lay ≤ 3) (hW : WantL L L' who t lay) : PR2 L' (wantF F t who lay) := by
  rcases hW with ⟨rfl, hn⟩ | ⟨k, hk, h1, rfl⟩
  · exact h.more who t lay hr hl (fun x hx e => by have := hn x hx; rw [isWt_iff.2 e] at this; cases this)
  · obtain ⟨e1, e2⟩ := isWt_iff.1 h1
    exact h.turn k hk who t lay hr hl e1 e2
theorem WantL.len {L L' : List Wt} {who t lay : Int} (h : WantL L L' who t lay) : L'.length ≤ L.length + 1 := by
  rcases h with ⟨rfl, _⟩ | ⟨k, _, _, rfl⟩ <;> simp
set_option maxRecDepth 100000 in
set_option maxHeartbeats 2000000 in
theorem rPullWant_bad (b : Nat) (who n lay : Int) (h : ¬ (Pl.rightOk who n ∧ 0 ≤ lay ∧ lay ≤ 3)) (w : World) :
    Calls Tryd.prog 45 #[.pointer (some ⟨b, 0, none⟩), .int .i64 who, .int .i64 n, .int .i64 lay] w fun e w' => e = .returned (.int .i64 1) ∧ w = w' := by
  have H := Lib.hid h
  have R := Lib.hid (fun y => rTrack_any n y)
  clear h
  by_cases hn : 1 ≤ n ∧ n ≤ 8
  · obtain ⟨n1, n2⟩ := hn
    have e1 : (decide (1 ≤ n) && decide (n ≤ 8)) = true := by simp [n1, n2]
    go_enter Tryd.func45, Tryd.ntmps45
    go_wp2_with (go_at_call 76; refine (R.out _).mono ?_; rw [e1]; rintro e w' ⟨rfl, rfl⟩)
    all_goals first
      | (exfalso; have := H.out; unfold Pl.rightOk at this; omega)
      | (go_ret; exact ⟨rfl, rfl⟩)
  · have e1 : (decide (1 ≤ n) && decide (n ≤ 8)) = false := by simp; omega
    clear hn
    go_enter Tryd.func45, Tryd.ntmps45
    go_wp2_with (go_at_call 76; refine (R.out _).mono ?_; rw [e1]; rintro e w' ⟨rfl, rfl⟩)
    all_goals (go_ret; exact ⟨rfl, rfl⟩)
set_option maxRecDepth 100000 in
set_option maxHeartbeats 4000000 in
theorem rPullWant_ok (M b : Nat) (now th : Int) (v : Value) (L : List Wt) (told asked : Nat → Int) (who : Int) (t : Int) (lay : Int) (hr : Pl.rightOk who t) (hl : 0 ≤ lay ∧ lay ≤ 3) (hL : L.length ≤ 100000) (w : World) (hM : M ≤ w.heap.size) (h : RPul M w b now th v L told asked) :
    Calls Tryd.prog 45 #[.pointer (some ⟨b, 0, none⟩), .int .i64 who, .int .i64 t, .int .i64 lay] w fun e w' => ∃ v' L', e = .returned (.int .i64 0) ∧ WantL L L' who t lay ∧ RPul M w' b now th v' L' told asked ∧ RFP b v w w' := by
  have R := Lib.hid (fun y => rTrack_any t y)
  obtain ⟨r0, r1, r2, r3⟩ := hr
  obtain ⟨l0, l1⟩ := hl
  have e1 : (decide (1 ≤ t) && decide (t ≤ 8)) = true := by simp [r2, r3]
  have A1 := Lib.hid (rPullAt_any M b now th v L told asked who t (by omega) w h)
  have H := Lib.hid h
  clear h
  go_enter Tryd.func45, Tryd.ntmps45
  go_upto_region 5 with (first
    | (go_at_call 76; refine (R.out _).mono ?_; rw [e1]; rintro e w' ⟨rfl, rfl⟩)
    | (go_at_call 77; refine A1.out.mono ?_; rintro e w' ⟨k, rfl, hk, rfl⟩; have HK := Lib.hid hk; clear hk))
  rcases HK.out with ⟨rfl, hno⟩ | ⟨j, rfl, hj, hj1⟩
  · have HNO := Lib.hid hno
    clear hno HK
    obtain ⟨o1, c1, rfl, -⟩ := wantRow_read H.out.row
    have k2 := H.out.at_.row_
    have hA := Lib.hid (H.out.below ((Below.refl _ _).alloc (Nat.le_refl _) (.cells #[.int .i64 who, .int .i64 t, .int .i64 lay] 91)))
    have RUN := Lib.hid (run_moreWant _ M _ ⟨who, t, lay⟩ L hA.out.row w.heap.size (obj_new _ _) (by omega) (by simp; omega))
    have HR := Lib.hid (fun (wN : World) (hgr : (w.alloc (.cells #[.int .i64 who, .int .i64 t, .int .i64 lay] 91)).grownBy wN (Value.slice o1 L.length c1).ownBlock) => hA.out.grown hgr)
    go_upto_region 9 with (at_builtin; obtain ⟨vN, wN, hr, ho, hgr, hbk⟩ := RUN.out; obtain ⟨gN, capN, rfl⟩ := Joins.ownsRow_form ho (by simp); refine Lib.wpList_append_run _ rfl (.tmp 49) (.tmp 54) 85 85 rfl _ _ rfl rfl _ _ hr ?_; have aN := HR.out wN hgr; have kN := aN.row_; have fN := obj_free aN 2; have AN := Lib.hid aN; have HO := Lib.hid ho; have HG := Lib.hid hgr; clear aN hr ho hgr hbk)
    clear kN fN k2 RUN HR
    go_wp2_with fail
    go_ret
    have ho := HO.out
    rw [show (L ++ [(⟨who, t, lay⟩ : Wt)]).length = L.length + 1 from by simp] at ho
    refine ⟨_, L ++ [⟨who, t, lay⟩], rfl, .inl ⟨rfl, HNO.out⟩, RPul.put AN.out H.out.low ho, ?_⟩
    have kA : Keeps (fun k => k = b ∨ (Value.slice o1 L.length c1).ownBlock = some k) w (w.alloc (.cells #[.int .i64 who, .int .i64 t, .int .i64 lay] 91)) := (Keeps.refl _ _).alloc _
    exact Keeps.setCell (Keeps.trans kA ⟨HG.out.os, HG.out.tape, HG.out.output, HG.out.size, fun j hj hne => HG.out.block j hj (fun e => hne (.inr e.symm))⟩) (.inl (.inl rfl)) _
  · obtain ⟨g, c1, hv⟩ := Joins.ownsRow_form H.out.row (by omega)
    subst hv
    obtain ⟨e2, e3⟩ := isWt_iff.1 hj1
    have k2 := H.out.at_.row_
    have HX := Lib.hid hj1
    obtain ⟨o1, c1', hv, hrd⟩ := wantRow_read H.out.row
    cases hv
    obtain ⟨g', hg', _, _, q0, q1, q2⟩ := hrd j L[j] (by simp [hj])
    cases hg'
    have f2 := World.ownsRow.frozenAt H.out.row (j * 3 + 2)
    have T := Lib.hid (H.out.turned j hj lay)
    have TG := Lib.hid (wrow_set H.out.row j hj lay).2
    rw [e2, e3] at T
    obtain ⟨lay0, hlay0⟩ : ∃ l, L[j].lay = l := ⟨_, rfl⟩
    rw [hlay0] at q2
    clear hrd hj1 e2 e3 HK q0 q1 hlay0
    go_wp2_with fail
    go_ret
    exact ⟨_, _, rfl, .inr ⟨j, hj, HX.out, rfl⟩, T.out, ⟨TG.out.os, TG.out.tape, TG.out.output, TG.out.size, fun k hk hne => TG.out.block k hk (fun e => hne (.inr e.symm))⟩⟩
set_option maxRecDepth 100000 in
set_option maxHeartbeats 2000000 in
theorem rPullNeed_any (M b : Nat) (now th : Int) (v : Value) (L : List Wt) (told asked : Nat → Int) (t : Int) (hL : L.length ≤ 1000000) (hl : ∀ x ∈ L, 0 ≤ x.lay) (w : World) (h : RPul M w b now th v L told asked) :
    Calls Tryd.prog 51 #[.pointer (some ⟨b, 0, none⟩), .int .i64 t] w fun e w' => ∃ n, e = .returned (.int .i64 n) ∧ NeedL L t n ∧ w = w' := by
  obtain ⟨o1, c1, rfl, g1⟩ := wantRow_read h.row
  have G1 := Lib.hid g1
  have HL := Lib.hid hl
  have k2 := h.at_.row_
  clear g1 h hl
  go_enter Tryd.func51, Tryd.ntmps51
  go_wp2_with fail
  go_loop [5, 6] (fun s5 s6 => ∃ (k : Nat) (n : Int), k ≤ L.length ∧ s6 = .int .i64 k ∧ s5 = .int .i64 n ∧ Hid (NeedL (L.take k) t n)) (fun _ s6 => L.length - (RowKit.intOf s6).toNat)
  case atStart => exact ⟨0, -1, by omega, rfl, rfl, Lib.hid ⟨by omega, fun x hx => by simp at hx, .inl rfl⟩⟩
  case round =>
    obtain ⟨k, n, hk, rfl, rfl, HN⟩ := hrel
    by_cases hlt : k < L.length
    · obtain ⟨g, rfl, _, _, q0, q1, q2⟩ := G1.out k L[k] (by simp [hlt])
      have HT := Lib.hid (take_one L k hlt)
      have HP := Lib.hid (HL.out L[k] (List.getElem_mem _))
      generalize L[k] = x at *
      obtain ⟨a0, a1, a2⟩ := x
      dsimp only at q0 q1 q2
      have same : Hid ((a1 ≠ t ∨ a2 ≤ n) → NeedL (L.take (k + 1)) t n) := Lib.hid (fun hc => by
        obtain ⟨u1, u2, u3⟩ := HN.out
        rw [HT.out]
        refine ⟨u1, fun x hx e => ?_, ?_⟩
        · rcases List.mem_append.1 hx with h | h
          · exact u2 x h e
          · simp at h; subst h
            rcases hc with hc | hc
            · exact absurd e hc
            · exact hc
        · rcases u3 with u3 | ⟨x, hx, h1, h2⟩
          · exact .inl u3
          · exact .inr ⟨x, List.mem_append.2 (.inl hx), h1, h2⟩)
      have more : Hid (a1 = t → n < a2 → NeedL (L.take (k + 1)) t a2) := Lib.hid (fun h1 h2 => by
        obtain ⟨u1, u2, u3⟩ := HN.out
        rw [HT.out]
        refine ⟨by have : 0 ≤ a2 := HP.out; omega, fun x hx e => ?_, .inr ⟨⟨a0, a1, a2⟩, List.mem_append.2 (.inr (by simp)), h1, rfl⟩⟩
        rcases List.mem_append.1 hx with h | h
        · have := u2 x h e; omega
        · simp at h; subst h; exact Int.le_refl _)
      by_cases e0 : a1 = t
      · by_cases e1 : n < a2
        · have HR := Lib.hid (more.out e0 e1)
          have d0 : (a1 == t) = true := by simpa using e0
          clear e0
          go_wp2_with fail
          go_round
          case measure => simp [RowKit.intOf]; omega
          case rel => exact ⟨k + 1, _, by omega, rfl, rfl, HR⟩
        · have HR := Lib.hid (same.out (.inr (by omega)))
          have d0 : (a1 == t) = true := by simpa using e0
          clear e0
          go_wp2_with fail
          go_round
          case measure => simp [RowKit.intOf]; omega
          case rel => exact ⟨k + 1, n, by omega, rfl, rfl, HR⟩
      · have HR := Lib.hid (same.out (.inl e0))
        have d0 : (a1 == t) = false := by simpa using e0
        clear e0
        go_wp2_with fail
        go_round
        case measure => simp [RowKit.intOf]; omega
        case rel => exact ⟨k + 1, n, by omega, rfl, rfl, HR⟩
    · obtain rfl : k = L.length := by omega
      rw [List.take_length] at HN
      go_wp2_with fail
      go_ret
      exact ⟨n, rfl, HN.out, rfl⟩
end Go.Proofs.YthgdkakkbaoccaaDoor
