import Derived.Test.YtcicfchpcbfdkaaGreatDoorNodeL
/-! node: Plan of a track that is there. -/
namespace Go.Proofs.YtcicfchpcbfdkaaGreatDoor
open Go.RowKit
set_option linter.unusedVariables false
set_option linter.unusedSimpArgs false
theorem SubsOk.iter {w w' : World} {b r : Nat} {S : Int → Option Value} (h : SubsOk w b S) (k : Keeps (fun j => j = r) w w') (hr : ∀ cs T fz, w.heap[r]? ≠ some (.cells cs T fz)) : SubsOk w' b S := fun i v hv => by
  obtain ⟨sb, tr, most, ov, lv, uv, gv, e, h1, h2, h3, h4⟩ := h i v hv
  exact ⟨sb, tr, most, ov, lv, uv, gv, e, Keeps.heap k h1 (fun e => by subst e; exact hr _ _ _ h1), h2, h3, h4⟩
theorem SubsOk.below {w w' : World} {b : Nat} {S : Int → Option Value} (h : SubsOk w b S) (k : Below w.heap.size w w') : SubsOk w' b S := fun i v hv => by
  obtain ⟨sb, tr, most, ov, lv, uv, gv, e, h1, h2, h3, h4⟩ := h i v hv
  exact ⟨sb, tr, most, ov, lv, uv, gv, e, Below.heapAt k h1 (lt_of_block h1), h2, h3, h4⟩
theorem SubsOk.fresh {w w' : World} {b sb : Nat} {S : Int → Option Value} {tr most : Int} {ov lv uv gv ov' lv' uv' : Value} (h : SubsOk w b S) (h0 : SubAt w sb tr most ov lv uv gv) (k : KeepsBut sb w w') (h1 : SubAt w' sb tr most ov' lv' uv' gv) : SubsOk w' b S := fun i v hv => by
  obtain ⟨s2, tr2, mo2, ov2, lv2, uv2, gv2, e, q1, q2, q3, q4⟩ := h i v hv
  by_cases hs : s2 = sb
  · subst hs
    unfold SubAt at q1 h0
    rw [q1] at h0
    simp at h0
    obtain ⟨rfl, rfl, -⟩ := h0
    exact ⟨s2, tr2, mo2, _, _, _, _, e, h1, q2, q3, q4⟩
  · exact ⟨s2, tr2, mo2, ov2, lv2, uv2, gv2, e, Keeps.heap k q1 hs, q2, q3, q4⟩
/-- a block that no track, nor map, is: subscribers stay -/
theorem SubsOk.but {w w' : World} {b tb : Nat} {S : Int → Option Value} (h : SubsOk w b S) (k : KeepsBut tb w w') {par ep : Int} {kv gp rg h0 h1 h2 h3 h4 : Value} {top : Int} (ht : TrackAt w tb par ep kv gp rg top h0 h1 h2 h3 h4) : SubsOk w' b S := fun i v hv => by
  obtain ⟨sb, tr, most, ov, lv, uv, gv, e, q1, q2, q3, q4⟩ := h i v hv
  refine ⟨sb, tr, most, ov, lv, uv, gv, e, Keeps.heap k q1 (fun e => ?_), q2, q3, q4⟩
  subst e
  unfold SubAt at q1
  unfold TrackAt at ht
  rw [q1] at ht
  simp at ht
theorem nodePlan_state (b : Nat) (now id last : Int) (T : Nat → Value) (sm pl : Nat) (lt : Value) (k : Nat) (hk : 1 ≤ k ∧ k ≤ 8) (par ep : Int) (v : Value) (A : List Int) (hF : Pl.planF id k par ep A = 0) (hl : A.length ≤ 16) (tb : Nat) (hT : T k = .pointer (some ⟨tb, 0, none⟩)) (par0 ep0 : Int) (kv gp rg : Value) (top : Int) (h0 h1 h2 h3 h4 : Value) (w : World) (h : NodeAt w b now id last T sm pl lt) (ht : TrackAt w tb par0 ep0 kv gp rg top h0 h1 h2 h3 h4) (hA : Sl encI w v A) (hep : ep < ep0) :
    Calls Tryz.prog 9 #[.pointer (some ⟨b, 0, none⟩), .int .i64 (k : Int), .int .i64 par, v, .int .i64 ep] w fun e w' => e = .returned (.iface 62 (.int .i64 6)) ∧ w = w' := by
  have PL := Lib.hid (nodePlanned_any b now id last T sm pl lt k par ep v A w h hA)
  rw [hF] at PL
  have hz : errV 0 = .nilIface := rfl
  rw [hz] at PL
  obtain ⟨oa, c, rfl⟩ : ∃ oa c, v = .slice oa A.length c := by
    rcases hA with ⟨h1, oa, cap, rfl, _⟩ | ⟨b, off, cap, rfl, _⟩
    · subst h1; exact ⟨_, _, rfl⟩
    · exact ⟨_, _, rfl⟩
  have c3 := h.track k (by omega)
  rw [hT] at c3
  have t1 := obj_cell ht (k := 1) rfl
  have e1 : (k : Int) < 9 := by omega
  have e2 : k < 9 := by omega
  have e3 : ¬ (16 : Int) < (A.length : Int) := by omega
  clear h hF hT hA hz ht
  go_enter Tryz.func9, Tryz.ntmps9
  go_wp2_with (go_at_call 32; (with_reducible refine PL.out.mono ?_); rintro e w1 ⟨rfl, rfl⟩)
  go_ret
  exact ⟨rfl, rfl⟩
/-- what Plan leaves -/
structure PlanSt (w : World) (b : Nat) (now id last : Int) (T : Nat → Value) (sm pl : Nat) (lt : Value) (S : Int → Option Value) (y : World) : Prop where
  at_ : NodeAt y b now id last T sm pl lt
  subs : SubsOk y b S
  kb : Below b w y
set_option maxRecDepth 100000 in
set_option maxHeartbeats 4000000 in
theorem nodePlan_old (b : Nat) (now id last : Int) (T : Nat → Value) (sm pl : Nat) (lt : Value) (k : Nat) (hk : 1 ≤ k ∧ k ≤ 8) (par ep : Int) (v : Value) (A : List Int) (hF : Pl.planF id k par ep A = 0) (hl : A.length ≤ 16) (tb : Nat) (hT : T k = .pointer (some ⟨tb, 0, none⟩)) (par0 ep0 : Int) (kv gp rg : Value) (top : Int) (h0 h1 h2 h3 h4 : Value) (c : Nat) (S : Int → Option Value) (w : World) (h : NodeAt w b now id last T sm pl lt) (ht : TrackAt w tb par0 ep0 kv gp rg top h0 h1 h2 h3 h4) (hbt : b < tb) (hsm : sm < b) (hm : MapAt Tryz.prog 3 w sm c S) (hS : SubsOk w b S) (hA : ∀ y, Below b w y → Sl encI y v A) (hep : ep0 ≤ ep) :
    Calls Tryz.prog 9 #[.pointer (some ⟨b, 0, none⟩), .int .i64 (k : Int), .int .i64 par, v, .int .i64 ep] w fun e w' => e = .returned .nilIface ∧ PlanSt w b now id last T sm pl lt S w' := by
  have PL := Lib.hid (nodePlanned_any b now id last T sm pl lt k par ep v A w h (hA w (Below.refl _ _)))
  rw [hF] at PL
  have hz : errV 0 = .nilIface := rfl
  rw [hz] at PL
  obtain ⟨oa, cc, rfl⟩ : ∃ oa c, v = .slice oa A.length c := by
    rcases hA w (Below.refl _ _) with ⟨h1, oa, cap, rfl, _⟩ | ⟨b, off, cap, rfl, _⟩
    · subst h1; exact ⟨_, _, rfl⟩
    · exact ⟨_, _, rfl⟩
  have c3 := h.track k (by omega)
  rw [hT] at c3
  have t1 := obj_cell ht (k := 1) rfl
  have e1 : (k : Int) < 9 := by omega
  have e2 : k < 9 := by omega
  have e3 : ¬ (16 : Int) < (A.length : Int) := by omega
  have e4 : ¬ ep < ep0 := by omega
  have HBT := Lib.hid hbt
  have HM := Lib.hid hm
  have HA := Lib.hid hA
  have HSM := Lib.hid hsm
  have HT := Lib.hid ht
  have HH := Lib.hid h
  have HS := Lib.hid hS
  have CL := Lib.hid (cloneI_any _ A w (hA w (Below.refl _ _)) (by omega))
  have hLT := Lib.hid (show tb < w.heap.size ∧ b < w.heap.size from ⟨lt_of_block ht, lt_of_block h⟩)
  have hne := Lib.hid (show tb ≠ b from by omega)
  clear h hF hT hm hA hz hsm ht hS hbt
  go_enter Tryz.func9, Tryz.ntmps9
  go_upto_region 9 with (go_at_call 32; (with_reducible refine PL.out.mono ?_); rintro e w1 ⟨rfl, rfl⟩)
  by_cases hq : ep0 < ep
  all_goals
    go_upto_region 14 with (go_at_call 33; (with_reducible refine CL.out.mono ?_); rintro e z ⟨v75, rfl, h75, k75⟩; obtain ⟨o75, c75, rfl⟩ : ∃ o c, v75 = .slice o A.length c := (by
      rcases h75 z (Keeps.refl _ _) with ⟨h1, oa, cap, rfl, _⟩ | ⟨b, off, cap, rfl, _⟩
      · subst h1; exact ⟨_, _, rfl⟩
      · exact ⟨_, _, rfl⟩); have T2 := Lib.hid (show TrackAt z tb par0 ep0 kv gp rg top h0 h1 h2 h3 h4 from Below.heapAt k75 HT.out hLT.out.1); have N2 := Lib.hid (show NodeAt z b now id last T sm pl lt from Below.heapAt k75 HH.out hLT.out.2); have S2 := Lib.hid (HS.out.below k75); have K2 := Lib.hid (k75.mono (Nat.le_of_lt hLT.out.2)); have t0 := obj_cell T2.out (k := 0) rfl; have t1' := obj_cell T2.out (k := 1) rfl; have t2 := obj_cell T2.out (k := 2) rfl; have g0 := obj_free T2.out 0; have g1 := obj_free T2.out 1; have g2 := obj_free T2.out 2; clear h75 k75)
    have T3 := Lib.hid (show TrackAt (((z.setCell ⟨tb, 0, none⟩ (.int .i64 par)).setCell ⟨tb, 2, none⟩ (.slice o75 A.length c75)).setCell ⟨tb, 1, none⟩ (.int .i64 ep)) tb par ep (.slice o75 A.length c75) gp rg top h0 h1 h2 h3 h4 from obj_set (obj_set (obj_set T2.out 0 _) 2 _) 1 _)
    have N3 := Lib.hid (show NodeAt (((z.setCell ⟨tb, 0, none⟩ (.int .i64 par)).setCell ⟨tb, 2, none⟩ (.slice o75 A.length c75)).setCell ⟨tb, 1, none⟩ (.int .i64 ep)) b now id last T sm pl lt from obj_other (obj_other (obj_other N2.out hne.out _) hne.out _) hne.out _)
    have K3 := Lib.hid (show Below b w (((z.setCell ⟨tb, 0, none⟩ (.int .i64 par)).setCell ⟨tb, 2, none⟩ (.slice o75 A.length c75)).setCell ⟨tb, 1, none⟩ (.int .i64 ep)) from Below.setCell (Below.setCell (Below.setCell K2.out (Nat.le_of_lt HBT.out) _) (Nat.le_of_lt HBT.out) _) (Nat.le_of_lt HBT.out) _)
    have S3 := Lib.hid (show SubsOk (((z.setCell ⟨tb, 0, none⟩ (.int .i64 par)).setCell ⟨tb, 2, none⟩ (.slice o75 A.length c75)).setCell ⟨tb, 1, none⟩ (.int .i64 ep)) b S from S2.out.but (KeepsBut.set (KeepsBut.set (KeepsBut.set (KeepsBut.refl tb z) 0 _) 2 _) 1 _) T2.out)
    refine abs_n (fun y => Hid (TrackAt y tb par ep (.slice o75 A.length c75) gp rg top h0 h1 h2 h3 h4) ∧ Hid (PlanSt w b now id last T sm pl lt S y)) ⟨T3, Lib.hid ⟨N3.out, S3.out, K3.out⟩⟩ ?_
    clear T3 N3 K3 S3 T2 N2 K2 S2 t0 t1' t2 g0 g1 g2 CL c3 t1
    rintro y3 ⟨T1, P1⟩
  · have TF := Lib.hid (trackFresh_any tb par ep _ _ _ _ _ _ _ _ _ y3 T1.out)
    have hLT3 := Lib.hid (show b ≤ y3.heap.size from Nat.le_of_lt (lt_of_block P1.out.at_))
    go_upto_region 19 with (go_at_call 34; (with_reducible refine TF.out.mono ?_); rintro e z2 ⟨rfl, -, hK2⟩; have P2 := Lib.hid (show PlanSt w b now id last T sm pl lt S z2 from ⟨Keeps.heap hK2 P1.out.at_ (fun e => hne.out e.symm), P1.out.subs.but hK2 T1.out, P1.out.kb.trans (hK2.below hLT3.out (Nat.le_of_lt HBT.out))⟩); clear hK2)
    refine abs_n (fun y => Hid (PlanSt w b now id last T sm pl lt S y)) P2 ?_
    clear P2 TF T1 P1 hLT3
    rintro y4 P1
    obtain ⟨-, -, -, c12, -, -⟩ := P1.out.at_.cells
    have hm := HM.out.below P1.out.kb HSM.out
    have hLT4 := Lib.hid (lt_of_block P1.out.at_)
    go_upto_region 20 with (at_range; refine wpList_mrange _ rfl _ 66 rfl 3 84 slaw Tryz.underlying66 sm c _ rfl hm ?_; intro w0 hrg0 hg0 hs0)
    have KK : Below y4.heap.size y4 w0 := ⟨hg0.os, hg0.tape, hg0.output, hg0.size, fun k hk => hg0.block k (by omega) (by simp)⟩
    have P2 := Lib.hid (show PlanSt w b now id last T sm pl lt S w0 from ⟨Below.heapAt KK P1.out.at_ hLT4.out, P1.out.subs.below KK, P1.out.kb.trans (KK.mono (Nat.le_of_lt hLT4.out))⟩)
    obtain ⟨r, hr⟩ : ∃ r, y4.heap.size = r := ⟨_, rfl⟩
    rw [hr] at hrg0 ⊢
    have HR := Lib.hid (show b < r from by have := hLT4.out; omega)
    go_frame
    clear hm hg0 hs0 KK P1 c12 hr hLT4
    go_loopw [16, 17] (fun _ _ z => ∃ (left : Int → Bool) (cnt : Nat), RangesAt Tryz.prog 3 z sm r c S left cnt ∧ Hid (PlanSt w b now id last T sm pl lt S z)) (fun _ _ z => z.rangeLeft sm r)
    case atStart => exact ⟨_, _, hrg0, P2⟩
    case round =>
      as_aux_lemma =>
      clear hrg0 P2
      obtain ⟨left, cnt, hrg, PS⟩ := hrel
      have HLE := Lib.hid hrg.left_eq
      go_upto_region 21 with (at_next; refine wpList_mnext _ rfl _ rfl 3 slaw Tryz.underlying3 sm r c _ left cnt rfl hrg ?_ ?_)
      · intro h0 hl0
        clear hrg
        go_wp2
        go_ret
        exact ⟨rfl, PS.out⟩
      · intro x v w1 cnt1 hw hlx hfx hrg1 hlt hg1 hs1 hen
        have KP : Keeps (fun k => k = r) wr w1 := ⟨hg1.os, hg1.tape, hg1.output, hg1.size, fun k hk hne => hg1.block k hk (fun e => hne (Option.some.inj e))⟩
        have hiter : ∀ z : World, ∀ l cn, RangesAt Tryz.prog 3 z sm r c S l cn → ∀ cs T fz, z.heap[r]? ≠ some (.cells cs T fz) := fun z l cn hz cs T fz e => by
          obtain ⟨n, D, lf, ⟨es, clock, since, seen, c0, q1, F, hs, hD, q2, rest⟩, _⟩ := hz
          rw [q2] at e; cases e
        have hbr : b ≠ r := by have := HR.out; omega
        have P1 := Lib.hid (show PlanSt w b now id last T sm pl lt S w1 from ⟨Keeps.heap KP PS.out.at_ hbr, PS.out.subs.iter KP (hiter _ _ _ hrg), PS.out.kb.trans (KP.below (Nat.le_of_lt (lt_of_block PS.out.at_)) (fun j hj e => by have := HR.out; omega))⟩)
        obtain ⟨sb, tr, most, ov, lv, uv, gv, rfl, hsb, hmo, htr, hbs⟩ := P1.out.subs x v hfx
        have hrs : r ≠ sb := fun e => by subst e; exact hiter _ _ _ hrg1 _ _ _ hsb
        have HRG := Lib.hid hrg1
        have s0 := obj_cell hsb (k := 0) rfl
        have HSB := Lib.hid hsb
        have HX := Lib.hid (show b < sb ∧ sm ≠ sb ∧ r ≠ sb ∧ (0 ≤ most ∧ most ≤ 3) from ⟨hbs, by have := HSM.out; omega, hrs, hmo⟩)
        clear hrg hrg1 hg1 hs1 KP PS hw hlx hfx hiter hsb hbs hmo htr hrs hbr
        by_cases htk : tr = (k : Int)
        · subst htk
          have SF := Lib.hid (subFresh_any sb (k : Int) most ov lv uv gv HX.out.2.2.2 w1 HSB.out)
          go_wp2_with (go_at_call 35; (with_reducible refine SF.out.mono ?_); rintro e z2 ⟨rfl, ⟨ov', lv', uv', hs2⟩, hK2⟩; have P2 := Lib.hid (show PlanSt w b now id last T sm pl lt S z2 from ⟨Keeps.heap hK2 P1.out.at_ (fun e => by have := HX.out.1; omega), P1.out.subs.fresh HSB.out hK2 hs2, P1.out.kb.trans (hK2.below (Nat.le_of_lt (lt_of_block P1.out.at_)) (Nat.le_of_lt HX.out.1))⟩); have R2 := Lib.hid (HRG.out.block (hK2.block sm HRG.out.map.lt HX.out.2.1) (hK2.block r HRG.out.lt HX.out.2.2.1)); clear hK2 hs2)
          go_roundw
          case measure => rw [HLE.out, R2.out.left_eq]; omega
          case rel => exact ⟨_, cnt1, R2.out, P2⟩
        · have d1 : (tr == (k : Int)) = false := beq_eq_false_iff_ne.2 htk
          clear htk
          go_wp2_with fail
          go_roundw
          case measure => rw [HLE.out, HRG.out.left_eq]; omega
          case rel => exact ⟨_, cnt1, HRG.out, P1⟩
  · go_wp2_with fail
    go_ret
    exact ⟨rfl, P1.out⟩
end Go.Proofs.YtcicfchpcbfdkaaGreatDoor
