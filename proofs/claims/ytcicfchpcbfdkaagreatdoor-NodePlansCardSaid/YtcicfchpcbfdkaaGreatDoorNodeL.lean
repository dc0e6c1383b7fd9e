import Derived.Test.YtcicfchpcbfdkaaGreatDoorNodeW
/-! node: Plan. -/
namespace Go.Proofs.YtcicfchpcbfdkaaGreatDoor
open Go.RowKit
set_option linter.unusedVariables false
set_option linter.unusedSimpArgs false
theorem nodePlan_bad (b : Nat) (now id last : Int) (T : Nat → Value) (sm pl : Nat) (lt : Value) (tr par ep : Int) (v : Value) (A : List Int) (hF : Pl.planF id tr par ep A ≠ 0) (w : World) (h : NodeAt w b now id last T sm pl lt) (hA : Sl encI w v A) :
    Calls Tryz.prog 9 #[.pointer (some ⟨b, 0, none⟩), .int .i64 tr, .int .i64 par, v, .int .i64 ep] w fun e w' => e = .returned (errV (Pl.planF id tr par ep A)) ∧ w = w' := by
  have PL := Lib.hid (nodePlanned_any b now id last T sm pl lt tr par ep v A w h hA)
  rw [errV_hit _ hF] at PL ⊢
  obtain ⟨oa, c, rfl⟩ : ∃ oa c, v = .slice oa A.length c := by
    rcases hA with ⟨h1, oa, cap, rfl, _⟩ | ⟨b, off, cap, rfl, _⟩
    · subst h1; exact ⟨_, _, rfl⟩
    · exact ⟨_, _, rfl⟩
  clear h hA hF
  generalize Pl.planF id tr par ep A = F at *
  go_enter Tryz.func9, Tryz.ntmps9
  go_wp2_with (go_at_call 32; (with_reducible refine PL.out.mono ?_); rintro e w1 ⟨rfl, rfl⟩)
  go_ret
  exact ⟨rfl, rfl⟩
set_option maxRecDepth 100000 in
set_option maxHeartbeats 4000000 in
theorem nodePlan_new (b : Nat) (now id last : Int) (T : Nat → Value) (sm pl : Nat) (lt : Value) (k : Nat) (hk : 1 ≤ k ∧ k ≤ 8) (par ep : Int) (v : Value) (A : List Int) (hF : Pl.planF id k par ep A = 0) (hl : A.length ≤ 16) (hT : T k = .pointer none) (w : World) (h : NodeAt w b now id last T sm pl lt) (hsm : sm < b) (hm : MapAt Tryz.prog 3 w sm 0 (fun _ => none)) (hA : ∀ y, Below b w y → Sl encI y v A) :
    Calls Tryz.prog 9 #[.pointer (some ⟨b, 0, none⟩), .int .i64 (k : Int), .int .i64 par, v, .int .i64 ep] w fun e w' => e = .returned .nilIface ∧ ∃ (tb : Nat) (kv gp rg h0 h1 h2 h3 h4 : Value), b < tb ∧ NodeAt w' b now id last (fun j => if j = k then .pointer (some ⟨tb, 0, none⟩) else T j) sm pl lt ∧ TrackAt w' tb par ep kv gp rg (-1) h0 h1 h2 h3 h4 ∧ Below b w w' := by
  have PL := Lib.hid (nodePlanned_any b now id last T sm pl lt k par ep v A w h (hA w (Below.refl _ _)))
  rw [hF] at PL
  have hz : errV 0 = .nilIface := rfl
  rw [hz] at PL
  obtain ⟨oa, c, rfl⟩ : ∃ oa c, v = .slice oa A.length c := by
    rcases hA w (Below.refl _ _) with ⟨h1, oa, cap, rfl, _⟩ | ⟨b, off, cap, rfl, _⟩
    · subst h1; exact ⟨_, _, rfl⟩
    · exact ⟨_, _, rfl⟩
  have c3 := h.track k (by omega)
  rw [hT] at c3
  have e1 : (k : Int) < 9 := by omega
  have e2 : k < 9 := by omega
  have e3 : ¬ (16 : Int) < (A.length : Int) := by omega
  have hbw := lt_of_block h
  obtain ⟨tb, htb⟩ : ∃ tb, w.heap.size = tb := ⟨_, rfl⟩
  have HBT := Lib.hid (show b < tb from by omega)
  have HM := Lib.hid hm
  have HA := Lib.hid hA
  have HSM := Lib.hid hsm
  have kT : Below w.heap.size w (w.alloc (.cells #[.int .i64 0, .int .i64 0, .slice none 0 0, .pointer none, .pointer none, .int .i64 0, .int .i64 0, .int .i64 0, .int .i64 0, .int .i64 0, .slice none 0 0] 78)) := (Below.refl _ _).alloc (Nat.le_refl _) _
  have T0 := Lib.hid (show TrackAt (w.alloc (.cells #[.int .i64 0, .int .i64 0, .slice none 0 0, .pointer none, .pointer none, .int .i64 0, .int .i64 0, .int .i64 0, .int .i64 0, .int .i64 0, .slice none 0 0] 78)) tb 0 0 (.slice none 0 0) (.pointer none) (.pointer none) 0 (.int .i64 0) (.int .i64 0) (.int .i64 0) (.int .i64 0) (.slice none 0 0) from by rw [← htb]; exact obj_new _ _)
  have N0 := Lib.hid (show NodeAt (w.alloc (.cells #[.int .i64 0, .int .i64 0, .slice none 0 0, .pointer none, .pointer none, .int .i64 0, .int .i64 0, .int .i64 0, .int .i64 0, .int .i64 0, .slice none 0 0] 78)) b now id last T sm pl lt from Below.heapAt kT h hbw)
  have K0 := Lib.hid (show Below b w (w.alloc (.cells #[.int .i64 0, .int .i64 0, .slice none 0 0, .pointer none, .pointer none, .int .i64 0, .int .i64 0, .int .i64 0, .int .i64 0, .int .i64 0, .slice none 0 0] 78)) from kT.mono (by omega))
  clear h hF hT hm hA hz kT hbw hsm
  go_enter Tryz.func9, Tryz.ntmps9
  go_upto_region 12 with (go_at_call 32; (with_reducible refine PL.out.mono ?_); rintro e w1 ⟨rfl, rfl⟩)
  refine abs_n (fun y => Hid (TrackAt y tb 0 0 (.slice none 0 0) (.pointer none) (.pointer none) 0 (.int .i64 0) (.int .i64 0) (.int .i64 0) (.int .i64 0) (.slice none 0 0)) ∧ Hid (NodeAt y b now id last T sm pl lt) ∧ Hid (Below b w y)) ⟨T0, N0, K0⟩ ?_
  try rw [htb]
  clear T0 N0 K0 c3 PL htb
  rintro y ⟨T0, N0, K0⟩
  have c3 := N0.out.track k e2
  have f3 := obj_free N0.out (3 + k)
  have N1 := Lib.hid (N0.out.setTrack k e2 (.pointer (some ⟨tb, 0, none⟩)))
  have T1 := Lib.hid (show TrackAt (y.setCell ⟨b, 3 + k, none⟩ (.pointer (some ⟨tb, 0, none⟩))) tb 0 0 (.slice none 0 0) (.pointer none) (.pointer none) 0 (.int .i64 0) (.int .i64 0) (.int .i64 0) (.int .i64 0) (.slice none 0 0) from obj_other T0.out (by have := HBT.out; show b ≠ tb; omega) _)
  have K1 := Lib.hid (show Below b w (y.setCell ⟨b, 3 + k, none⟩ (.pointer (some ⟨tb, 0, none⟩))) from Below.setCell K0.out (Nat.le_refl b) _)
  go_upto_region 13 with fail
  refine abs_n (fun y => Hid (TrackAt y tb 0 0 (.slice none 0 0) (.pointer none) (.pointer none) 0 (.int .i64 0) (.int .i64 0) (.int .i64 0) (.int .i64 0) (.slice none 0 0)) ∧ Hid (NodeAt y b now id last (fun j => if j = k then .pointer (some ⟨tb, 0, none⟩) else T j) sm pl lt) ∧ Hid (Below b w y)) ⟨T1, N1, K1⟩ ?_
  clear T1 N1 K1 T0 N0 K0 c3 f3
  rintro y2 ⟨T1, N1, K1⟩
  have CL := Lib.hid (cloneI_any _ A y2 (HA.out y2 K1.out) (by omega))
  have hLT := Lib.hid (show tb < y2.heap.size ∧ b < y2.heap.size from ⟨lt_of_block T1.out, lt_of_block N1.out⟩)
  go_upto_region 14 with (go_at_call 33; (with_reducible refine CL.out.mono ?_); rintro e z ⟨v75, rfl, h75, k75⟩; obtain ⟨o75, c75, rfl⟩ : ∃ o c, v75 = .slice o A.length c := (by
    rcases h75 z (Keeps.refl _ _) with ⟨h1, oa, cap, rfl, _⟩ | ⟨b, off, cap, rfl, _⟩
    · subst h1; exact ⟨_, _, rfl⟩
    · exact ⟨_, _, rfl⟩); have T2 := Lib.hid (show TrackAt z tb 0 0 (.slice none 0 0) (.pointer none) (.pointer none) 0 (.int .i64 0) (.int .i64 0) (.int .i64 0) (.int .i64 0) (.slice none 0 0) from Below.heapAt k75 T1.out hLT.out.1); have N2 := Lib.hid (show NodeAt z b now id last (fun j => if j = k then .pointer (some ⟨tb, 0, none⟩) else T j) sm pl lt from Below.heapAt k75 N1.out hLT.out.2); have K2 := Lib.hid (K1.out.trans (k75.mono (Nat.le_of_lt hLT.out.2))); have t0 := obj_cell T2.out (k := 0) rfl; have t1 := obj_cell T2.out (k := 1) rfl; have t2 := obj_cell T2.out (k := 2) rfl; have g0 := obj_free T2.out 0; have g1 := obj_free T2.out 1; have g2 := obj_free T2.out 2; clear h75 k75)
  have hne := Lib.hid (show tb ≠ b from by have := HBT.out; omega)
  have T3 := Lib.hid (show TrackAt (((z.setCell ⟨tb, 0, none⟩ (.int .i64 par)).setCell ⟨tb, 2, none⟩ (.slice o75 A.length c75)).setCell ⟨tb, 1, none⟩ (.int .i64 ep)) tb par ep (.slice o75 A.length c75) (.pointer none) (.pointer none) 0 (.int .i64 0) (.int .i64 0) (.int .i64 0) (.int .i64 0) (.slice none 0 0) from obj_set (obj_set (obj_set T2.out 0 _) 2 _) 1 _)
  have N3 := Lib.hid (show NodeAt (((z.setCell ⟨tb, 0, none⟩ (.int .i64 par)).setCell ⟨tb, 2, none⟩ (.slice o75 A.length c75)).setCell ⟨tb, 1, none⟩ (.int .i64 ep)) b now id last (fun j => if j = k then .pointer (some ⟨tb, 0, none⟩) else T j) sm pl lt from obj_other (obj_other (obj_other N2.out hne.out _) hne.out _) hne.out _)
  have K3 := Lib.hid (show Below b w (((z.setCell ⟨tb, 0, none⟩ (.int .i64 par)).setCell ⟨tb, 2, none⟩ (.slice o75 A.length c75)).setCell ⟨tb, 1, none⟩ (.int .i64 ep)) from Below.setCell (Below.setCell (Below.setCell K2.out (Nat.le_of_lt HBT.out) _) (Nat.le_of_lt HBT.out) _) (Nat.le_of_lt HBT.out) _)
  refine abs_n (fun y => Hid (TrackAt y tb par ep (.slice o75 A.length c75) (.pointer none) (.pointer none) 0 (.int .i64 0) (.int .i64 0) (.int .i64 0) (.int .i64 0) (.slice none 0 0)) ∧ Hid (NodeAt y b now id last (fun j => if j = k then .pointer (some ⟨tb, 0, none⟩) else T j) sm pl lt) ∧ Hid (Below b w y)) ⟨T3, N3, K3⟩ ?_
  clear T3 N3 K3 T2 N2 K2 t0 t1 t2 g0 g1 g2 CL T1 N1 K1 hLT
  rintro y3 ⟨T1, N1, K1⟩
  have TF := Lib.hid (trackFresh_any tb par ep _ _ _ _ _ _ _ _ _ y3 T1.out)
  have hLT := Lib.hid (show b ≤ y3.heap.size from Nat.le_of_lt (lt_of_block N1.out))
  go_upto_region 19 with (go_at_call 34; (with_reducible refine TF.out.mono ?_); rintro e z2 ⟨rfl, ⟨gp, rg, hT2⟩, hK2⟩; have T2 := Lib.hid hT2; have N2 := Lib.hid (show NodeAt z2 b now id last (fun j => if j = k then .pointer (some ⟨tb, 0, none⟩) else T j) sm pl lt from Keeps.heap hK2 N1.out (fun e => hne.out e.symm)); have K2 := Lib.hid (K1.out.trans (hK2.below hLT.out (Nat.le_of_lt HBT.out))); clear hT2 hK2)
  refine abs_n (fun y => Hid (TrackAt y tb par ep (.slice o75 A.length c75) gp rg (-1) (.int .i64 0) (.int .i64 0) (.int .i64 0) (.int .i64 0) (.slice none 0 0)) ∧ Hid (NodeAt y b now id last (fun j => if j = k then .pointer (some ⟨tb, 0, none⟩) else T j) sm pl lt) ∧ Hid (Below b w y)) ⟨T2, N2, K2⟩ ?_
  clear T2 N2 K2 TF T1 N1 K1 hLT
  rintro y4 ⟨T1, N1, K1⟩
  obtain ⟨-, -, -, c12, -, -⟩ := N1.out.cells
  have hm := HM.out.below K1.out HSM.out
  have hLT := Lib.hid (lt_of_block N1.out)
  go_upto_region 20 with (at_range; refine wpList_mrange _ rfl _ 66 rfl 3 84 slaw Tryz.underlying66 sm 0 _ rfl hm ?_; intro w0 hrg0 hg0 hs0)
  have KK : Below y4.heap.size y4 w0 := ⟨hg0.os, hg0.tape, hg0.output, hg0.size, fun k hk => hg0.block k (by omega) (by simp)⟩
  have T2 := Lib.hid (show TrackAt w0 tb par ep (.slice o75 A.length c75) gp rg (-1) (.int .i64 0) (.int .i64 0) (.int .i64 0) (.int .i64 0) (.slice none 0 0) from Below.heapAt KK T1.out (lt_of_block T1.out))
  have N2 := Lib.hid (show NodeAt w0 b now id last (fun j => if j = k then .pointer (some ⟨tb, 0, none⟩) else T j) sm pl lt from Below.heapAt KK N1.out hLT.out)
  have K2 := Lib.hid (K1.out.trans (KK.mono (Nat.le_of_lt hLT.out)))
  generalize y4.heap.size = r at *
  go_frame
  clear hm hg0 hs0 KK T1 N1 K1 c12
  go_loopw [16, 17] (fun _ _ z => w0 = z) (fun _ _ z => 0)
  case atStart => rfl
  case round =>
    obtain rfl := hrel
    go_wp2_with (at_next; refine wpList_mnext _ rfl _ rfl 3 slaw Tryz.underlying3 sm r 0 _ _ 0 rfl hrg0 ?_ ?_)
    go_ret
    exact ⟨rfl, tb, _, gp, rg, _, _, _, _, _, HBT.out, N2.out, T2.out, K2.out⟩
end Go.Proofs.YtcicfchpcbfdkaaGreatDoor
