import Derived.Test.YtcicfchpcbfdkaaGreatDoorNodeP
/-! node: get, fresh of a track, fresh of a subscriber. -/
namespace Go.Proofs.YtcicfchpcbfdkaaGreatDoor
open Go.RowKit
set_option linter.unusedVariables false
set_option linter.unusedSimpArgs false
theorem nodeGet_range (b : Nat) (tr : Int) (ht : ¬ (1 ≤ tr ∧ tr ≤ 8)) (w : World) :
    Calls Tryz.prog 28 #[.pointer (some ⟨b, 0, none⟩), .int .i64 tr] w fun e w' => e = .returned (.tuple #[.pointer none, .iface 62 (.int .i64 1)]) ∧ w = w' := by
  have TK := Lib.hid (pullTrack_bad tr ht w)
  clear ht
  go_enter Tryz.func28, Tryz.ntmps28
  go_wp2_with (go_at_call 37; go_loud (refine TK.out.mono ?_; rintro e w1 ⟨rfl, rfl⟩))
  go_ret2
  exact ⟨rfl, rfl⟩
theorem nodeGet_none (b : Nat) (now id last : Int) (T : Nat → Value) (sm pl : Nat) (lt : Value) (k : Nat) (hk : 1 ≤ k ∧ k ≤ 8) (hT : T k = .pointer none) (w : World) (h : NodeAt w b now id last T sm pl lt) :
    Calls Tryz.prog 28 #[.pointer (some ⟨b, 0, none⟩), .int .i64 (k : Int)] w fun e w' => e = .returned (.tuple #[.pointer none, .iface 62 (.int .i64 5)]) ∧ w = w' := by
  have TK := Lib.hid (pullTrack_ok k (by omega) w)
  have c := h.track k (by omega)
  rw [hT] at c
  have e1 : (k : Int) < 9 := by omega
  have e2 : k < 9 := by omega
  clear h
  go_enter Tryz.func28, Tryz.ntmps28
  go_wp2_with (go_at_call 37; go_loud (refine TK.out.mono ?_; rintro e w1 ⟨rfl, rfl⟩))
  go_ret2
  exact ⟨rfl, rfl⟩
theorem nodeGet_some (b : Nat) (now id last : Int) (T : Nat → Value) (sm pl : Nat) (lt : Value) (k tb : Nat) (hk : 1 ≤ k ∧ k ≤ 8) (hT : T k = .pointer (some ⟨tb, 0, none⟩)) (w : World) (h : NodeAt w b now id last T sm pl lt) :
    Calls Tryz.prog 28 #[.pointer (some ⟨b, 0, none⟩), .int .i64 (k : Int)] w fun e w' => e = .returned (.tuple #[.pointer (some ⟨tb, 0, none⟩), .nilIface]) ∧ w = w' := by
  have TK := Lib.hid (pullTrack_ok k (by omega) w)
  have c := h.track k (by omega)
  rw [hT] at c
  have e1 : (k : Int) < 9 := by omega
  have e2 : k < 9 := by omega
  clear h
  go_enter Tryz.func28, Tryz.ntmps28
  go_wp2_with (go_at_call 37; go_loud (refine TK.out.mono ?_; rintro e w1 ⟨rfl, rfl⟩))
  go_ret2
  exact ⟨rfl, rfl⟩
set_option maxHeartbeats 1000000 in
theorem trackFresh_any (b : Nat) (par ep : Int) (kv gp rg : Value) (top : Int) (h0 h1 h2 h3 h4 : Value) (w : World) (h : TrackAt w b par ep kv gp rg top h0 h1 h2 h3 h4) :
    Calls Tryz.prog 34 #[.pointer (some ⟨b, 0, none⟩)] w fun e w' => e = .returned .nilIface ∧ (∃ gp' rg', TrackAt w' b par ep kv gp' rg' (-1) h0 h1 h2 h3 h4) ∧ KeepsBut b w w' := by
  have f5 := obj_free h 5
  have T1 := Lib.hid (show TrackAt (w.setCell ⟨b, 5, none⟩ (.int .i64 (-1))) b par ep kv gp rg (-1) h0 h1 h2 h3 h4 from obj_set h 5 _)
  have K1 := Lib.hid (KeepsBut.set (KeepsBut.refl b w) 5 (.int .i64 (-1)))
  have c5 := obj_cell h (k := 5) rfl
  clear h
  go_enter Tryz.func34, Tryz.ntmps34
  go_upto_region 2 with fail
  refine abs_n (fun y => Hid (TrackAt y b par ep kv gp rg (-1) h0 h1 h2 h3 h4) ∧ Hid (KeepsBut b w y)) ⟨T1, K1⟩ ?_
  clear T1 K1 f5 c5
  rintro y ⟨T1, K1⟩
  have GN := Lib.hid (gapsNew_ok 3 3 (by decide) (by decide) (by decide) (by decide) y)
  have hb := Lib.hid (lt_of_block T1.out)
  go_upto_region 5 with (go_at_call 63; go_loud ((with_reducible refine GN.out.mono ?_); rintro e w2 ⟨gb, bm, rfl, -, k2⟩; have T2 := Lib.hid (show TrackAt w2 b par ep kv gp rg (-1) h0 h1 h2 h3 h4 from Below.heapAt k2 T1.out hb.out); have K2 := Lib.hid (show KeepsBut b w w2 from Keeps.trans K1.out (Below.toKeeps k2 (Nat.le_refl _))); have f3 := obj_free T2.out 3; have c3 := obj_cell T2.out (k := 3) rfl; have T3 := Lib.hid (show TrackAt (w2.setCell ⟨b, 3, none⟩ (.pointer (some ⟨gb, 0, none⟩))) b par ep kv (.pointer (some ⟨gb, 0, none⟩)) rg (-1) h0 h1 h2 h3 h4 from obj_set T2.out 3 _); have K3 := Lib.hid (KeepsBut.set K2.out 3 (.pointer (some ⟨gb, 0, none⟩))); clear k2))
  refine abs_n (fun y => Hid (TrackAt y b par ep kv (.pointer (some ⟨gb, 0, none⟩)) rg (-1) h0 h1 h2 h3 h4) ∧ Hid (KeepsBut b w y)) ⟨T3, K3⟩ ?_
  clear T3 K3 T2 K2 f3 c3 GN T1 K1 hb
  rintro y2 ⟨T1, K1⟩
  have RN := Lib.hid (ringNew_ok 64 (by decide) (by decide) y2)
  have hb := Lib.hid (lt_of_block T1.out)
  go_wp2_with (go_at_call 64; go_loud ((with_reducible refine RN.out.mono ?_); rintro e w3 ⟨rb, bm2, rfl, _, _, _, k2⟩; have T2 := Lib.hid (show TrackAt w3 b par ep kv (.pointer (some ⟨gb, 0, none⟩)) rg (-1) h0 h1 h2 h3 h4 from Below.heapAt k2 T1.out hb.out); have K2 := Lib.hid (show KeepsBut b w w3 from Keeps.trans K1.out (Below.toKeeps k2 (Nat.le_refl _))); have f3 := obj_free T2.out 4; have c3 := obj_cell T2.out (k := 4) rfl; have T3 := Lib.hid (show TrackAt (w3.setCell ⟨b, 4, none⟩ (.pointer (some ⟨rb, 0, none⟩))) b par ep kv (.pointer (some ⟨gb, 0, none⟩)) (.pointer (some ⟨rb, 0, none⟩)) (-1) h0 h1 h2 h3 h4 from obj_set T2.out 4 _); have K3 := Lib.hid (KeepsBut.set K2.out 4 (.pointer (some ⟨rb, 0, none⟩))); clear k2))
  go_ret
  exact ⟨rfl, ⟨_, _, T3.out⟩, K3.out⟩
set_option maxHeartbeats 1000000 in
theorem subFresh_any (b : Nat) (tr most : Int) (ov lv uv gv : Value) (hm : 0 ≤ most ∧ most ≤ 3) (w : World) (h : SubAt w b tr most ov lv uv gv) :
    Calls Tryz.prog 35 #[.pointer (some ⟨b, 0, none⟩)] w fun e w' => e = .returned .nilIface ∧ (∃ ov' lv' uv', SubAt w' b tr most ov' lv' uv' gv) ∧ KeepsBut b w w' := by
  have ON := Lib.hid (orderNew_ok 10 (by decide) (by decide) w)
  have HM := Lib.hid hm
  have T1 := Lib.hid h
  have K1 := Lib.hid (KeepsBut.refl b w)
  have hb := Lib.hid (lt_of_block h)
  clear h hm
  go_enter Tryz.func35, Tryz.ntmps35
  go_upto_region 4 with (go_at_call 65; go_loud ((with_reducible refine ON.out.mono ?_); rintro e w2 ⟨gb, bm, rfl, _, _, _, _, _, k2⟩; have T2 := Lib.hid (show SubAt w2 b tr most ov lv uv gv from Below.heapAt k2 T1.out hb.out); have K2 := Lib.hid (show KeepsBut b w w2 from Keeps.trans K1.out (Below.toKeeps k2 (Nat.le_refl _))); have f3 := obj_free T2.out 2; have c3 := obj_cell T2.out (k := 2) rfl; have T3 := Lib.hid (show SubAt (w2.setCell ⟨b, 2, none⟩ (.pointer (some ⟨gb, 0, none⟩))) b tr most (.pointer (some ⟨gb, 0, none⟩)) lv uv gv from obj_set T2.out 2 _); have K3 := Lib.hid (KeepsBut.set K2.out 2 (.pointer (some ⟨gb, 0, none⟩))); clear k2))
  refine abs_n (fun y => Hid (SubAt y b tr most (.pointer (some ⟨gb, 0, none⟩)) lv uv gv) ∧ Hid (KeepsBut b w y)) ⟨T3, K3⟩ ?_
  clear T3 K3 T2 K2 f3 c3 ON T1 K1 hb
  rintro y ⟨T1, K1⟩
  have LN := Lib.hid (layerNew_ok most HM.out.1 HM.out.2 y)
  have hb := Lib.hid (lt_of_block T1.out)
  have c1 := obj_cell T1.out (k := 1) rfl
  go_upto_region 7 with (go_at_call 66; go_loud ((with_reducible refine LN.out.mono ?_); rintro e w3 ⟨lb, rfl, _, _, k2⟩; have T2 := Lib.hid (show SubAt w3 b tr most (.pointer (some ⟨gb, 0, none⟩)) lv uv gv from Below.heapAt k2 T1.out hb.out); have K2 := Lib.hid (show KeepsBut b w w3 from Keeps.trans K1.out (Below.toKeeps k2 (Nat.le_refl _))); have f3 := obj_free T2.out 3; have c3 := obj_cell T2.out (k := 3) rfl; have T3 := Lib.hid (show SubAt (w3.setCell ⟨b, 3, none⟩ (.pointer (some ⟨lb, 0, none⟩))) b tr most (.pointer (some ⟨gb, 0, none⟩)) (.pointer (some ⟨lb, 0, none⟩)) uv gv from obj_set T2.out 3 _); have K3 := Lib.hid (KeepsBut.set K2.out 3 (.pointer (some ⟨lb, 0, none⟩))); clear k2))
  refine abs_n (fun y => Hid (SubAt y b tr most (.pointer (some ⟨gb, 0, none⟩)) (.pointer (some ⟨lb, 0, none⟩)) uv gv) ∧ Hid (KeepsBut b w y)) ⟨T3, K3⟩ ?_
  clear T3 K3 T2 K2 f3 c3 LN T1 K1 hb c1
  rintro y2 ⟨T1, K1⟩
  have UN := Lib.hid (outNew_ok 0 0 (by decide) ⟨by decide, by decide⟩ y2)
  have hb := Lib.hid (lt_of_block T1.out)
  go_wp2_with (go_at_call 67; go_loud ((with_reducible refine UN.out.mono ?_); rintro e w4 ⟨ub, rfl, _, _, k2⟩; have T2 := Lib.hid (show SubAt w4 b tr most (.pointer (some ⟨gb, 0, none⟩)) (.pointer (some ⟨lb, 0, none⟩)) uv gv from Below.heapAt k2 T1.out hb.out); have K2 := Lib.hid (show KeepsBut b w w4 from Keeps.trans K1.out (Below.toKeeps k2 (Nat.le_refl _))); have f3 := obj_free T2.out 4; have c3 := obj_cell T2.out (k := 4) rfl; have T3 := Lib.hid (show SubAt (w4.setCell ⟨b, 4, none⟩ (.pointer (some ⟨ub, 0, none⟩))) b tr most (.pointer (some ⟨gb, 0, none⟩)) (.pointer (some ⟨lb, 0, none⟩)) (.pointer (some ⟨ub, 0, none⟩)) gv from obj_set T2.out 4 _); have K3 := Lib.hid (KeepsBut.set K2.out 4 (.pointer (some ⟨ub, 0, none⟩))); clear k2))
  go_ret
  exact ⟨rfl, ⟨_, _, _, T3.out⟩, K3.out⟩
end Go.Proofs.YtcicfchpcbfdkaaGreatDoor
