import Derived.Test.YtcicfchpcbfdkaaGreatDoorNodeO
import Derived.Test.YtcicfchpcbfdkaaGreatDoorClock
/-! node: Sub, Send where it may not be, Out. -/
namespace Go.Proofs.YtcicfchpcbfdkaaGreatDoor
open Go.RowKit
set_option linter.unusedVariables false
set_option linter.unusedSimpArgs false
theorem nodeOut_none (b : Nat) (now id last : Int) (T : Nat → Value) (sm pl : Nat) (w : World) (h : NodeAt w b now id last T sm pl (.slice none 0 0)) :
    Calls Tryz.prog 12 #[.pointer (some ⟨b, 0, none⟩)] w fun e w' => e = .returned (.slice none 0 0) ∧ KeepsBut b w w' := by
  have c14 := h.cells.2.2.2.2.2
  have f14 := obj_free h 14
  clear h
  go_enter Tryz.func12, Tryz.ntmps12
  go_wp2_with fail
  go_ret
  exact ⟨rfl, KeepsBut.set (KeepsBut.refl b w) 14 _⟩
set_option maxHeartbeats 1000000 in
theorem nodeSend_none (b : Nat) (now id last : Int) (T : Nat → Value) (sm pl : Nat) (lt : Value) (k : Nat) (hk : 1 ≤ k ∧ k ≤ 8) (hT : T k = .pointer none) (at' : Int) (hc : Pl.clockOk now at') (s t l lv : Int) (st : Bool) (bv : Value) (w : World) (h : NodeAt w b now id last T sm pl lt) :
    Calls Tryz.prog 8 #[.pointer (some ⟨b, 0, none⟩), .int .i64 (k : Int), pkV s t l lv st bv, .int .i64 at'] w fun e w' => e = .returned (.iface 62 (.int .i64 5)) ∧ Below w.heap.size w w' := by
  have kA : Below w.heap.size w (w.alloc (.cells #[.int .i64 s, .int .i64 t, .int .i64 l, .int .i64 lv, .bool st, bv] 31)) := (Below.refl _ _).alloc (Nat.le_refl _) _
  have N1 := Lib.hid (show NodeAt (w.alloc (.cells #[.int .i64 s, .int .i64 t, .int .i64 l, .int .i64 lv, .bool st, bv] 31)) b now id last T sm pl lt from Below.heapAt kA h (lt_of_block h))
  have KA := Lib.hid kA
  clear h kA
  go_enter Tryz.func8, Tryz.ntmps8
  go_upto_region 1 with fail
  refine abs_n (fun y => Hid (NodeAt y b now id last T sm pl lt) ∧ Hid (Below w.heap.size w y)) ⟨N1, KA⟩ ?_
  clear N1 KA
  rintro y ⟨N1, KA⟩
  have c0 := N1.out.cells.1
  have CK := Lib.hid (clockCheck_ok b 0 now at' hc y c0)
  have GT := Lib.hid (nodeGet_none b now id last T sm pl lt k hk hT y N1.out)
  clear hc hT
  go_wp2_with (first
    | (go_at_call 27; (with_reducible refine CK.out.mono ?_); rintro e w1 ⟨rfl, rfl⟩)
    | (go_at_call 28; (with_reducible refine GT.out.mono ?_); rintro e w1 ⟨rfl, rfl⟩))
  go_ret
  exact ⟨rfl, KA.out⟩
set_option maxHeartbeats 1000000 in
theorem nodeSend_state (b : Nat) (now id last : Int) (T : Nat → Value) (sm pl : Nat) (lt : Value) (k tb : Nat) (hk : 1 ≤ k ∧ k ≤ 8) (hT : T k = .pointer (some ⟨tb, 0, none⟩)) (at' : Int) (hc : Pl.clockOk now at') (par ep : Int) (kv gp rg : Value) (top : Int) (h0 h1 h2 h3 h4 : Value) (hp : 0 ≤ par) (s t l lv : Int) (st : Bool) (bv : Value) (w : World) (h : NodeAt w b now id last T sm pl lt) (ht : TrackAt w tb par ep kv gp rg top h0 h1 h2 h3 h4) :
    Calls Tryz.prog 8 #[.pointer (some ⟨b, 0, none⟩), .int .i64 (k : Int), pkV s t l lv st bv, .int .i64 at'] w fun e w' => e = .returned (.iface 62 (.int .i64 6)) ∧ Below w.heap.size w w' := by
  have kA : Below w.heap.size w (w.alloc (.cells #[.int .i64 s, .int .i64 t, .int .i64 l, .int .i64 lv, .bool st, bv] 31)) := (Below.refl _ _).alloc (Nat.le_refl _) _
  have N1 := Lib.hid (show NodeAt (w.alloc (.cells #[.int .i64 s, .int .i64 t, .int .i64 l, .int .i64 lv, .bool st, bv] 31)) b now id last T sm pl lt from Below.heapAt kA h (lt_of_block h))
  have T1 := Lib.hid (show TrackAt (w.alloc (.cells #[.int .i64 s, .int .i64 t, .int .i64 l, .int .i64 lv, .bool st, bv] 31)) tb par ep kv gp rg top h0 h1 h2 h3 h4 from Below.heapAt kA ht (lt_of_block ht))
  have KA := Lib.hid kA
  clear h kA ht
  go_enter Tryz.func8, Tryz.ntmps8
  go_upto_region 1 with fail
  refine abs_n (fun y => Hid (NodeAt y b now id last T sm pl lt) ∧ Hid (TrackAt y tb par ep kv gp rg top h0 h1 h2 h3 h4) ∧ Hid (Below w.heap.size w y)) ⟨N1, T1, KA⟩ ?_
  clear N1 T1 KA
  rintro y ⟨N1, T1, KA⟩
  have c0 := N1.out.cells.1
  have t0 := obj_cell T1.out (k := 0) rfl
  have CK := Lib.hid (clockCheck_ok b 0 now at' hc y c0)
  have GT := Lib.hid (nodeGet_some b now id last T sm pl lt k tb hk hT y N1.out)
  clear hc hT
  go_wp2_with (first
    | (go_at_call 27; (with_reducible refine CK.out.mono ?_); rintro e w1 ⟨rfl, rfl⟩)
    | (go_at_call 28; (with_reducible refine GT.out.mono ?_); rintro e w1 ⟨rfl, rfl⟩))
  go_ret
  exact ⟨rfl, KA.out⟩
/-- what Sub leaves -/
structure SubSt (M : Nat) (w : World) (b : Nat) (now id last : Int) (T : Nat → Value) (sm pl : Nat) (lt : Value) (S : Int → Option Value) (c : Nat) (tb : Nat) (par ep : Int) (kv gp rg : Value) (top : Int) (h0 h1 h2 h3 h4 : Value) (y : World) : Prop where
  at_ : NodeAt y b now id last T sm pl lt
  subs : SubsOk y b S
  map : MapAt Tryz.prog 3 y sm c S
  track : TrackAt y tb par ep kv gp rg top h0 h1 h2 h3 h4
  kb : Below M w y
set_option maxRecDepth 100000 in
set_option maxHeartbeats 4000000 in
theorem nodeSub_first (M : Nat) (b : Nat) (now id : Int) (T : Nat → Value) (sm pl : Nat) (lt : Value) (k tb : Nat) (hk : 1 ≤ k ∧ k ≤ 8) (most : Int) (hmo : 0 ≤ most ∧ most ≤ 3) (hT : T k = .pointer (some ⟨tb, 0, none⟩)) (par ep : Int) (kv gp rg : Value) (top : Int) (h0 h1 h2 h3 h4 : Value) (now' th : Int) (mp : Nat → Nat) (told asked : Nat → Int) (C : Nat → Nat) (F : Nat → Int → Option Int) (hC : ∀ j, C j ≤ 1000) (w : World) (h : NodeAt w b now id 0 T sm pl lt) (ht : TrackAt w tb par ep kv gp rg top h0 h1 h2 h3 h4) (hbt : b < tb) (hm : MapAt Tryz.prog 3 w sm 0 (fun _ => none)) (hp : Pul M w pl now' th mp told asked C F) (hs : M ≤ sm ∧ pl < sm ∧ sm < b ∧ ∀ j, j < 9 → mp j < sm) :
    Calls Tryz.prog 11 #[.pointer (some ⟨b, 0, none⟩), .int .i64 (k : Int), .int .i64 most] w fun e w' => e = .returned (.tuple #[.int .i64 1, .nilIface]) ∧ ∃ S c, SubSt M w b now id 1 T sm pl lt S c tb par ep kv gp rg top h0 h1 h2 h3 h4 w' := by
  have TK := Lib.hid (fun y => pullTrack_ok k (by omega) y)
  have GT := Lib.hid (nodeGet_some b now id 0 T sm pl lt k tb hk hT w h)
  obtain ⟨m0, m1⟩ := hmo
  have HMO := Lib.hid (And.intro m0 m1)
  have n0 : ¬ most < 0 := by omega
  have n1 : ¬ 3 < most := by omega
  obtain ⟨-, -, -, c12, -, -⟩ := h.cells
  have hbw := lt_of_block h
  obtain ⟨sb, hsb⟩ : ∃ sb, w.heap.size = sb := ⟨_, rfl⟩
  have kA : Below w.heap.size w (w.alloc (.cells #[.int .i64 (k : Int), .int .i64 most, .pointer none, .pointer none, .pointer none, .slice none 0 0] 89)) := (Below.refl _ _).alloc (Nat.le_refl _) _
  have U1 := Lib.hid (show SubAt (w.alloc (.cells #[.int .i64 (k : Int), .int .i64 most, .pointer none, .pointer none, .pointer none, .slice none 0 0] 89)) sb k most (.pointer none) (.pointer none) (.pointer none) (.slice none 0 0) from by rw [← hsb]; exact obj_new _ _)
  have N1 := Lib.hid (show NodeAt (w.alloc (.cells #[.int .i64 (k : Int), .int .i64 most, .pointer none, .pointer none, .pointer none, .slice none 0 0] 89)) b now id 0 T sm pl lt from Below.heapAt kA h hbw)
  have T1 := Lib.hid (show TrackAt (w.alloc (.cells #[.int .i64 (k : Int), .int .i64 most, .pointer none, .pointer none, .pointer none, .slice none 0 0] 89)) tb par ep kv gp rg top h0 h1 h2 h3 h4 from Below.heapAt kA ht (lt_of_block ht))
  have M1 := Lib.hid (hm.below kA hm.lt)
  have P1 := Lib.hid (hp.below kA)
  have K1 := Lib.hid (show Below M w (w.alloc (.cells #[.int .i64 (k : Int), .int .i64 most, .pointer none, .pointer none, .pointer none, .slice none 0 0] 89)) from kA.mono (by omega))
  have HX := Lib.hid (show b < sb ∧ tb < sb ∧ sm < sb ∧ pl < sb ∧ M ≤ sb ∧ (∀ j, j < 9 → mp j < sb) ∧ sb ≠ b from by
    have := lt_of_block ht
    exact ⟨by omega, by omega, by omega, by omega, by omega, fun j hj => by have := hs.2.2.2 j hj; omega, by omega⟩)
  have HS := Lib.hid hs
  have HBT := Lib.hid hbt
  have HC := Lib.hid hC
  have hmap := hm
  clear h ht hm hp hT hs hbt hC kA
  go_enter Tryz.func11, Tryz.ntmps11
  go_upto_region 9 with (first
    | (go_at_call 37; refine (TK.out _).mono ?_; rintro e w1 ⟨rfl, rfl⟩)
    | (go_at_call 28; (with_reducible refine GT.out.mono ?_); rintro e w1 ⟨rfl, rfl⟩)
    | (at_len; refine wpList_mlen _ rfl _ 66 rfl 3 84 Tryz.underlying66 sm 0 _ rfl hmap ?_; rw [show ((0 : Nat) : Int) = 0 from rfl]))
  refine abs_n (fun y => Hid (SubAt y sb k most (.pointer none) (.pointer none) (.pointer none) (.slice none 0 0)) ∧ Hid (NodeAt y b now id 0 T sm pl lt) ∧ Hid (TrackAt y tb par ep kv gp rg top h0 h1 h2 h3 h4) ∧ Hid (MapAt Tryz.prog 3 y sm 0 (fun _ => none)) ∧ Hid (Pul M y pl now' th mp told asked C F) ∧ Hid (Below M w y)) ⟨U1, N1, T1, M1, P1, K1⟩ ?_
  try rw [hsb]
  clear U1 N1 T1 M1 P1 K1 hmap GT TK c12 hsb
  rintro y ⟨U1, N1, T1, M1, P1, K1⟩
  have SF := Lib.hid (subFresh_any sb k most _ _ _ _ HMO.out y U1.out)
  have hMy := Lib.hid (show M ≤ y.heap.size from by have := lt_of_block U1.out; have := HX.out.2.2.2.2.1; omega)
  go_upto_region 12 with (go_at_call 35; (with_reducible refine SF.out.mono ?_); rintro e z ⟨rfl, ⟨ov', lv', uv', hs2⟩, hK2⟩; have U2 := Lib.hid hs2; have N2 := Lib.hid (show NodeAt z b now id 0 T sm pl lt from Keeps.heap hK2 N1.out (fun e => by have := HX.out.1; omega)); have T2 := Lib.hid (show TrackAt z tb par ep kv gp rg top h0 h1 h2 h3 h4 from Keeps.heap hK2 T1.out (fun e => by have := HX.out.2.1; omega)); have M2 := Lib.hid (M1.out.block (hK2.block sm M1.out.lt (fun e => by have := HX.out.2.2.1; omega))); have P2 := Lib.hid (show Pul M z pl now' th mp told asked C F from ⟨Keeps.heap hK2 P1.out.at_ (fun e => by have := HX.out.2.2.2.1; omega), fun j hj => (P1.out.map j hj).block (hK2.block _ (P1.out.map j hj).lt (fun e => by have := HX.out.2.2.2.2.2.1 j hj; omega)), P1.out.ne, P1.out.inj, P1.out.low⟩); have K2 := Lib.hid (K1.out.trans (hK2.below hMy.out HX.out.2.2.2.2.1)); clear hs2 hK2)
  have c2 := N2.out.cells.2.2.1
  have f2 := obj_free N2.out 2
  have N3 := Lib.hid (show NodeAt (z.setCell ⟨b, 2, none⟩ (.int .i64 1)) b now id 1 T sm pl lt from obj_set N2.out 2 _)
  have U3 := Lib.hid (show SubAt (z.setCell ⟨b, 2, none⟩ (.int .i64 1)) sb k most ov' lv' uv' (.slice none 0 0) from obj_other U2.out (by have := HX.out.1; show b ≠ sb; omega) _)
  have T3 := Lib.hid (show TrackAt (z.setCell ⟨b, 2, none⟩ (.int .i64 1)) tb par ep kv gp rg top h0 h1 h2 h3 h4 from obj_other T2.out (by have := HBT.out; show b ≠ tb; omega) _)
  have M3 := Lib.hid (M2.out.block (w' := z.setCell ⟨b, 2, none⟩ (.int .i64 1)) (Below.heap_setCell _ _ _ _ (by have := HS.out.2.2.1; show sm ≠ b; omega)))
  have P3 := Lib.hid (show Pul M (z.setCell ⟨b, 2, none⟩ (.int .i64 1)) pl now' th mp told asked C F from ⟨obj_other P2.out.at_ (by have := HS.out; show b ≠ pl; omega) _, fun j hj => (P2.out.map j hj).block (Below.heap_setCell _ _ _ _ (by have := HS.out.2.2.2 j hj; have := HS.out.2.2.1; show mp j ≠ b; omega)), P2.out.ne, P2.out.inj, P2.out.low⟩)
  have K3 := Lib.hid (show Below M w (z.setCell ⟨b, 2, none⟩ (.int .i64 1)) from Below.setCell K2.out (by have := HS.out; show M ≤ b; omega) _)
  clear U1 N1 T1 M1 P1 K1 SF hMy
  go_upto_region 13 with fail
  refine abs_n (fun y => Hid (SubAt y sb k most ov' lv' uv' (.slice none 0 0)) ∧ Hid (NodeAt y b now id 1 T sm pl lt) ∧ Hid (TrackAt y tb par ep kv gp rg top h0 h1 h2 h3 h4) ∧ Hid (MapAt Tryz.prog 3 y sm 0 (fun _ => none)) ∧ Hid (Pul M y pl now' th mp told asked C F) ∧ Hid (Below M w y)) ⟨U3, N3, T3, M3, P3, K3⟩ ?_
  clear U3 N3 T3 M3 P3 K3 U2 N2 T2 M2 P2 K2 c2 f2
  rintro y2 ⟨U1, N1, T1, M1, P1, K1⟩
  obtain ⟨-, -, c2, c12, -, -⟩ := N1.out.cells
  go_still_tail 9, (by kernel_rfl)
  change wpList _ _ _ _ _ y2.drew
  have kD : Below y2.heap.size y2 y2.drew := Below.drewN (Below.refl _ _) 1
  have U2 := Lib.hid (show SubAt y2.drew sb k most ov' lv' uv' (.slice none 0 0) from U1.out)
  have N2 := Lib.hid (show NodeAt y2.drew b now id 1 T sm pl lt from N1.out)
  have T2 := Lib.hid (show TrackAt y2.drew tb par ep kv gp rg top h0 h1 h2 h3 h4 from T1.out)
  have hm2 : MapAt Tryz.prog 3 y2.drew sm 0 (fun _ => none) := M1.out
  have P2 := Lib.hid (P1.out.below kD)
  have K2 := Lib.hid (show Below M w y2.drew from Below.drewN K1.out 1)
  clear U1 N1 T1 M1 P1 K1 c2 c12 kD
  generalize y2.drew = y3 at *
  have hw1 : (Lit.int .i64 1).wf = true := by decide
  go_upto_region 14 with (at_mapUpdate; refine wpList_mput _ rfl (.tmp 59) (.tmp 63) (.tmp 64) 66 rfl 3 84 slaw Tryz.underlying3 Tryz.underlying66 sm 0 _ rfl hm2 (by decide) 1 _ rfl rfl hw1 ?_; intro w6 hm6 hgr)
  simp only [Option.isSome_none, Bool.false_eq_true, if_false, Nat.zero_add] at hm6
  have kb6 : ∀ j, j < y3.heap.size → j ≠ sm → w6.heap[j]? = y3.heap[j]? := fun j hj hne => hgr.block j hj (fun e => hne (Option.some.inj e))
  have KM : Keeps (fun j => j = sm) y3 w6 := ⟨hgr.os, hgr.tape, hgr.output, hgr.size, fun j hj hne => kb6 j hj hne⟩
  have U4 := Lib.hid (show SubAt w6 sb k most ov' lv' uv' (.slice none 0 0) from Keeps.heap KM U2.out (fun e => by have := HX.out.2.2.1; omega))
  have N4 := Lib.hid (show NodeAt w6 b now id 1 T sm pl lt from Keeps.heap KM N2.out (fun e => by have := HS.out.2.2.1; omega))
  have T4 := Lib.hid (show TrackAt w6 tb par ep kv gp rg top h0 h1 h2 h3 h4 from Keeps.heap KM T2.out (fun e => by have := HS.out.2.2.1; have := HBT.out; omega))
  have P4 := Lib.hid (show Pul M w6 pl now' th mp told asked C F from ⟨Keeps.heap KM P2.out.at_ (fun e => by have := HS.out.2.1; omega), fun j hj => (P2.out.map j hj).block (KM.block _ (P2.out.map j hj).lt (fun e => by have := HS.out.2.2.2 j hj; omega)), P2.out.ne, P2.out.inj, P2.out.low⟩)
  have K4 := Lib.hid (K2.out.trans (KM.below (by have := lt_of_block N2.out; have := HS.out; omega) (fun j hj e => by have := HS.out.1; omega)))
  obtain ⟨S, hS⟩ : ∃ S : Int → Option Value, (fun j => if j = 1 then some (Value.pointer (some ⟨sb, 0, none⟩)) else none) = S := ⟨_, rfl⟩
  have hm7 : MapAt Tryz.prog 3 w6 sm 1 S := by rw [← hS]; exact hm6
  have SO := Lib.hid (show SubsOk w6 b S from fun i v hv => by
    rw [← hS] at hv
    dsimp only at hv
    split at hv
    · cases hv
      exact ⟨sb, k, most, ov', lv', uv', _, rfl, U4.out, HMO.out, by omega, HX.out.1⟩
    · cases hv)
  have M4 := Lib.hid hm7
  clear hm6 hm7 hgr kb6 KM U2 N2 T2 P2 K2 hS hm2 U4
  have WN := Lib.hid (nodeWants_any M b now id 1 T sm pl lt now' th mp told asked C F 1 S HC.out (by omega) ⟨HS.out.2.1, HS.out.2.2.1, HS.out.2.2.2⟩ w6 N4.out P4.out M4.out SO.out)
  have hwf : 1 = 1 := rfl
  have OWN := Lib.hid (show (∀ j, (j = pl ∨ ∃ i, i < 9 ∧ j = mp i) → j < sm) from fun j e => by rcases e with e | ⟨i, hi, e⟩; have := HS.out.2.1; omega; have := HS.out.2.2.2 i hi; omega)
  go_upto_region 15 with (go_at_call 38; (with_reducible refine WN.out.mono ?_); rintro e w7 ⟨rfl, hW⟩; have W7 := Lib.hid hW; clear hW)
  have c2 := W7.out.at_.cells.2.2.1
  have FIN := Lib.hid (show SubSt M w b now id 1 T sm pl lt S 1 tb par ep kv gp rg top h0 h1 h2 h3 h4 w7 from ⟨W7.out.at_, W7.out.subs, M4.out.block (W7.out.keep.block sm M4.out.lt (fun e => by have := OWN.out _ e; omega)), Keeps.heap W7.out.keep T4.out (fun e => by have := OWN.out _ e; have := HS.out.2.2.1; have := HBT.out; omega), K4.out.trans (W7.out.keep.below P4.out (by have := lt_of_block N4.out; have := HS.out; omega))⟩)
  clear W7 WN N4 T4 P4 K4 M4 SO
  go_wp2_with fail
  go_ret2
  exact ⟨rfl, S, 1, FIN.out⟩
end Go.Proofs.YtcicfchpcbfdkaaGreatDoor
