import Derived.Test.YtlfdkoebjddokaaDoorGaps
/-! gaps.Hear. -/
namespace Go.Proofs.YtlfdkoebjddokaaDoor
open Go.RowKit Go.Maps
set_option linter.unusedVariables false
set_option linter.unusedSimpArgs false
theorem MapAt.len_run {P : Program} {k e t : TypeId} {w : World} {b c : Nat} {f : Int → Option Value} (h : MapAt P k w b c f) (ht : P.underlying t = some (.map k e)) (ty : TypeId) : (Builtin.len_ #[t] ty #[.map (some b)]).run P w = .ok (.int .i64 c) w := by
  obtain ⟨D, h1, h2, _⟩ := h
  rw [h1.len ht ty, h2]
/-- the numbers between are lacking -/
def fillG (g : Int → Option (Int × Int)) (top k : Int) : Int → Option (Int × Int) := fun j => if top < j ∧ j < k then some (0, 0) else g j
theorem fillG.start (g : Int → Option (Int × Int)) (top : Int) : fillG g top (top + 1) = g := by
  funext j; unfold fillG; rw [if_neg (by omega)]
theorem fillG.step (g : Int → Option (Int × Int)) (top k : Int) (h : top + 1 ≤ k) : (fun j => if j = k then some (0, 0) else fillG g top k j) = fillG g top (k + 1) := by
  funext j; unfold fillG
  by_cases e : j = k
  · rw [if_pos e, if_pos (by omega)]
  · rw [if_neg e]
    by_cases h1 : top < j ∧ j < k
    · rw [if_pos h1, if_pos (by omega)]
    · rw [if_neg h1, if_neg (by omega)]
abbrev delG (g : Int → Option (Int × Int)) (k : Int) : Int → Option (Int × Int) := fun j => if j = k then none else g j
theorem hear_bad (b : Nat) (cur num now : Int) (again tries top : Int) (bm : Nat) (gv : Value) (hc : ¬ Pl.clockOk cur now) (w : World) (h : GapsAt w b cur again tries top bm gv) :
    Calls Tryd.prog 17 #[.pointer (some ⟨b, 0, none⟩), .int .i64 num, .int .i64 now] w fun e w' => e = .returned (.tuple #[.bool false, .iface 70 (.int .i64 (Pl.clockFault now))]) ∧ w = w' := by
  have k0 := obj_cell h (k := 0) rfl
  clear h
  go_enter Tryd.func17, Tryd.ntmps17
  go_wp2_with fail
  refine (clockCheck_bad b 0 cur now hc _ k0).mono ?_
  rintro e w' ⟨rfl, rfl⟩
  go_wp2_with fail
  go_ret2
  exact ⟨rfl, rfl⟩
theorem hear_range (b : Nat) (cur num now : Int) (again tries top : Int) (bm : Nat) (gv : Value) (hc : Pl.clockOk cur now) (hl : Pl.long num = false) (w : World) (h : GapsAt w b cur again tries top bm gv) :
    Calls Tryd.prog 17 #[.pointer (some ⟨b, 0, none⟩), .int .i64 num, .int .i64 now] w fun e w' => e = .returned (.tuple #[.bool false, .iface 70 (.int .i64 1)]) ∧ w = w' := by
  have k0 := obj_cell h (k := 0) rfl
  clear h
  go_enter Tryd.func17, Tryd.ntmps17
  go_wp2_with fail
  refine (clockCheck_ok b 0 cur now hc _ k0).mono ?_
  rintro e w' ⟨rfl, rfl⟩
  go_wp2_with fail
  refine (long_any num _).mono ?_
  rw [hl]
  rintro e w' ⟨rfl, rfl⟩
  go_wp2_with fail
  go_ret2
  exact ⟨rfl, rfl⟩
set_option maxRecDepth 100000 in
set_option maxHeartbeats 4000000 in
theorem hear_first' (M b : Nat) (cur again tries top num now : Int) (bm c : Nat) (g : Int → Option (Int × Int)) (gv : Value) (G : List Int) (hc : Pl.clockOk cur now) (hl : Pl.long num = true) (htop : top ≤ 1099511627776) (hcc : c ≤ 1000) (h0 : top < 0) (hg : g num = none) (w : World) (hM : M ≤ w.heap.size) (h : Gp M w b cur again tries top bm c g gv G) :
    Calls Tryd.prog 17 #[.pointer (some ⟨b, 0, none⟩), .int .i64 num, .int .i64 now] w fun e w' => e = .returned (.tuple #[.bool true, .nilIface]) ∧ Gp M w' b now again tries num bm c g gv G ∧ FG b bm gv w w' := by
  have hnum := (Pl.long_iff num).1 hl
  obtain ⟨hnum1, hnum2⟩ := hnum
  have hw : (Lit.int .i64 num).wf = true := by simp [Lit.wf, IntKind.min, IntKind.max, IntKind.signed, IntKind.bits]; omega
  have HC := Lib.hid hc
  clear hc
  have HF := Lib.hid (LF.none hg)
  clear hg
  have k0 := obj_cell h.at_ (k := 0) rfl
  go_enter Tryd.func17, Tryd.ntmps17
  go_wp2_with fail
  refine (clockCheck_ok b 0 cur now HC.out _ k0).mono ?_
  rintro e w' ⟨rfl, rfl⟩
  go_wp2_with fail
  refine (long_any num _).mono ?_
  rw [hl]
  rintro e w' ⟨rfl, rfl⟩
  have k4 := obj_cell h.at_ (k := 4) rfl
  have hm := h.map
  clear k0
  go_upto_region 9 with (at_lookup; refine wpList_mlook _ rfl (.tmp 28) (.tmp 29) 93 rfl 3 99 glaw Tryd.underlying3 Tryd.underlying93 (zeroAsked _) bm c _ rfl hm num rfl hw ?_; rw [HF.out]; simp only [Option.getD_none, Option.isSome_none])
  refine abs_at (fun y => Hid (Gp M y b cur again tries top bm c g gv G) ∧ Hid (FG b bm gv w y)) ⟨Lib.hid (h.below ((Below.refl _ _).alloc (Nat.le_refl _) _)), Lib.hid ((Keeps.refl _ _).alloc _)⟩ ?_
  clear hm k4 h
  rintro y ⟨h, kb⟩
  have k3 := obj_cell h.out.at_ (k := 3) rfl
  have f3 := obj_free h.out.at_ 3
  go_upto_region 21 with fail
  refine abs_at (fun z => Hid (Gp M z b cur again tries num bm c g gv G) ∧ Hid (FG b bm gv w z)) ⟨Lib.hid (h.out.set (obj_set h.out.at_ 3 _)), Lib.hid (Keeps.setCell kb.out (.inl (.inl rfl)) _)⟩ ?_
  clear k3 f3 kb h
  rintro z ⟨h, kb⟩
  have k0 := obj_cell h.out.at_ (k := 0) rfl
  have f0 := obj_free h.out.at_ 0
  go_wp2_with fail
  refine (clockSet_any b 0 now _ _ k0 f0).mono ?_
  rintro e w9 ⟨rfl, rfl⟩
  go_wp2_with fail
  go_ret2
  exact ⟨rfl, h.out.set (obj_set h.out.at_ 0 _), Keeps.setCell kb.out (.inl (.inl rfl)) _⟩
set_option maxRecDepth 100000 in
set_option maxHeartbeats 4000000 in
theorem hear_full' (M b : Nat) (cur again tries top num now : Int) (bm c : Nat) (g : Int → Option (Int × Int)) (gv : Value) (G : List Int) (hc : Pl.clockOk cur now) (hl : Pl.long num = true) (htop : top ≤ 1099511627776) (hcc : c ≤ 1000) (h0 : 0 ≤ top) (h1 : top < num) (hfull : 200 < num - top - 1 + c) (hg : g num = none) (w : World) (hM : M ≤ w.heap.size) (h : Gp M w b cur again tries top bm c g gv G) :
    Calls Tryd.prog 17 #[.pointer (some ⟨b, 0, none⟩), .int .i64 num, .int .i64 now] w fun e w' => e = .returned (.tuple #[.bool false, .iface 70 (.int .i64 4)]) ∧ Gp M w' b cur again tries top bm c g gv G ∧ FG b bm gv w w' := by
  have hnum := (Pl.long_iff num).1 hl
  obtain ⟨hnum1, hnum2⟩ := hnum
  have hw : (Lit.int .i64 num).wf = true := by simp [Lit.wf, IntKind.min, IntKind.max, IntKind.signed, IntKind.bits]; omega
  have HC := Lib.hid hc
  clear hc
  have HF := Lib.hid (LF.none hg)
  clear hg
  have k0 := obj_cell h.at_ (k := 0) rfl
  go_enter Tryd.func17, Tryd.ntmps17
  go_wp2_with fail
  refine (clockCheck_ok b 0 cur now HC.out _ k0).mono ?_
  rintro e w' ⟨rfl, rfl⟩
  go_wp2_with fail
  refine (long_any num _).mono ?_
  rw [hl]
  rintro e w' ⟨rfl, rfl⟩
  have k4 := obj_cell h.at_ (k := 4) rfl
  have hm := h.map
  clear k0
  go_upto_region 9 with (at_lookup; refine wpList_mlook _ rfl (.tmp 28) (.tmp 29) 93 rfl 3 99 glaw Tryd.underlying3 Tryd.underlying93 (zeroAsked _) bm c _ rfl hm num rfl hw ?_; rw [HF.out]; simp only [Option.getD_none, Option.isSome_none])
  refine abs_at (fun y => Hid (Gp M y b cur again tries top bm c g gv G) ∧ Hid (FG b bm gv w y)) ⟨Lib.hid (h.below ((Below.refl _ _).alloc (Nat.le_refl _) _)), Lib.hid ((Keeps.refl _ _).alloc _)⟩ ?_
  clear hm k4 h
  rintro y ⟨h, kb⟩
  have k3 := obj_cell h.out.at_ (k := 3) rfl
  have f3 := obj_free h.out.at_ 3
  have hlen : ∀ n ty, (Builtin.len_ #[93] ty #[.map (some bm)]).run Tryd.prog (y.drewN n) = .ok (.int .i64 c) (y.drewN n) := fun n ty => (h.out.drewN n).map.len_run Tryd.underlying93 ty
  have hlen0 : ∀ ty, (Builtin.len_ #[93] ty #[.map (some bm)]).run Tryd.prog y = .ok (.int .i64 c) y := fun ty => h.out.map.len_run Tryd.underlying93 ty
  have k4 := obj_cell h.out.at_ (k := 4) rfl
  go_upto_region 12 with fail
  go_quiet (fail)
  go_wp2_with fail
  go_ret2
  exact ⟨rfl, h.out.drewN _, Keeps.drewN kb.out _⟩
set_option maxRecDepth 100000 in
set_option maxHeartbeats 4000000 in
theorem hear_above' (M b : Nat) (cur again tries top num now : Int) (bm c : Nat) (g : Int → Option (Int × Int)) (gv : Value) (G : List Int) (hc : Pl.clockOk cur now) (hl : Pl.long num = true) (htop : top ≤ 1099511627776) (hcc : c ≤ 1000) (h0 : 0 ≤ top) (h1 : top < num) (hfits : num - top - 1 + c ≤ 200) (hg : g num = none) (w : World) (hM : M ≤ w.heap.size) (h : Gp M w b cur again tries top bm c g gv G) :
    Calls Tryd.prog 17 #[.pointer (some ⟨b, 0, none⟩), .int .i64 num, .int .i64 now] w fun e w' => ∃ c' : Nat, e = .returned (.tuple #[.bool true, .nilIface]) ∧ Gp M w' b now again tries num bm c' (fillG g top num) gv G ∧ (c' : Int) ≤ c + (num - top - 1) ∧ FG b bm gv w w' := by
  have hnum := (Pl.long_iff num).1 hl
  obtain ⟨hnum1, hnum2⟩ := hnum
  have hw : (Lit.int .i64 num).wf = true := by simp [Lit.wf, IntKind.min, IntKind.max, IntKind.signed, IntKind.bits]; omega
  have HC := Lib.hid hc
  clear hc
  have HF := Lib.hid (LF.none hg)
  clear hg
  have k0 := obj_cell h.at_ (k := 0) rfl
  go_enter Tryd.func17, Tryd.ntmps17
  go_wp2_with fail
  refine (clockCheck_ok b 0 cur now HC.out _ k0).mono ?_
  rintro e w' ⟨rfl, rfl⟩
  go_wp2_with fail
  refine (long_any num _).mono ?_
  rw [hl]
  rintro e w' ⟨rfl, rfl⟩
  have k4 := obj_cell h.at_ (k := 4) rfl
  have hm := h.map
  clear k0
  go_upto_region 9 with (at_lookup; refine wpList_mlook _ rfl (.tmp 28) (.tmp 29) 93 rfl 3 99 glaw Tryd.underlying3 Tryd.underlying93 (zeroAsked _) bm c _ rfl hm num rfl hw ?_; rw [HF.out]; simp only [Option.getD_none, Option.isSome_none])
  refine abs_at (fun y => Hid (Gp M y b cur again tries top bm c g gv G) ∧ Hid (FG b bm gv w y)) ⟨Lib.hid (h.below ((Below.refl _ _).alloc (Nat.le_refl _) _)), Lib.hid ((Keeps.refl _ _).alloc _)⟩ ?_
  clear hm k4 h
  rintro y ⟨h, kb⟩
  have k3 := obj_cell h.out.at_ (k := 3) rfl
  have f3 := obj_free h.out.at_ 3
  have hlen : ∀ n ty, (Builtin.len_ #[93] ty #[.map (some bm)]).run Tryd.prog (y.drewN n) = .ok (.int .i64 c) (y.drewN n) := fun n ty => (h.out.drewN n).map.len_run Tryd.underlying93 ty
  have hlen0 : ∀ ty, (Builtin.len_ #[93] ty #[.map (some bm)]).run Tryd.prog y = .ok (.int .i64 c) y := fun ty => h.out.map.len_run Tryd.underlying93 ty
  have k4 := obj_cell h.out.at_ (k := 4) rfl
  go_upto_region 12 with fail
  go_quiet (fail)
  go_upto_region 14 with fail
  refine abs_at (fun z => Hid (Gp M z b cur again tries top bm c g gv G) ∧ Hid (FG b bm gv w z)) ⟨Lib.hid (h.out.drewN _), Lib.hid (Keeps.drewN kb.out _)⟩ ?_
  clear k3 f3 k4 hlen hlen0 kb h
  rintro z ⟨h, kb⟩
  have k3 := obj_cell h.out.at_ (k := 3) rfl
  have HG0 := Lib.hid (fillG.start g top)
  have h' : Hid (Gp M z b cur again tries top bm c (fillG g top (top + 1)) gv G) := Lib.hid (by rw [HG0.out]; exact h.out)
  have kb' := kb
  go_wp2_with fail
  go_loopw [11] (fun s11 wr => ∃ (k : Int) (c' : Nat), top + 1 ≤ k ∧ k ≤ num ∧ s11 = .int .i64 k ∧ (c' : Int) ≤ c + (k - top - 1) ∧ Hid (Gp M wr b cur again tries top bm c' (fillG g top k) gv G) ∧ Hid (FG b bm gv w wr)) (fun s11 _ => (num - intOf s11).toNat)
  case atStart => exact ⟨top + 1, c, by omega, by omega, rfl, by omega, h', kb'⟩
  case round =>
    clear h h' kb kb' k3 HG0
    obtain ⟨k, c', hk1, hk2, rfl, hc', h, kb⟩ := hrel
    have hwk : (Lit.int .i64 k).wf = true := by simp [Lit.wf, IntKind.min, IntKind.max, IntKind.signed, IntKind.bits]; omega
    by_cases hlt : k < num
    · have k4 := obj_cell h.out.at_ (k := 4) rfl
      have hm := h.out.map
      go_upto_region 16 with (at_mapUpdate; refine wpList_mput _ rfl (.tmp 83) (.tmp 84) (.tmp 85) 93 rfl 3 99 glaw Tryd.underlying3 Tryd.underlying93 bm c' _ rfl hm (by unfold maxLen; omega) k (askedV 0 0) rfl rfl hwk ?_; intro w6 hm6 hgr)
      rw [LF.put, fillG.step g top k hk1] at hm6
      have hcb : ((if (LF (fillG g top k) k).isSome then c' else c' + 1 : Nat) : Int) ≤ c + (k + 1 - top - 1) := by split <;> omega
      generalize (if (LF (fillG g top k) k).isSome then c' else c' + 1 : Nat) = c6 at *
      have h6 := Lib.hid (h.out.mapped hm6 hgr)
      have kb6 : Hid (FG b bm gv w w6) := Lib.hid (Keeps.trans kb.out ⟨hgr.os, hgr.tape, hgr.output, hgr.size, fun j hj hn => hgr.block j hj (by rintro e; simp at e; exact hn (.inr (.inl e)))⟩)
      clear hm hm6 hgr k4 h kb
      simp only [Act.put]
      go_wp2_with fail
      go_roundw
      case measure => simp [intOf]; omega
      case rel => exact ⟨k + 1, c6, by omega, by omega, rfl, hcb, h6, kb6⟩
    · obtain rfl : k = num := by omega
      have k3 := obj_cell h.out.at_ (k := 3) rfl
      have f3 := obj_free h.out.at_ 3
      go_upto_region 21 with fail
      refine abs_at (fun z => Hid (Gp M z b cur again tries k bm c' (fillG g top k) gv G) ∧ Hid (FG b bm gv w z)) ⟨Lib.hid (h.out.set (obj_set h.out.at_ 3 _)), Lib.hid (Keeps.setCell kb.out (.inl (.inl rfl)) _)⟩ ?_
      clear k3 f3 kb h
      rintro z ⟨h, kb⟩
      have k0 := obj_cell h.out.at_ (k := 0) rfl
      have f0 := obj_free h.out.at_ 0
      go_wp2_with fail
      refine (clockSet_any b 0 now _ _ k0 f0).mono ?_
      rintro e w9 ⟨rfl, rfl⟩
      go_wp2_with fail
      go_ret2
      exact ⟨c', rfl, h.out.set (obj_set h.out.at_ 0 _), by omega, Keeps.setCell kb.out (.inl (.inl rfl)) _⟩
set_option maxRecDepth 100000 in
set_option maxHeartbeats 4000000 in
theorem hear_lacking' (M b : Nat) (cur again tries top num now : Int) (bm c : Nat) (g : Int → Option (Int × Int)) (gv : Value) (G : List Int) (hc : Pl.clockOk cur now) (hl : Pl.long num = true) (htop : top ≤ 1099511627776) (hcc : c ≤ 1000) (h0 : 0 ≤ top) (h1 : num ≤ top) (t a : Int) (hg : g num = some (t, a)) (w : World) (hM : M ≤ w.heap.size) (h : Gp M w b cur again tries top bm c g gv G) :
    Calls Tryd.prog 17 #[.pointer (some ⟨b, 0, none⟩), .int .i64 num, .int .i64 now] w fun e w' => e = .returned (.tuple #[.bool true, .nilIface]) ∧ Gp M w' b now again tries top bm (c - 1) (delG g num) gv G ∧ FG b bm gv w w' := by
  have hnum := (Pl.long_iff num).1 hl
  obtain ⟨hnum1, hnum2⟩ := hnum
  have hw : (Lit.int .i64 num).wf = true := by simp [Lit.wf, IntKind.min, IntKind.max, IntKind.signed, IntKind.bits]; omega
  have HC := Lib.hid hc
  clear hc
  have HG := Lib.hid hg
  have HF := Lib.hid (LF.some hg)
  clear hg
  have k0 := obj_cell h.at_ (k := 0) rfl
  go_enter Tryd.func17, Tryd.ntmps17
  go_wp2_with fail
  refine (clockCheck_ok b 0 cur now HC.out _ k0).mono ?_
  rintro e w' ⟨rfl, rfl⟩
  go_wp2_with fail
  refine (long_any num _).mono ?_
  rw [hl]
  rintro e w' ⟨rfl, rfl⟩
  have k4 := obj_cell h.at_ (k := 4) rfl
  have hm := h.map
  clear k0
  go_upto_region 9 with (at_lookup; refine wpList_mlook _ rfl (.tmp 28) (.tmp 29) 93 rfl 3 99 glaw Tryd.underlying3 Tryd.underlying93 (zeroAsked _) bm c _ rfl hm num rfl hw ?_; rw [HF.out]; simp only [Option.getD_some, Option.isSome_some])
  refine abs_at (fun y => Hid (Gp M y b cur again tries top bm c g gv G) ∧ Hid (FG b bm gv w y)) ⟨Lib.hid (h.below ((Below.refl _ _).alloc (Nat.le_refl _) _)), Lib.hid ((Keeps.refl _ _).alloc _)⟩ ?_
  clear hm k4 h
  rintro y ⟨h, kb⟩
  have k3 := obj_cell h.out.at_ (k := 3) rfl
  have f3 := obj_free h.out.at_ 3
  have k4 := obj_cell h.out.at_ (k := 4) rfl
  have hm := h.out.map
  go_upto_region 21 with (at_delete; refine wpList_mdel _ rfl (.tmp 95) (.tmp 96) 93 3 rfl 99 glaw Tryd.underlying3 Tryd.underlying93 bm c _ rfl hm num rfl hw ?_; intro w6 hm6 hturn)
  rw [LF.del, LF.some HG.out] at hm6
  simp only [Option.isSome_some, if_true] at hm6
  have hgr := hturn.grown
  have h6 := Lib.hid (h.out.mapped hm6 hgr)
  have kb6 : Hid (FG b bm gv w w6) := Lib.hid (Keeps.trans kb.out ⟨hgr.os, hgr.tape, hgr.output, hgr.size, fun j hj hn => hgr.block j hj (by rintro e; simp at e; exact hn (.inr (.inl e)))⟩)
  clear hm hm6 hgr hturn k4 k3 f3 h kb
  simp only [Act.put]
  have h := h6
  have kb := kb6
  have k0 := obj_cell h.out.at_ (k := 0) rfl
  have f0 := obj_free h.out.at_ 0
  go_wp2_with fail
  refine (clockSet_any b 0 now _ _ k0 f0).mono ?_
  rintro e w9 ⟨rfl, rfl⟩
  go_wp2_with fail
  go_ret2
  exact ⟨rfl, h.out.set (obj_set h.out.at_ 0 _), Keeps.setCell kb.out (.inl (.inl rfl)) _⟩
set_option maxRecDepth 100000 in
set_option maxHeartbeats 4000000 in
theorem hear_known' (M b : Nat) (cur again tries top num now : Int) (bm c : Nat) (g : Int → Option (Int × Int)) (gv : Value) (G : List Int) (hc : Pl.clockOk cur now) (hl : Pl.long num = true) (htop : top ≤ 1099511627776) (hcc : c ≤ 1000) (h0 : 0 ≤ top) (h1 : num ≤ top) (hg : g num = none) (w : World) (hM : M ≤ w.heap.size) (h : Gp M w b cur again tries top bm c g gv G) :
    Calls Tryd.prog 17 #[.pointer (some ⟨b, 0, none⟩), .int .i64 num, .int .i64 now] w fun e w' => e = .returned (.tuple #[.bool false, .nilIface]) ∧ Gp M w' b now again tries top bm c g gv G ∧ FG b bm gv w w' := by
  have hnum := (Pl.long_iff num).1 hl
  obtain ⟨hnum1, hnum2⟩ := hnum
  have hw : (Lit.int .i64 num).wf = true := by simp [Lit.wf, IntKind.min, IntKind.max, IntKind.signed, IntKind.bits]; omega
  have HC := Lib.hid hc
  clear hc
  have HF := Lib.hid (LF.none hg)
  clear hg
  have k0 := obj_cell h.at_ (k := 0) rfl
  go_enter Tryd.func17, Tryd.ntmps17
  go_wp2_with fail
  refine (clockCheck_ok b 0 cur now HC.out _ k0).mono ?_
  rintro e w' ⟨rfl, rfl⟩
  go_wp2_with fail
  refine (long_any num _).mono ?_
  rw [hl]
  rintro e w' ⟨rfl, rfl⟩
  have k4 := obj_cell h.at_ (k := 4) rfl
  have hm := h.map
  clear k0
  go_upto_region 9 with (at_lookup; refine wpList_mlook _ rfl (.tmp 28) (.tmp 29) 93 rfl 3 99 glaw Tryd.underlying3 Tryd.underlying93 (zeroAsked _) bm c _ rfl hm num rfl hw ?_; rw [HF.out]; simp only [Option.getD_none, Option.isSome_none])
  refine abs_at (fun y => Hid (Gp M y b cur again tries top bm c g gv G) ∧ Hid (FG b bm gv w y)) ⟨Lib.hid (h.below ((Below.refl _ _).alloc (Nat.le_refl _) _)), Lib.hid ((Keeps.refl _ _).alloc _)⟩ ?_
  clear hm k4 h
  rintro y ⟨h, kb⟩
  have k3 := obj_cell h.out.at_ (k := 3) rfl
  have f3 := obj_free h.out.at_ 3
  have k0 := obj_cell h.out.at_ (k := 0) rfl
  have f0 := obj_free h.out.at_ 0
  go_wp2_with fail
  refine (clockSet_any b 0 now _ _ k0 f0).mono ?_
  rintro e w9 ⟨rfl, rfl⟩
  go_wp2_with fail
  go_ret2
  exact ⟨rfl, h.out.set (obj_set h.out.at_ 0 _), Keeps.setCell kb.out (.inl (.inl rfl)) _⟩
theorem hear_first (M b : Nat) (cur again tries top num now : Int) (bm c : Nat) (g : Int → Option (Int × Int)) (gv : Value) (G : List Int) (hc : Pl.clockOk cur now) (hl : Pl.long num = true) (htop : top ≤ 1099511627776) (hcc : c ≤ 1000) (h0 : top < 0) (hg : g num = none) (w : World) (hM : M ≤ w.heap.size) (h : Gp M w b cur again tries top bm c g gv G) :
    Calls Tryd.prog 17 #[.pointer (some ⟨b, 0, none⟩), .int .i64 num, .int .i64 now] w fun e w' => e = .returned (.tuple #[.bool true, .nilIface]) ∧ Gp M w' b now again tries num bm c g gv G ∧ Below M w w' :=
  (hear_first' M b cur again tries top num now bm c g gv G hc hl htop hcc h0 hg w hM h).mono fun e w' ⟨q1, q2, q3⟩ => ⟨q1, q2, FG.below q3 h hM⟩
theorem hear_full (M b : Nat) (cur again tries top num now : Int) (bm c : Nat) (g : Int → Option (Int × Int)) (gv : Value) (G : List Int) (hc : Pl.clockOk cur now) (hl : Pl.long num = true) (htop : top ≤ 1099511627776) (hcc : c ≤ 1000) (h0 : 0 ≤ top) (h1 : top < num) (hfull : 200 < num - top - 1 + c) (hg : g num = none) (w : World) (hM : M ≤ w.heap.size) (h : Gp M w b cur again tries top bm c g gv G) :
    Calls Tryd.prog 17 #[.pointer (some ⟨b, 0, none⟩), .int .i64 num, .int .i64 now] w fun e w' => e = .returned (.tuple #[.bool false, .iface 70 (.int .i64 4)]) ∧ Gp M w' b cur again tries top bm c g gv G ∧ Below M w w' :=
  (hear_full' M b cur again tries top num now bm c g gv G hc hl htop hcc h0 h1 hfull hg w hM h).mono fun e w' ⟨q1, q2, q3⟩ => ⟨q1, q2, FG.below q3 h hM⟩
theorem hear_lacking (M b : Nat) (cur again tries top num now : Int) (bm c : Nat) (g : Int → Option (Int × Int)) (gv : Value) (G : List Int) (hc : Pl.clockOk cur now) (hl : Pl.long num = true) (htop : top ≤ 1099511627776) (hcc : c ≤ 1000) (h0 : 0 ≤ top) (h1 : num ≤ top) (t a : Int) (hg : g num = some (t, a)) (w : World) (hM : M ≤ w.heap.size) (h : Gp M w b cur again tries top bm c g gv G) :
    Calls Tryd.prog 17 #[.pointer (some ⟨b, 0, none⟩), .int .i64 num, .int .i64 now] w fun e w' => e = .returned (.tuple #[.bool true, .nilIface]) ∧ Gp M w' b now again tries top bm (c - 1) (delG g num) gv G ∧ Below M w w' :=
  (hear_lacking' M b cur again tries top num now bm c g gv G hc hl htop hcc h0 h1 t a hg w hM h).mono fun e w' ⟨q1, q2, q3⟩ => ⟨q1, q2, FG.below q3 h hM⟩
theorem hear_known (M b : Nat) (cur again tries top num now : Int) (bm c : Nat) (g : Int → Option (Int × Int)) (gv : Value) (G : List Int) (hc : Pl.clockOk cur now) (hl : Pl.long num = true) (htop : top ≤ 1099511627776) (hcc : c ≤ 1000) (h0 : 0 ≤ top) (h1 : num ≤ top) (hg : g num = none) (w : World) (hM : M ≤ w.heap.size) (h : Gp M w b cur again tries top bm c g gv G) :
    Calls Tryd.prog 17 #[.pointer (some ⟨b, 0, none⟩), .int .i64 num, .int .i64 now] w fun e w' => e = .returned (.tuple #[.bool false, .nilIface]) ∧ Gp M w' b now again tries top bm c g gv G ∧ Below M w w' :=
  (hear_known' M b cur again tries top num now bm c g gv G hc hl htop hcc h0 h1 hg w hM h).mono fun e w' ⟨q1, q2, q3⟩ => ⟨q1, q2, FG.below q3 h hM⟩
theorem hear_above (M b : Nat) (cur again tries top num now : Int) (bm c : Nat) (g : Int → Option (Int × Int)) (gv : Value) (G : List Int) (hc : Pl.clockOk cur now) (hl : Pl.long num = true) (htop : top ≤ 1099511627776) (hcc : c ≤ 1000) (h0 : 0 ≤ top) (h1 : top < num) (hfits : num - top - 1 + c ≤ 200) (hg : g num = none) (w : World) (hM : M ≤ w.heap.size) (h : Gp M w b cur again tries top bm c g gv G) :
    Calls Tryd.prog 17 #[.pointer (some ⟨b, 0, none⟩), .int .i64 num, .int .i64 now] w fun e w' => ∃ c' : Nat, e = .returned (.tuple #[.bool true, .nilIface]) ∧ Gp M w' b now again tries num bm c' (fillG g top num) gv G ∧ (c' : Int) ≤ c + (num - top - 1) ∧ Below M w w' :=
  (hear_above' M b cur again tries top num now bm c g gv G hc hl htop hcc h0 h1 hfits hg w hM h).mono fun e w' ⟨c', q1, q2, q3, q4⟩ => ⟨c', q1, q2, q3, FG.below q4 h hM⟩
end Go.Proofs.YtlfdkoebjddokaaDoor
