import Derived.Test.YtlfdkoebjddokaaDoorGapsDueW
/-! gaps.GaveUp. -/
namespace Go.Proofs.YtlfdkoebjddokaaDoor
open Go.RowKit Go.Maps
set_option linter.unusedVariables false
set_option linter.unusedSimpArgs false
set_option maxHeartbeats 1000000 in
theorem gaveUp_any' (M b : Nat) (now again tries top : Int) (bm c : Nat) (g : Int → Option (Int × Int)) (gv : Value) (G : List Int) (hG : G.length ≤ 1000000) (w : World) (hM : M ≤ w.heap.size) (h : Gp M w b now again tries top bm c g gv G) :
    Calls Tryd.prog 22 #[.pointer (some ⟨b, 0, none⟩)] w fun e w' => e = .returned gv ∧ Gp M w' b now again tries top bm c g (.slice none 0 0) [] ∧ w'.ownsRow M 3 1 gv G.length ((G.mergeSort fun x y => decide (x ≤ y)).map encI) ∧ FG b bm gv w w' := by
  have hform : ∃ (oa : Option Addr) (cap : Nat), gv = .slice oa G.length cap := by
    obtain ⟨oa, cap, e, _⟩ := intRow_read h.row
    exact ⟨oa, cap, e⟩
  obtain ⟨oa, cap, rfl⟩ := hform
  have k5 := obj_cell h.at_ (k := 5) rfl
  have f5 := obj_free h.at_ 5
  have HH := Lib.hid h
  clear h
  go_enter Tryd.func22, Tryd.ntmps22
  go_upto_region 3 with fail
  have hrow : (w.setCell ⟨b, 5, none⟩ (.slice none 0 0)).ownsRow M 3 1 (.slice oa G.length cap) G.length (G.map encI) := intRow_keep HH.out.row (fun k o hk _ => Below.heap_setCell _ _ _ _ (by
    rintro rfl
    have := HH.out.at_; unfold GapsAt at this; rw [this] at hk; simp at hk))
  have hg2 : Gp M (w.setCell ⟨b, 5, none⟩ (.slice none 0 0)) b now again tries top bm c g (.slice none 0 0) [] :=
    ⟨obj_set HH.out.at_ 5 _, HH.out.map.block (Below.heap_setCell _ _ _ _ (Ne.symm HH.out.ne)), HH.out.ne, World.ownsRow_nil _ _ _ _, HH.out.low⟩
  have hb2 : FG b bm (.slice oa G.length cap) w (w.setCell ⟨b, 5, none⟩ (.slice none 0 0)) := Keeps.setCell (Keeps.refl _ _) (.inl (.inl rfl)) _
  refine abs_at (fun y => Hid (y.ownsRow M 3 1 (.slice oa G.length cap) G.length (G.map encI)) ∧ Hid (Gp M y b now again tries top bm c g (.slice none 0 0) []) ∧ Hid (FG b bm (.slice oa G.length cap) w y)) ⟨Lib.hid hrow, Lib.hid hg2, Lib.hid hb2⟩ ?_
  have hne := HH.out.rowNe
  clear k5 f5 hrow hg2 hb2
  rintro y ⟨r, hg, kb⟩
  go_wp2_with fail
  refine (sortInts_own M _ G _ hG r.out).mono ?_
  rintro e y2 ⟨rfl, r2, hgr⟩
  have e1 := hgr.block b (lt_of_block hg.out.at_) (fun e => (hne b e.symm).2.1 rfl)
  have e2 := hgr.block bm hg.out.map.lt (fun e => (hne bm e.symm).2.2 rfl)
  have hg2 : Hid (Gp M y2 b now again tries top bm c g (.slice none 0 0) []) := Lib.hid ⟨by have a := hg.out.at_; unfold GapsAt at *; rw [e1]; exact a, hg.out.map.block e2, hg.out.ne, World.ownsRow_nil _ _ _ _, hg.out.low⟩
  have kb2 : Hid (FG b bm (.slice oa G.length cap) w y2) := Lib.hid (Keeps.trans kb.out ⟨hgr.os, hgr.tape, hgr.output, hgr.size, fun k hk hn => hgr.block k hk (fun e => hn (.inr (.inr e.symm)))⟩)
  have R2 := Lib.hid r2
  clear r2 hgr e1 e2 hg kb hne r
  go_wp2_with fail
  go_ret
  exact ⟨rfl, hg2.out, R2.out, kb2.out⟩
theorem gaveUp_any (M b : Nat) (now again tries top : Int) (bm c : Nat) (g : Int → Option (Int × Int)) (gv : Value) (G : List Int) (hG : G.length ≤ 1000000) (w : World) (hM : M ≤ w.heap.size) (h : Gp M w b now again tries top bm c g gv G) :
    Calls Tryd.prog 22 #[.pointer (some ⟨b, 0, none⟩)] w fun e w' => e = .returned gv ∧ Gp M w' b now again tries top bm c g (.slice none 0 0) [] ∧ w'.ownsRow M 3 1 gv G.length ((G.mergeSort fun x y => decide (x ≤ y)).map encI) ∧ Below M w w' :=
  (gaveUp_any' M b now again tries top bm c g gv G hG w hM h).mono fun e w' ⟨q1, q2, q3, q4⟩ => ⟨q1, q2, q3, FG.below q4 h hM⟩
end Go.Proofs.YtlfdkoebjddokaaDoor
